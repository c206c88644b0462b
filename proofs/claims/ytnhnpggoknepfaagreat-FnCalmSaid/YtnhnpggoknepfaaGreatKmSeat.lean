/- A part of the proof of FnCalm: the program's types as data. There is no condition. -/
import Derived.Test.YtnhnpggoknepfaaGreatKxDef1
import Derived.Test.YtnhnpggoknepfaaGreatKmAm3
import Derived.Test.YtnhnpggoknepfaaGreatProg
namespace Km.X
open Go Km
set_option linter.unusedVariables false
inductive K | byte | int | str | end | parcel | record | event | item | held | key | l7count | packet | lrecord | part
abbrev TyK : K → Type
  | .byte => Int
  | .int => Int
  | .str => ByteArray
  | .end => DEnd
  | .parcel => DParcel
  | .record => DRecord
  | .event => DEvent
  | .item => DItem
  | .held => DHeld
  | .key => DKey
  | .l7count => DL7Count
  | .packet => DPacket
  | .lrecord => List DRecord
  | .part => DPart
abbrev V := AV K TyK
def kno : K → Nat
  | .byte => 0
  | .int => 1
  | .str => 2
  | .end => 3
  | .parcel => 4
  | .record => 5
  | .event => 6
  | .item => 7
  | .held => 8
  | .key => 9
  | .l7count => 10
  | .packet => 11
  | .lrecord => 12
  | .part => 13
def kcast : (s t : K) → List (TyK s) → Option (List (TyK t))
  | .byte, .byte, xs => some xs
  | .int, .int, xs => some xs
  | .str, .str, xs => some xs
  | .end, .end, xs => some xs
  | .parcel, .parcel, xs => some xs
  | .record, .record, xs => some xs
  | .event, .event, xs => some xs
  | .item, .item, xs => some xs
  | .held, .held, xs => some xs
  | .key, .key, xs => some xs
  | .l7count, .l7count, xs => some xs
  | .packet, .packet, xs => some xs
  | .lrecord, .lrecord, xs => some xs
  | .part, .part, xs => some xs
  | _, _, _ => none
def ksz : K → Nat
  | .byte => 1
  | .int => 1
  | .str => 1
  | .end => 12
  | .parcel => 3
  | .record => 4
  | .event => 5
  | .item => 4
  | .held => 3
  | .key => 2
  | .l7count => 3
  | .packet => 9
  | .lrecord => 1
  | .part => 2
def kby : K → Nat
  | .byte => 1
  | .int => 8
  | .str => 16
  | .end => 152
  | .parcel => 40
  | .record => 40
  | .event => 48
  | .item => 40
  | .held => 32
  | .key => 8
  | .l7count => 32
  | .packet => 80
  | .lrecord => 24
  | .part => 24
def kenc : (t : K) → TyK t → List V
  | .byte, x => [.lit (.int .u8 x)]
  | .int, x => [.lit (.int .i64 x)]
  | .str, x => [.lit (.string x)]
  | .end, x => [.lit (.int .i64 x.Number), .lit (.bool x.Up), .lit (.int .i64 x.Life), .lit (.int .i64 x.Peer), .lit (.int .i64 x.Since), .lit (.bool x.Owes), .lit (.int .i64 x.Send.Base), .inl false .item x.Send.Items, .lit (.int .i64 x.Take.Next), .inl false .held x.Take.Held, .lit (.string x.Take.Open), .inl false .str x.Take.Ready]
  | .parcel, x => [.lit (.int .i64 x.To), .lit (.string x.Sent), .lit (.string x.Bytes)]
  | .record, x => [.lit (.int .i64 x.From), .lit (.int .i64 x.A), .lit (.int .i64 x.B), .lit (.string x.Text)]
  | .event, x => [.lit (.int .i64 x.Kind), .lit (.int .i64 x.A), .lit (.int .i64 x.B), .lit (.int .i64 x.C), .lit (.string x.Text)]
  | .item, x => [.lit (.string x.Part.Text), .lit (.bool x.Part.Last), .lit (.bool x.Has), .lit (.int .i64 x.Since)]
  | .held, x => [.lit (.int .i64 x.Seq), .lit (.string x.Part.Text), .lit (.bool x.Part.Last)]
  | .key, x => [.lit (.int .i64 x.to), .lit (.string x.bytes)]
  | .l7count, x => [.lit (.int .i64 x.to), .lit (.string x.bytes), .lit (.int .i64 x.n)]
  | .packet, x => [.lit (.int .i64 x.Kind), .lit (.int .i64 x.From), .lit (.int .i64 x.Mine), .lit (.int .i64 x.Yours), .lit (.int .i64 x.Next), .lit (.int .i64 x.Mask), .lit (.int .i64 x.Seq), .lit (.bool x.Last), .lit (.string x.Part)]
  | .lrecord, x => [.inl true .record x]
  | .part, x => [.lit (.string x.Text), .lit (.bool x.Last)]
def kdec : (t : K) → List V → Option (TyK t)
  | .byte, [.lit (.int .u8 v1)] => some v1
  | .int, [.lit (.int .i64 v1)] => some v1
  | .str, [.lit (.string v1)] => some v1
  | .end, [.lit (.int .i64 v1), .lit (.bool v2), .lit (.int .i64 v3), .lit (.int .i64 v4), .lit (.int .i64 v5), .lit (.bool v6), .lit (.int .i64 v7), .inl false .item v8, .lit (.int .i64 v9), .inl false .held v10, .lit (.string v11), .inl false .str v12] => some ⟨v1, v2, v3, v4, v5, v6, ⟨v7, v8⟩, ⟨v9, v10, v11, v12⟩⟩
  | .parcel, [.lit (.int .i64 v1), .lit (.string v2), .lit (.string v3)] => some ⟨v1, v2, v3⟩
  | .record, [.lit (.int .i64 v1), .lit (.int .i64 v2), .lit (.int .i64 v3), .lit (.string v4)] => some ⟨v1, v2, v3, v4⟩
  | .event, [.lit (.int .i64 v1), .lit (.int .i64 v2), .lit (.int .i64 v3), .lit (.int .i64 v4), .lit (.string v5)] => some ⟨v1, v2, v3, v4, v5⟩
  | .item, [.lit (.string v1), .lit (.bool v2), .lit (.bool v3), .lit (.int .i64 v4)] => some ⟨⟨v1, v2⟩, v3, v4⟩
  | .held, [.lit (.int .i64 v1), .lit (.string v2), .lit (.bool v3)] => some ⟨v1, ⟨v2, v3⟩⟩
  | .key, [.lit (.int .i64 v1), .lit (.string v2)] => some ⟨v1, v2⟩
  | .l7count, [.lit (.int .i64 v1), .lit (.string v2), .lit (.int .i64 v3)] => some ⟨v1, v2, v3⟩
  | .packet, [.lit (.int .i64 v1), .lit (.int .i64 v2), .lit (.int .i64 v3), .lit (.int .i64 v4), .lit (.int .i64 v5), .lit (.int .i64 v6), .lit (.int .i64 v7), .lit (.bool v8), .lit (.string v9)] => some ⟨v1, v2, v3, v4, v5, v6, v7, v8, v9⟩
  | .lrecord, [.inl true .record v1] => some v1
  | .part, [.lit (.string v1), .lit (.bool v2)] => some ⟨v1, v2⟩
  | _, _ => none
def kbytes : (t : K) → List (TyK t) → Option (List Int)
  | .byte, xs => some xs
  | _, _ => none
def kofb : (t : K) → ByteArray → Option (List (TyK t))
  | .byte, b => some (bytesOf b)
  | _, _ => none
def kkeq : (k : K) → TyK k → TyK k → Bool
  | .key, x, y => eq_key x y
  | _, _, _ => false
def kmcast : (k v k' v' : K) → List (TyK k × TyK v) → Option (List (TyK k' × TyK v'))
  | .key, .int, .key, .int, xs => some xs
  | _, _, _, _, _ => none
def kbor : K → Bool
  | .lrecord => true
  | _ => false
def cod : Cod K TyK where
  same s t := Nat.beq (kno s) (kno t)
  cast := kcast
  sz := ksz
  by' := kby
  bor := kbor
  enc := kenc
  dec := kdec
  bytes := kbytes
  ofb := kofb
  keq := kkeq
  mcast := kmcast
theorem codOk : CodOk cod where
  same s t h := by have := Nat.eq_of_beq_eq_true h; cases s <;> cases t <;> first | rfl | (simp [kno] at this)
  len t x := by cases t <;> rfl
  dec t cs x h := by
    change kdec t cs = some x at h
    unfold kdec at h
    split at h <;> first | (cases h; rfl) | cases h
  deep t x c h := by
    change c ∈ kenc t x at h
    cases t <;> simp only [kenc, List.mem_cons, List.not_mem_nil, or_false] at h <;> (repeat' (rcases h with h | h)) <;> first | exact .inl ⟨_, rfl⟩ | exact .inr ⟨_, _, rfl, fun e => by cases e⟩
  cast s t xs ys h := by
    change kcast s t xs = some ys at h
    unfold kcast at h
    split at h
    all_goals first | (cases h; exact ⟨rfl, rfl⟩) | cases h
  ofb t b xs h := by
    change kofb t b = some xs at h
    unfold kofb at h
    split at h
    · cases h
      refine ⟨by unfold bytesOf; rw [List.length_map, Array.length_toList]; rfl, fun i x hx => ?_, rfl⟩
      simp only [bytesOf, List.getElem?_map, Option.map_eq_some_iff] at hx
      obtain ⟨c, hc, rfl⟩ := hx
      exact ⟨c, by simpa using hc, rfl⟩
    · cases h
  keq k x y h := by
    change kkeq k x y = true at h
    unfold kkeq at h
    split at h
    all_goals first | cases h | (first | exact eq_key_eq h)
  mcast k v k' v' xs ys h := by
    change kmcast k v k' v' xs = some ys at h
    unfold kmcast at h
    split at h
    all_goals first | (cases h; exact ⟨rfl, rfl, rfl⟩) | cases h
  bytes t xs bs h := by
    change kbytes t xs = some bs at h
    unfold kbytes at h
    split at h
    · cases h; exact ⟨rfl, fun i x b h1 h2 => by rw [h1] at h2; cases h2; rfl⟩
    · cases h
end Km.X
namespace Km.X
open Go Km Go.Proofs
set_option linter.unusedVariables false
set_option maxRecDepth 100000
def tbl : List (Nat × TI K TyK) := [
  (2, ⟨1, 8, .int .i64, [.lit (.int .i64 0)]⟩),
  (3, ⟨1, 8, .int .i64, [.lit (.int .i64 0)]⟩),
  (4, ⟨1, 1, .bool, [.lit (.bool false)]⟩),
  (5, ⟨1, 1, .int .u8, [.lit (.int .u8 0)]⟩),
  (9, ⟨1, 16, .str, [.lit (.string ⟨#[]⟩)]⟩),
  (12, ⟨1, 8, .int .u64, [.lit (.int .u64 0)]⟩),
  (21, ⟨1, 4, .int .i32, [.lit (.int .i32 0)]⟩),
  (22, ⟨1, 24, .slice 5 .byte, [.nil .byte]⟩),
  (23, ⟨1, 24, .slice 56 .end, [.nil .end]⟩),
  (24, ⟨1, 24, .slice 58 .parcel, [.nil .parcel]⟩),
  (25, ⟨1, 24, .slice 82 .record, [.nil .record]⟩),
  (27, ⟨7, 136, .struct [(0, 9), (1, 3), (2, 23), (3, 24), (4, 9), (5, 25), (6, 25)], [.lit (.string ⟨#[]⟩), .lit (.int .i64 0), .nil .end, .nil .parcel, .lit (.string ⟨#[]⟩), .nil .record, .nil .record]⟩),
  (35, ⟨5, 48, .struct [(0, 3), (1, 3), (2, 3), (3, 3), (4, 9)], [.lit (.int .i64 0), .lit (.int .i64 0), .lit (.int .i64 0), .lit (.int .i64 0), .lit (.string ⟨#[]⟩)]⟩),
  (39, ⟨1, 24, .slice 35 .event, [.nil .event]⟩),
  (41, ⟨1, 8, .other, [.lit (.pointer none)]⟩),
  (45, ⟨1, 24, .slice 3 .int, [.nil .int]⟩),
  (48, ⟨1, 24, .slice 113 .item, [.nil .item]⟩),
  (50, ⟨2, 32, .struct [(0, 3), (1, 48)], [.lit (.int .i64 0), .nil .item]⟩),
  (51, ⟨1, 24, .slice 116 .held, [.nil .held]⟩),
  (52, ⟨1, 24, .slice 9 .str, [.nil .str]⟩),
  (54, ⟨4, 72, .struct [(0, 3), (1, 51), (2, 9), (3, 52)], [.lit (.int .i64 0), .nil .held, .lit (.string ⟨#[]⟩), .nil .str]⟩),
  (56, ⟨12, 152, .struct [(0, 3), (1, 4), (2, 3), (3, 3), (4, 3), (5, 4), (6, 50), (8, 54)], [.lit (.int .i64 0), .lit (.bool false), .lit (.int .i64 0), .lit (.int .i64 0), .lit (.int .i64 0), .lit (.bool false), .lit (.int .i64 0), .nil .item, .lit (.int .i64 0), .nil .held, .lit (.string ⟨#[]⟩), .nil .str]⟩),
  (58, ⟨3, 40, .struct [(0, 3), (1, 9), (2, 9)], [.lit (.int .i64 0), .lit (.string ⟨#[]⟩), .lit (.string ⟨#[]⟩)]⟩),
  (60, ⟨1, 8, .map 62 3 .key .int, [.lit (.map none)]⟩),
  (62, ⟨2, 24, .struct [(0, 3), (1, 9)], [.lit (.int .i64 0), .lit (.string ⟨#[]⟩)]⟩),
  (66, ⟨1, 24, .slice 98 .l7count, [.nil .l7count]⟩),
  (77, ⟨1, 24, .slice 88 .packet, [.nil .packet]⟩),
  (79, ⟨15, 200, .struct [(0, 3), (1, 56), (13, 77), (14, 9)], [.lit (.int .i64 0), .lit (.int .i64 0), .lit (.bool false), .lit (.int .i64 0), .lit (.int .i64 0), .lit (.int .i64 0), .lit (.bool false), .lit (.int .i64 0), .nil .item, .lit (.int .i64 0), .nil .held, .lit (.string ⟨#[]⟩), .nil .str, .nil .packet, .lit (.string ⟨#[]⟩)]⟩),
  (82, ⟨4, 40, .struct [(0, 3), (1, 3), (2, 3), (3, 9)], [.lit (.int .i64 0), .lit (.int .i64 0), .lit (.int .i64 0), .lit (.string ⟨#[]⟩)]⟩),
  (83, ⟨1, 24, .slice 25 .lrecord, [.nil .lrecord]⟩),
  (85, ⟨2, 32, .struct [(0, 22), (1, 3)], [.nil .byte, .lit (.int .i64 0)]⟩),
  (88, ⟨9, 80, .struct [(0, 3), (1, 3), (2, 3), (3, 3), (4, 3), (5, 3), (6, 3), (7, 4), (8, 9)], [.lit (.int .i64 0), .lit (.int .i64 0), .lit (.int .i64 0), .lit (.int .i64 0), .lit (.int .i64 0), .lit (.int .i64 0), .lit (.int .i64 0), .lit (.bool false), .lit (.string ⟨#[]⟩)]⟩),
  (92, ⟨1, 8, .other, [.lit (.pointer none)]⟩),
  (98, ⟨3, 32, .struct [(0, 3), (1, 9), (2, 3)], [.lit (.int .i64 0), .lit (.string ⟨#[]⟩), .lit (.int .i64 0)]⟩),
  (111, ⟨2, 24, .struct [(0, 9), (1, 4)], [.lit (.string ⟨#[]⟩), .lit (.bool false)]⟩),
  (113, ⟨4, 40, .struct [(0, 111), (2, 4), (3, 3)], [.lit (.string ⟨#[]⟩), .lit (.bool false), .lit (.bool false), .lit (.int .i64 0)]⟩),
  (116, ⟨3, 32, .struct [(0, 3), (1, 111)], [.lit (.int .i64 0), .lit (.string ⟨#[]⟩), .lit (.bool false)]⟩),
  (119, ⟨1, 8, .other, [.lit (.pointer none)]⟩),
  (132, ⟨1, 24, .slice 111 .part, [.nil .part]⟩),
  (138, ⟨1, 8, .int .u64, [.lit (.int .u64 0)]⟩),
  (139, ⟨1, 8, .other, [.lit (.pointer none)]⟩),
  (140, ⟨1, 8, .int .u64, [.lit (.int .u64 0)]⟩),
  (141, ⟨8, 8, .arr 8 5 .byte, [.lit (.int .u8 0), .lit (.int .u8 0), .lit (.int .u8 0), .lit (.int .u8 0), .lit (.int .u8 0), .lit (.int .u8 0), .lit (.int .u8 0), .lit (.int .u8 0)]⟩),
  (151, ⟨1, 4, .int .u32, [.lit (.int .u32 0)]⟩),
  (155, ⟨1, 8, .other, [.lit (.pointer none)]⟩)]
abbrev T := lookT tbl
theorem row2 : RowOk Tryz.prog cod T 2 ⟨1, 8, .int .i64, [.lit (.int .i64 0)]⟩ := ⟨_, _, _, Tryz.type2, rfl, rfl, rfl, by kernel_rfl, by kernel_rfl, Tryz.underlying2, by kernel_rfl, rfl⟩
theorem row3 : RowOk Tryz.prog cod T 3 ⟨1, 8, .int .i64, [.lit (.int .i64 0)]⟩ := ⟨_, _, _, Tryz.type3, rfl, rfl, rfl, by kernel_rfl, by kernel_rfl, Tryz.underlying3, by kernel_rfl, rfl⟩
theorem row4 : RowOk Tryz.prog cod T 4 ⟨1, 1, .bool, [.lit (.bool false)]⟩ := ⟨_, _, _, Tryz.type4, rfl, rfl, rfl, by kernel_rfl, by kernel_rfl, Tryz.underlying4, by kernel_rfl, rfl⟩
theorem row5 : RowOk Tryz.prog cod T 5 ⟨1, 1, .int .u8, [.lit (.int .u8 0)]⟩ := ⟨_, _, _, Tryz.type5, rfl, rfl, rfl, by kernel_rfl, by kernel_rfl, Tryz.underlying5, by kernel_rfl, rfl⟩
theorem row9 : RowOk Tryz.prog cod T 9 ⟨1, 16, .str, [.lit (.string ⟨#[]⟩)]⟩ := ⟨_, _, _, Tryz.type9, rfl, rfl, rfl, by kernel_rfl, by kernel_rfl, Tryz.underlying9, by kernel_rfl, rfl⟩
theorem row12 : RowOk Tryz.prog cod T 12 ⟨1, 8, .int .u64, [.lit (.int .u64 0)]⟩ := ⟨_, _, _, Tryz.type12, rfl, rfl, rfl, by kernel_rfl, by kernel_rfl, Tryz.underlying12, by kernel_rfl, rfl⟩
theorem row21 : RowOk Tryz.prog cod T 21 ⟨1, 4, .int .i32, [.lit (.int .i32 0)]⟩ := ⟨_, _, _, Tryz.type21, rfl, rfl, rfl, by kernel_rfl, by kernel_rfl, Tryz.underlying21, by kernel_rfl, rfl⟩
theorem row22 : RowOk Tryz.prog cod T 22 ⟨1, 24, .slice 5 .byte, [.nil .byte]⟩ := ⟨_, _, _, Tryz.type22, rfl, rfl, rfl, by kernel_rfl, by kernel_rfl, Tryz.underlying22, by kernel_rfl, ⟨⟨rfl, _, Tryz.type5, by kernel_rfl, by kernel_rfl⟩, _, _, Tryz.type5, rfl, by kernel_rfl, by kernel_rfl, by decide⟩⟩
theorem row23 : RowOk Tryz.prog cod T 23 ⟨1, 24, .slice 56 .end, [.nil .end]⟩ := ⟨_, _, _, Tryz.type23, rfl, rfl, rfl, by kernel_rfl, by kernel_rfl, Tryz.underlying23, by kernel_rfl, ⟨⟨rfl, _, Tryz.type56, by kernel_rfl, by kernel_rfl⟩, _, _, Tryz.type56, rfl, by kernel_rfl, by kernel_rfl, by decide⟩⟩
theorem row24 : RowOk Tryz.prog cod T 24 ⟨1, 24, .slice 58 .parcel, [.nil .parcel]⟩ := ⟨_, _, _, Tryz.type24, rfl, rfl, rfl, by kernel_rfl, by kernel_rfl, Tryz.underlying24, by kernel_rfl, ⟨⟨rfl, _, Tryz.type58, by kernel_rfl, by kernel_rfl⟩, _, _, Tryz.type58, rfl, by kernel_rfl, by kernel_rfl, by decide⟩⟩
theorem row25 : RowOk Tryz.prog cod T 25 ⟨1, 24, .slice 82 .record, [.nil .record]⟩ := ⟨_, _, _, Tryz.type25, rfl, rfl, rfl, by kernel_rfl, by kernel_rfl, Tryz.underlying25, by kernel_rfl, ⟨⟨rfl, _, Tryz.type82, by kernel_rfl, by kernel_rfl⟩, _, _, Tryz.type82, rfl, by kernel_rfl, by kernel_rfl, by decide⟩⟩
theorem row27 : RowOk Tryz.prog cod T 27 ⟨7, 136, .struct [(0, 9), (1, 3), (2, 23), (3, 24), (4, 9), (5, 25), (6, 25)], [.lit (.string ⟨#[]⟩), .lit (.int .i64 0), .nil .end, .nil .parcel, .lit (.string ⟨#[]⟩), .nil .record, .nil .record]⟩ := ⟨_, _, _, Tryz.type27, rfl, rfl, rfl, by kernel_rfl, by kernel_rfl, Tryz.underlying27, by kernel_rfl, ⟨_, rfl, by kernel_rfl, by kernel_rfl, by kernel_rfl, by kernel_rfl, by kernel_rfl⟩⟩
theorem row35 : RowOk Tryz.prog cod T 35 ⟨5, 48, .struct [(0, 3), (1, 3), (2, 3), (3, 3), (4, 9)], [.lit (.int .i64 0), .lit (.int .i64 0), .lit (.int .i64 0), .lit (.int .i64 0), .lit (.string ⟨#[]⟩)]⟩ := ⟨_, _, _, Tryz.type35, rfl, rfl, rfl, by kernel_rfl, by kernel_rfl, Tryz.underlying35, by kernel_rfl, ⟨_, rfl, by kernel_rfl, by kernel_rfl, by kernel_rfl, by kernel_rfl, by kernel_rfl⟩⟩
theorem row39 : RowOk Tryz.prog cod T 39 ⟨1, 24, .slice 35 .event, [.nil .event]⟩ := ⟨_, _, _, Tryz.type39, rfl, rfl, rfl, by kernel_rfl, by kernel_rfl, Tryz.underlying39, by kernel_rfl, ⟨⟨rfl, _, Tryz.type35, by kernel_rfl, by kernel_rfl⟩, _, _, Tryz.type35, rfl, by kernel_rfl, by kernel_rfl, by decide⟩⟩
theorem row41 : RowOk Tryz.prog cod T 41 ⟨1, 8, .other, [.lit (.pointer none)]⟩ := ⟨_, _, _, Tryz.type41, rfl, rfl, rfl, by kernel_rfl, by kernel_rfl, Tryz.underlying41, by kernel_rfl, trivial⟩
theorem row45 : RowOk Tryz.prog cod T 45 ⟨1, 24, .slice 3 .int, [.nil .int]⟩ := ⟨_, _, _, Tryz.type45, rfl, rfl, rfl, by kernel_rfl, by kernel_rfl, Tryz.underlying45, by kernel_rfl, ⟨⟨rfl, _, Tryz.type3, by kernel_rfl, by kernel_rfl⟩, _, _, Tryz.type3, rfl, by kernel_rfl, by kernel_rfl, by decide⟩⟩
theorem row48 : RowOk Tryz.prog cod T 48 ⟨1, 24, .slice 113 .item, [.nil .item]⟩ := ⟨_, _, _, Tryz.type48, rfl, rfl, rfl, by kernel_rfl, by kernel_rfl, Tryz.underlying48, by kernel_rfl, ⟨⟨rfl, _, Tryz.type113, by kernel_rfl, by kernel_rfl⟩, _, _, Tryz.type113, rfl, by kernel_rfl, by kernel_rfl, by decide⟩⟩
theorem row50 : RowOk Tryz.prog cod T 50 ⟨2, 32, .struct [(0, 3), (1, 48)], [.lit (.int .i64 0), .nil .item]⟩ := ⟨_, _, _, Tryz.type50, rfl, rfl, rfl, by kernel_rfl, by kernel_rfl, Tryz.underlying50, by kernel_rfl, ⟨_, rfl, by kernel_rfl, by kernel_rfl, by kernel_rfl, by kernel_rfl, by kernel_rfl⟩⟩
theorem row51 : RowOk Tryz.prog cod T 51 ⟨1, 24, .slice 116 .held, [.nil .held]⟩ := ⟨_, _, _, Tryz.type51, rfl, rfl, rfl, by kernel_rfl, by kernel_rfl, Tryz.underlying51, by kernel_rfl, ⟨⟨rfl, _, Tryz.type116, by kernel_rfl, by kernel_rfl⟩, _, _, Tryz.type116, rfl, by kernel_rfl, by kernel_rfl, by decide⟩⟩
theorem row52 : RowOk Tryz.prog cod T 52 ⟨1, 24, .slice 9 .str, [.nil .str]⟩ := ⟨_, _, _, Tryz.type52, rfl, rfl, rfl, by kernel_rfl, by kernel_rfl, Tryz.underlying52, by kernel_rfl, ⟨⟨rfl, _, Tryz.type9, by kernel_rfl, by kernel_rfl⟩, _, _, Tryz.type9, rfl, by kernel_rfl, by kernel_rfl, by decide⟩⟩
theorem row54 : RowOk Tryz.prog cod T 54 ⟨4, 72, .struct [(0, 3), (1, 51), (2, 9), (3, 52)], [.lit (.int .i64 0), .nil .held, .lit (.string ⟨#[]⟩), .nil .str]⟩ := ⟨_, _, _, Tryz.type54, rfl, rfl, rfl, by kernel_rfl, by kernel_rfl, Tryz.underlying54, by kernel_rfl, ⟨_, rfl, by kernel_rfl, by kernel_rfl, by kernel_rfl, by kernel_rfl, by kernel_rfl⟩⟩
theorem row56 : RowOk Tryz.prog cod T 56 ⟨12, 152, .struct [(0, 3), (1, 4), (2, 3), (3, 3), (4, 3), (5, 4), (6, 50), (8, 54)], [.lit (.int .i64 0), .lit (.bool false), .lit (.int .i64 0), .lit (.int .i64 0), .lit (.int .i64 0), .lit (.bool false), .lit (.int .i64 0), .nil .item, .lit (.int .i64 0), .nil .held, .lit (.string ⟨#[]⟩), .nil .str]⟩ := ⟨_, _, _, Tryz.type56, rfl, rfl, rfl, by kernel_rfl, by kernel_rfl, Tryz.underlying56, by kernel_rfl, ⟨_, rfl, by kernel_rfl, by kernel_rfl, by kernel_rfl, by kernel_rfl, by kernel_rfl⟩⟩
theorem row58 : RowOk Tryz.prog cod T 58 ⟨3, 40, .struct [(0, 3), (1, 9), (2, 9)], [.lit (.int .i64 0), .lit (.string ⟨#[]⟩), .lit (.string ⟨#[]⟩)]⟩ := ⟨_, _, _, Tryz.type58, rfl, rfl, rfl, by kernel_rfl, by kernel_rfl, Tryz.underlying58, by kernel_rfl, ⟨_, rfl, by kernel_rfl, by kernel_rfl, by kernel_rfl, by kernel_rfl, by kernel_rfl⟩⟩
theorem row60 : RowOk Tryz.prog cod T 60 ⟨1, 8, .map 62 3 .key .int, [.lit (.map none)]⟩ := ⟨_, _, _, Tryz.type60, rfl, rfl, rfl, by kernel_rfl, by kernel_rfl, Tryz.underlying60, by kernel_rfl, ⟨rfl, fun _ _ => by kernel_rfl, ⟨_, _, rfl, rfl, by kernel_rfl⟩, fun _ => rfl, _, _, Tryz.type3, rfl, by kernel_rfl⟩⟩
theorem row62 : RowOk Tryz.prog cod T 62 ⟨2, 24, .struct [(0, 3), (1, 9)], [.lit (.int .i64 0), .lit (.string ⟨#[]⟩)]⟩ := ⟨_, _, _, Tryz.type62, rfl, rfl, rfl, by kernel_rfl, by kernel_rfl, Tryz.underlying62, by kernel_rfl, ⟨_, rfl, by kernel_rfl, by kernel_rfl, by kernel_rfl, by kernel_rfl, by kernel_rfl⟩⟩
theorem row66 : RowOk Tryz.prog cod T 66 ⟨1, 24, .slice 98 .l7count, [.nil .l7count]⟩ := ⟨_, _, _, Tryz.type66, rfl, rfl, rfl, by kernel_rfl, by kernel_rfl, Tryz.underlying66, by kernel_rfl, ⟨⟨rfl, _, Tryz.type98, by kernel_rfl, by kernel_rfl⟩, _, _, Tryz.type98, rfl, by kernel_rfl, by kernel_rfl, by decide⟩⟩
theorem row77 : RowOk Tryz.prog cod T 77 ⟨1, 24, .slice 88 .packet, [.nil .packet]⟩ := ⟨_, _, _, Tryz.type77, rfl, rfl, rfl, by kernel_rfl, by kernel_rfl, Tryz.underlying77, by kernel_rfl, ⟨⟨rfl, _, Tryz.type88, by kernel_rfl, by kernel_rfl⟩, _, _, Tryz.type88, rfl, by kernel_rfl, by kernel_rfl, by decide⟩⟩
theorem row79 : RowOk Tryz.prog cod T 79 ⟨15, 200, .struct [(0, 3), (1, 56), (13, 77), (14, 9)], [.lit (.int .i64 0), .lit (.int .i64 0), .lit (.bool false), .lit (.int .i64 0), .lit (.int .i64 0), .lit (.int .i64 0), .lit (.bool false), .lit (.int .i64 0), .nil .item, .lit (.int .i64 0), .nil .held, .lit (.string ⟨#[]⟩), .nil .str, .nil .packet, .lit (.string ⟨#[]⟩)]⟩ := ⟨_, _, _, Tryz.type79, rfl, rfl, rfl, by kernel_rfl, by kernel_rfl, Tryz.underlying79, by kernel_rfl, ⟨_, rfl, by kernel_rfl, by kernel_rfl, by kernel_rfl, by kernel_rfl, by kernel_rfl⟩⟩
theorem row82 : RowOk Tryz.prog cod T 82 ⟨4, 40, .struct [(0, 3), (1, 3), (2, 3), (3, 9)], [.lit (.int .i64 0), .lit (.int .i64 0), .lit (.int .i64 0), .lit (.string ⟨#[]⟩)]⟩ := ⟨_, _, _, Tryz.type82, rfl, rfl, rfl, by kernel_rfl, by kernel_rfl, Tryz.underlying82, by kernel_rfl, ⟨_, rfl, by kernel_rfl, by kernel_rfl, by kernel_rfl, by kernel_rfl, by kernel_rfl⟩⟩
theorem row83 : RowOk Tryz.prog cod T 83 ⟨1, 24, .slice 25 .lrecord, [.nil .lrecord]⟩ := ⟨_, _, _, Tryz.type83, rfl, rfl, rfl, by kernel_rfl, by kernel_rfl, Tryz.underlying83, by kernel_rfl, ⟨⟨rfl, _, Tryz.type25, by kernel_rfl, by kernel_rfl⟩, _, _, Tryz.type25, rfl, by kernel_rfl, by kernel_rfl, by decide⟩⟩
theorem row85 : RowOk Tryz.prog cod T 85 ⟨2, 32, .struct [(0, 22), (1, 3)], [.nil .byte, .lit (.int .i64 0)]⟩ := ⟨_, _, _, Tryz.type85, rfl, rfl, rfl, by kernel_rfl, by kernel_rfl, Tryz.underlying85, by kernel_rfl, ⟨_, rfl, by kernel_rfl, by kernel_rfl, by kernel_rfl, by kernel_rfl, by kernel_rfl⟩⟩
theorem row88 : RowOk Tryz.prog cod T 88 ⟨9, 80, .struct [(0, 3), (1, 3), (2, 3), (3, 3), (4, 3), (5, 3), (6, 3), (7, 4), (8, 9)], [.lit (.int .i64 0), .lit (.int .i64 0), .lit (.int .i64 0), .lit (.int .i64 0), .lit (.int .i64 0), .lit (.int .i64 0), .lit (.int .i64 0), .lit (.bool false), .lit (.string ⟨#[]⟩)]⟩ := ⟨_, _, _, Tryz.type88, rfl, rfl, rfl, by kernel_rfl, by kernel_rfl, Tryz.underlying88, by kernel_rfl, ⟨_, rfl, by kernel_rfl, by kernel_rfl, by kernel_rfl, by kernel_rfl, by kernel_rfl⟩⟩
theorem row92 : RowOk Tryz.prog cod T 92 ⟨1, 8, .other, [.lit (.pointer none)]⟩ := ⟨_, _, _, Tryz.type92, rfl, rfl, rfl, by kernel_rfl, by kernel_rfl, Tryz.underlying92, by kernel_rfl, trivial⟩
theorem row98 : RowOk Tryz.prog cod T 98 ⟨3, 32, .struct [(0, 3), (1, 9), (2, 3)], [.lit (.int .i64 0), .lit (.string ⟨#[]⟩), .lit (.int .i64 0)]⟩ := ⟨_, _, _, Tryz.type98, rfl, rfl, rfl, by kernel_rfl, by kernel_rfl, Tryz.underlying98, by kernel_rfl, ⟨_, rfl, by kernel_rfl, by kernel_rfl, by kernel_rfl, by kernel_rfl, by kernel_rfl⟩⟩
theorem row111 : RowOk Tryz.prog cod T 111 ⟨2, 24, .struct [(0, 9), (1, 4)], [.lit (.string ⟨#[]⟩), .lit (.bool false)]⟩ := ⟨_, _, _, Tryz.type111, rfl, rfl, rfl, by kernel_rfl, by kernel_rfl, Tryz.underlying111, by kernel_rfl, ⟨_, rfl, by kernel_rfl, by kernel_rfl, by kernel_rfl, by kernel_rfl, by kernel_rfl⟩⟩
theorem row113 : RowOk Tryz.prog cod T 113 ⟨4, 40, .struct [(0, 111), (2, 4), (3, 3)], [.lit (.string ⟨#[]⟩), .lit (.bool false), .lit (.bool false), .lit (.int .i64 0)]⟩ := ⟨_, _, _, Tryz.type113, rfl, rfl, rfl, by kernel_rfl, by kernel_rfl, Tryz.underlying113, by kernel_rfl, ⟨_, rfl, by kernel_rfl, by kernel_rfl, by kernel_rfl, by kernel_rfl, by kernel_rfl⟩⟩
theorem row116 : RowOk Tryz.prog cod T 116 ⟨3, 32, .struct [(0, 3), (1, 111)], [.lit (.int .i64 0), .lit (.string ⟨#[]⟩), .lit (.bool false)]⟩ := ⟨_, _, _, Tryz.type116, rfl, rfl, rfl, by kernel_rfl, by kernel_rfl, Tryz.underlying116, by kernel_rfl, ⟨_, rfl, by kernel_rfl, by kernel_rfl, by kernel_rfl, by kernel_rfl, by kernel_rfl⟩⟩
theorem row119 : RowOk Tryz.prog cod T 119 ⟨1, 8, .other, [.lit (.pointer none)]⟩ := ⟨_, _, _, Tryz.type119, rfl, rfl, rfl, by kernel_rfl, by kernel_rfl, Tryz.underlying119, by kernel_rfl, trivial⟩
theorem row132 : RowOk Tryz.prog cod T 132 ⟨1, 24, .slice 111 .part, [.nil .part]⟩ := ⟨_, _, _, Tryz.type132, rfl, rfl, rfl, by kernel_rfl, by kernel_rfl, Tryz.underlying132, by kernel_rfl, ⟨⟨rfl, _, Tryz.type111, by kernel_rfl, by kernel_rfl⟩, _, _, Tryz.type111, rfl, by kernel_rfl, by kernel_rfl, by decide⟩⟩
theorem row138 : RowOk Tryz.prog cod T 138 ⟨1, 8, .int .u64, [.lit (.int .u64 0)]⟩ := ⟨_, _, _, Tryz.type138, rfl, rfl, rfl, by kernel_rfl, by kernel_rfl, Tryz.underlying138, by kernel_rfl, rfl⟩
theorem row139 : RowOk Tryz.prog cod T 139 ⟨1, 8, .other, [.lit (.pointer none)]⟩ := ⟨_, _, _, Tryz.type139, rfl, rfl, rfl, by kernel_rfl, by kernel_rfl, Tryz.underlying139, by kernel_rfl, trivial⟩
theorem row140 : RowOk Tryz.prog cod T 140 ⟨1, 8, .int .u64, [.lit (.int .u64 0)]⟩ := ⟨_, _, _, Tryz.type140, rfl, rfl, rfl, by kernel_rfl, by kernel_rfl, Tryz.underlying140, by kernel_rfl, rfl⟩
theorem row141 : RowOk Tryz.prog cod T 141 ⟨8, 8, .arr 8 5 .byte, [.lit (.int .u8 0), .lit (.int .u8 0), .lit (.int .u8 0), .lit (.int .u8 0), .lit (.int .u8 0), .lit (.int .u8 0), .lit (.int .u8 0), .lit (.int .u8 0)]⟩ := ⟨_, _, _, Tryz.type141, rfl, rfl, rfl, by kernel_rfl, by kernel_rfl, Tryz.underlying141, by kernel_rfl, ⟨rfl, ⟨_, Tryz.type5, by kernel_rfl, by kernel_rfl⟩, _, rfl, by kernel_rfl, by kernel_rfl⟩⟩
theorem row151 : RowOk Tryz.prog cod T 151 ⟨1, 4, .int .u32, [.lit (.int .u32 0)]⟩ := ⟨_, _, _, Tryz.type151, rfl, rfl, rfl, by kernel_rfl, by kernel_rfl, Tryz.underlying151, by kernel_rfl, rfl⟩
theorem row155 : RowOk Tryz.prog cod T 155 ⟨1, 8, .other, [.lit (.pointer none)]⟩ := ⟨_, _, _, Tryz.type155, rfl, rfl, rfl, by kernel_rfl, by kernel_rfl, Tryz.underlying155, by kernel_rfl, trivial⟩
theorem rows : ∀ e ∈ tbl, RowOk Tryz.prog cod T e.1 e.2 :=
  all_cons row2 (all_cons row3 (all_cons row4 (all_cons row5 (all_cons row9 (all_cons row12 (all_cons row21 (all_cons row22 (all_cons row23 (all_cons row24 (all_cons row25 (all_cons row27 (all_cons row35 (all_cons row39 (all_cons row41 (all_cons row45 (all_cons row48 (all_cons row50 (all_cons row51 (all_cons row52 (all_cons row54 (all_cons row56 (all_cons row58 (all_cons row60 (all_cons row62 (all_cons row66 (all_cons row77 (all_cons row79 (all_cons row82 (all_cons row83 (all_cons row85 (all_cons row88 (all_cons row92 (all_cons row98 (all_cons row111 (all_cons row113 (all_cons row116 (all_cons row119 (all_cons row132 (all_cons row138 (all_cons row139 (all_cons row140 (all_cons row141 (all_cons row151 (all_cons row155 (all_nil)))))))))))))))))))))))))))))))))))))))))))))
theorem tok : TOk Tryz.prog cod T := TOk.of rows
theorem eok : EOk Tryz.prog cod T := EOk.of rows
theorem mixed : Tryz.prog.follows .mixedOrders = true := by kernel_rfl
end Km.X
namespace Km.X
open Go Km Go.Proofs
set_option linter.unusedVariables false
set_option linter.unusedSimpArgs false
set_option maxRecDepth 100000
theorem eq_DItem (x y : DItem) (h : x.Part.Text = y.Part.Text ∧ x.Part.Last = y.Part.Last ∧ x.Has = y.Has ∧ x.Since = y.Since) : x = y := by
  obtain ⟨⟨_, _⟩, _, _⟩ := x
  obtain ⟨⟨_, _⟩, _, _⟩ := y
  simp_all
theorem eq_DHeld (x y : DHeld) (h : x.Seq = y.Seq ∧ x.Part.Text = y.Part.Text ∧ x.Part.Last = y.Part.Last) : x = y := by
  obtain ⟨_, ⟨_, _⟩⟩ := x
  obtain ⟨_, ⟨_, _⟩⟩ := y
  simp_all
theorem list2 {α : Type} {l : List α} (h : l.length = 2) : ∃ a0 a1, l = [a0, a1] := by
  match l, h with
  | [a0, a1], _ => exact ⟨a0, a1, rfl⟩
theorem list3 {α : Type} {l : List α} (h : l.length = 3) : ∃ a0 a1 a2, l = [a0, a1, a2] := by
  match l, h with
  | [a0, a1, a2], _ => exact ⟨a0, a1, a2, rfl⟩
theorem list4 {α : Type} {l : List α} (h : l.length = 4) : ∃ a0 a1 a2 a3, l = [a0, a1, a2, a3] := by
  match l, h with
  | [a0, a1, a2, a3], _ => exact ⟨a0, a1, a2, a3, rfl⟩
theorem list5 {α : Type} {l : List α} (h : l.length = 5) : ∃ a0 a1 a2 a3 a4, l = [a0, a1, a2, a3, a4] := by
  match l, h with
  | [a0, a1, a2, a3, a4], _ => exact ⟨a0, a1, a2, a3, a4, rfl⟩
theorem list9 {α : Type} {l : List α} (h : l.length = 9) : ∃ a0 a1 a2 a3 a4 a5 a6 a7 a8, l = [a0, a1, a2, a3, a4, a5, a6, a7, a8] := by
  match l, h with
  | [a0, a1, a2, a3, a4, a5, a6, a7, a8], _ => exact ⟨a0, a1, a2, a3, a4, a5, a6, a7, a8, rfl⟩
theorem list12 {α : Type} {l : List α} (h : l.length = 12) : ∃ a0 a1 a2 a3 a4 a5 a6 a7 a8 a9 a10 a11, l = [a0, a1, a2, a3, a4, a5, a6, a7, a8, a9, a10, a11] := by
  match l, h with
  | [a0, a1, a2, a3, a4, a5, a6, a7, a8, a9, a10, a11], _ => exact ⟨a0, a1, a2, a3, a4, a5, a6, a7, a8, a9, a10, a11, rfl⟩
theorem sh3 {n : Nat} {avs : List V} (h : shaped cod T n 3 avs) : ∃ x : Int, avs = [.lit (.int .i64 x)] ∧ (Lit.int .i64 x).wf = true := by
  cases n with
  | zero => exact h.elim
  | succ n =>
    exact h
theorem sh4 {n : Nat} {avs : List V} (h : shaped cod T n 4 avs) : ∃ x : Bool, avs = [.lit (.bool x)] ∧ True := by
  cases n with
  | zero => exact h.elim
  | succ n =>
    obtain ⟨b, h⟩ := (h : ∃ b, avs = [.lit (.bool b)])
    exact ⟨b, h, trivial⟩
theorem sh5 {n : Nat} {avs : List V} (h : shaped cod T n 5 avs) : ∃ x : Int, avs = [.lit (.int .u8 x)] ∧ (Lit.int .u8 x).wf = true := by
  cases n with
  | zero => exact h.elim
  | succ n =>
    exact h
theorem sh9 {n : Nat} {avs : List V} (h : shaped cod T n 9 avs) : ∃ x : ByteArray, avs = [.lit (.string x)] ∧ x.size ≤ maxLen := by
  cases n with
  | zero => exact h.elim
  | succ n =>
    exact h
theorem sh22 {n : Nat} {avs : List V} (h : shaped cod T n 22 avs) : ∃ x : List Int, avs = [.inl false .byte x] ∧ (x.length ≤ maxLen ∧ ∀ y ∈ x, wf_byte y) := by
  cases n with
  | zero => exact h.elim
  | succ n =>
    obtain ⟨xs, h1, h2, h3⟩ := (h : ∃ xs : List (TyK .byte), avs = [.inl false .byte xs] ∧ xs.length ≤ maxLen ∧ ∀ x ∈ xs, shaped cod T n 5 (kenc .byte x))
    refine ⟨xs, h1, h2, fun y hy => ?_⟩
    obtain ⟨z, hz, hw⟩ := sh5 (h3 y hy)
    have hz : ([.lit (.int .u8 y)] : List V) = [.lit (.int .u8 z)] := hz
    have : y = z := by
      simp only [List.cons.injEq, AV.lit.injEq, AV.inl.injEq, Value.int.injEq, Value.string.injEq, Value.bool.injEq, true_and, and_true, heq_eq_eq] at hz
      exact hz
    subst this
    exact hw
theorem sh111 {n : Nat} {avs : List V} (h : shaped cod T n 111 avs) : ∃ x : DPart, avs = [.lit (.string x.Text), .lit (.bool x.Last)] ∧ wfDPart x := by
  cases n with
  | zero => exact h.elim
  | succ n =>
    obtain ⟨hl, hf⟩ := (h : avs.length = 2 ∧ ∀ f ∈ ([(0, 9), (1, 4)] : List (Nat × TypeId)), ∃ tf, T f.2 = some tf ∧ shaped cod T n f.2 ((avs.drop f.1).take tf.size))
    obtain ⟨a0, a1, rfl⟩ := list2 hl
    obtain ⟨t0, ht0, g0⟩ := hf (0, 9) (by simp)
    obtain rfl := Option.some.inj ht0
    obtain ⟨x0, e0, w0⟩ := sh9 (show shaped cod T n 9 [a0] from g0)
    simp only [List.cons.injEq, and_true] at e0
    obtain ⟨t1, ht1, g1⟩ := hf (1, 4) (by simp)
    obtain rfl := Option.some.inj ht1
    obtain ⟨x1, e1, w1⟩ := sh4 (show shaped cod T n 4 [a1] from g1)
    simp only [List.cons.injEq, and_true] at e1
    obtain rfl := e0
    obtain rfl := e1
    exact ⟨⟨x0, x1⟩, rfl, w0, w1⟩
theorem sh113 {n : Nat} {avs : List V} (h : shaped cod T n 113 avs) : ∃ x : DItem, avs = [.lit (.string x.Part.Text), .lit (.bool x.Part.Last), .lit (.bool x.Has), .lit (.int .i64 x.Since)] ∧ wfDItem x := by
  cases n with
  | zero => exact h.elim
  | succ n =>
    obtain ⟨hl, hf⟩ := (h : avs.length = 4 ∧ ∀ f ∈ ([(0, 111), (2, 4), (3, 3)] : List (Nat × TypeId)), ∃ tf, T f.2 = some tf ∧ shaped cod T n f.2 ((avs.drop f.1).take tf.size))
    obtain ⟨a0, a1, a2, a3, rfl⟩ := list4 hl
    obtain ⟨t0, ht0, g0⟩ := hf (0, 111) (by simp)
    obtain rfl := Option.some.inj ht0
    obtain ⟨x0, e0, w0⟩ := sh111 (show shaped cod T n 111 [a0, a1] from g0)
    simp only [List.cons.injEq, and_true] at e0
    obtain ⟨t1, ht1, g1⟩ := hf (2, 4) (by simp)
    obtain rfl := Option.some.inj ht1
    obtain ⟨x1, e1, w1⟩ := sh4 (show shaped cod T n 4 [a2] from g1)
    simp only [List.cons.injEq, and_true] at e1
    obtain ⟨t2, ht2, g2⟩ := hf (3, 3) (by simp)
    obtain rfl := Option.some.inj ht2
    obtain ⟨x2, e2, w2⟩ := sh3 (show shaped cod T n 3 [a3] from g2)
    simp only [List.cons.injEq, and_true] at e2
    obtain ⟨rfl, rfl⟩ := e0
    obtain rfl := e1
    obtain rfl := e2
    exact ⟨⟨x0, x1, x2⟩, rfl, w0, w1, w2⟩
theorem sh48 {n : Nat} {avs : List V} (h : shaped cod T n 48 avs) : ∃ x : List DItem, avs = [.inl false .item x] ∧ (x.length ≤ maxLen ∧ ∀ y ∈ x, wf_item y) := by
  cases n with
  | zero => exact h.elim
  | succ n =>
    obtain ⟨xs, h1, h2, h3⟩ := (h : ∃ xs : List (TyK .item), avs = [.inl false .item xs] ∧ xs.length ≤ maxLen ∧ ∀ x ∈ xs, shaped cod T n 113 (kenc .item x))
    refine ⟨xs, h1, h2, fun y hy => ?_⟩
    obtain ⟨z, hz, hw⟩ := sh113 (h3 y hy)
    have hz : ([.lit (.string y.Part.Text), .lit (.bool y.Part.Last), .lit (.bool y.Has), .lit (.int .i64 y.Since)] : List V) = [.lit (.string z.Part.Text), .lit (.bool z.Part.Last), .lit (.bool z.Has), .lit (.int .i64 z.Since)] := hz
    have : y = z := by
      simp only [List.cons.injEq, AV.lit.injEq, AV.inl.injEq, Value.int.injEq, Value.string.injEq, Value.bool.injEq, true_and, and_true, heq_eq_eq] at hz
      exact eq_DItem y z hz
    subst this
    exact hw
theorem sh50 {n : Nat} {avs : List V} (h : shaped cod T n 50 avs) : ∃ x : DSend, avs = [.lit (.int .i64 x.Base), .inl false .item x.Items] ∧ wfDSend x := by
  cases n with
  | zero => exact h.elim
  | succ n =>
    obtain ⟨hl, hf⟩ := (h : avs.length = 2 ∧ ∀ f ∈ ([(0, 3), (1, 48)] : List (Nat × TypeId)), ∃ tf, T f.2 = some tf ∧ shaped cod T n f.2 ((avs.drop f.1).take tf.size))
    obtain ⟨a0, a1, rfl⟩ := list2 hl
    obtain ⟨t0, ht0, g0⟩ := hf (0, 3) (by simp)
    obtain rfl := Option.some.inj ht0
    obtain ⟨x0, e0, w0⟩ := sh3 (show shaped cod T n 3 [a0] from g0)
    simp only [List.cons.injEq, and_true] at e0
    obtain ⟨t1, ht1, g1⟩ := hf (1, 48) (by simp)
    obtain rfl := Option.some.inj ht1
    obtain ⟨x1, e1, w1⟩ := sh48 (show shaped cod T n 48 [a1] from g1)
    simp only [List.cons.injEq, and_true] at e1
    obtain rfl := e0
    obtain rfl := e1
    exact ⟨⟨x0, x1⟩, rfl, w0, w1⟩
theorem sh116 {n : Nat} {avs : List V} (h : shaped cod T n 116 avs) : ∃ x : DHeld, avs = [.lit (.int .i64 x.Seq), .lit (.string x.Part.Text), .lit (.bool x.Part.Last)] ∧ wfDHeld x := by
  cases n with
  | zero => exact h.elim
  | succ n =>
    obtain ⟨hl, hf⟩ := (h : avs.length = 3 ∧ ∀ f ∈ ([(0, 3), (1, 111)] : List (Nat × TypeId)), ∃ tf, T f.2 = some tf ∧ shaped cod T n f.2 ((avs.drop f.1).take tf.size))
    obtain ⟨a0, a1, a2, rfl⟩ := list3 hl
    obtain ⟨t0, ht0, g0⟩ := hf (0, 3) (by simp)
    obtain rfl := Option.some.inj ht0
    obtain ⟨x0, e0, w0⟩ := sh3 (show shaped cod T n 3 [a0] from g0)
    simp only [List.cons.injEq, and_true] at e0
    obtain ⟨t1, ht1, g1⟩ := hf (1, 111) (by simp)
    obtain rfl := Option.some.inj ht1
    obtain ⟨x1, e1, w1⟩ := sh111 (show shaped cod T n 111 [a1, a2] from g1)
    simp only [List.cons.injEq, and_true] at e1
    obtain rfl := e0
    obtain ⟨rfl, rfl⟩ := e1
    exact ⟨⟨x0, x1⟩, rfl, w0, w1⟩
theorem sh51 {n : Nat} {avs : List V} (h : shaped cod T n 51 avs) : ∃ x : List DHeld, avs = [.inl false .held x] ∧ (x.length ≤ maxLen ∧ ∀ y ∈ x, wf_held y) := by
  cases n with
  | zero => exact h.elim
  | succ n =>
    obtain ⟨xs, h1, h2, h3⟩ := (h : ∃ xs : List (TyK .held), avs = [.inl false .held xs] ∧ xs.length ≤ maxLen ∧ ∀ x ∈ xs, shaped cod T n 116 (kenc .held x))
    refine ⟨xs, h1, h2, fun y hy => ?_⟩
    obtain ⟨z, hz, hw⟩ := sh116 (h3 y hy)
    have hz : ([.lit (.int .i64 y.Seq), .lit (.string y.Part.Text), .lit (.bool y.Part.Last)] : List V) = [.lit (.int .i64 z.Seq), .lit (.string z.Part.Text), .lit (.bool z.Part.Last)] := hz
    have : y = z := by
      simp only [List.cons.injEq, AV.lit.injEq, AV.inl.injEq, Value.int.injEq, Value.string.injEq, Value.bool.injEq, true_and, and_true, heq_eq_eq] at hz
      exact eq_DHeld y z hz
    subst this
    exact hw
theorem sh52 {n : Nat} {avs : List V} (h : shaped cod T n 52 avs) : ∃ x : List ByteArray, avs = [.inl false .str x] ∧ (x.length ≤ maxLen ∧ ∀ y ∈ x, wf_str y) := by
  cases n with
  | zero => exact h.elim
  | succ n =>
    obtain ⟨xs, h1, h2, h3⟩ := (h : ∃ xs : List (TyK .str), avs = [.inl false .str xs] ∧ xs.length ≤ maxLen ∧ ∀ x ∈ xs, shaped cod T n 9 (kenc .str x))
    refine ⟨xs, h1, h2, fun y hy => ?_⟩
    obtain ⟨z, hz, hw⟩ := sh9 (h3 y hy)
    have hz : ([.lit (.string y)] : List V) = [.lit (.string z)] := hz
    have : y = z := by
      simp only [List.cons.injEq, AV.lit.injEq, AV.inl.injEq, Value.int.injEq, Value.string.injEq, Value.bool.injEq, true_and, and_true, heq_eq_eq] at hz
      exact hz
    subst this
    exact hw
theorem sh54 {n : Nat} {avs : List V} (h : shaped cod T n 54 avs) : ∃ x : DTake, avs = [.lit (.int .i64 x.Next), .inl false .held x.Held, .lit (.string x.Open), .inl false .str x.Ready] ∧ wfDTake x := by
  cases n with
  | zero => exact h.elim
  | succ n =>
    obtain ⟨hl, hf⟩ := (h : avs.length = 4 ∧ ∀ f ∈ ([(0, 3), (1, 51), (2, 9), (3, 52)] : List (Nat × TypeId)), ∃ tf, T f.2 = some tf ∧ shaped cod T n f.2 ((avs.drop f.1).take tf.size))
    obtain ⟨a0, a1, a2, a3, rfl⟩ := list4 hl
    obtain ⟨t0, ht0, g0⟩ := hf (0, 3) (by simp)
    obtain rfl := Option.some.inj ht0
    obtain ⟨x0, e0, w0⟩ := sh3 (show shaped cod T n 3 [a0] from g0)
    simp only [List.cons.injEq, and_true] at e0
    obtain ⟨t1, ht1, g1⟩ := hf (1, 51) (by simp)
    obtain rfl := Option.some.inj ht1
    obtain ⟨x1, e1, w1⟩ := sh51 (show shaped cod T n 51 [a1] from g1)
    simp only [List.cons.injEq, and_true] at e1
    obtain ⟨t2, ht2, g2⟩ := hf (2, 9) (by simp)
    obtain rfl := Option.some.inj ht2
    obtain ⟨x2, e2, w2⟩ := sh9 (show shaped cod T n 9 [a2] from g2)
    simp only [List.cons.injEq, and_true] at e2
    obtain ⟨t3, ht3, g3⟩ := hf (3, 52) (by simp)
    obtain rfl := Option.some.inj ht3
    obtain ⟨x3, e3, w3⟩ := sh52 (show shaped cod T n 52 [a3] from g3)
    simp only [List.cons.injEq, and_true] at e3
    obtain rfl := e0
    obtain rfl := e1
    obtain rfl := e2
    obtain rfl := e3
    exact ⟨⟨x0, x1, x2, x3⟩, rfl, w0, w1, w2, w3⟩
theorem sh56 {n : Nat} {avs : List V} (h : shaped cod T n 56 avs) : ∃ x : DEnd, avs = [.lit (.int .i64 x.Number), .lit (.bool x.Up), .lit (.int .i64 x.Life), .lit (.int .i64 x.Peer), .lit (.int .i64 x.Since), .lit (.bool x.Owes), .lit (.int .i64 x.Send.Base), .inl false .item x.Send.Items, .lit (.int .i64 x.Take.Next), .inl false .held x.Take.Held, .lit (.string x.Take.Open), .inl false .str x.Take.Ready] ∧ wfDEnd x := by
  cases n with
  | zero => exact h.elim
  | succ n =>
    obtain ⟨hl, hf⟩ := (h : avs.length = 12 ∧ ∀ f ∈ ([(0, 3), (1, 4), (2, 3), (3, 3), (4, 3), (5, 4), (6, 50), (8, 54)] : List (Nat × TypeId)), ∃ tf, T f.2 = some tf ∧ shaped cod T n f.2 ((avs.drop f.1).take tf.size))
    obtain ⟨a0, a1, a2, a3, a4, a5, a6, a7, a8, a9, a10, a11, rfl⟩ := list12 hl
    obtain ⟨t0, ht0, g0⟩ := hf (0, 3) (by simp)
    obtain rfl := Option.some.inj ht0
    obtain ⟨x0, e0, w0⟩ := sh3 (show shaped cod T n 3 [a0] from g0)
    simp only [List.cons.injEq, and_true] at e0
    obtain ⟨t1, ht1, g1⟩ := hf (1, 4) (by simp)
    obtain rfl := Option.some.inj ht1
    obtain ⟨x1, e1, w1⟩ := sh4 (show shaped cod T n 4 [a1] from g1)
    simp only [List.cons.injEq, and_true] at e1
    obtain ⟨t2, ht2, g2⟩ := hf (2, 3) (by simp)
    obtain rfl := Option.some.inj ht2
    obtain ⟨x2, e2, w2⟩ := sh3 (show shaped cod T n 3 [a2] from g2)
    simp only [List.cons.injEq, and_true] at e2
    obtain ⟨t3, ht3, g3⟩ := hf (3, 3) (by simp)
    obtain rfl := Option.some.inj ht3
    obtain ⟨x3, e3, w3⟩ := sh3 (show shaped cod T n 3 [a3] from g3)
    simp only [List.cons.injEq, and_true] at e3
    obtain ⟨t4, ht4, g4⟩ := hf (4, 3) (by simp)
    obtain rfl := Option.some.inj ht4
    obtain ⟨x4, e4, w4⟩ := sh3 (show shaped cod T n 3 [a4] from g4)
    simp only [List.cons.injEq, and_true] at e4
    obtain ⟨t5, ht5, g5⟩ := hf (5, 4) (by simp)
    obtain rfl := Option.some.inj ht5
    obtain ⟨x5, e5, w5⟩ := sh4 (show shaped cod T n 4 [a5] from g5)
    simp only [List.cons.injEq, and_true] at e5
    obtain ⟨t6, ht6, g6⟩ := hf (6, 50) (by simp)
    obtain rfl := Option.some.inj ht6
    obtain ⟨x6, e6, w6⟩ := sh50 (show shaped cod T n 50 [a6, a7] from g6)
    simp only [List.cons.injEq, and_true] at e6
    obtain ⟨t7, ht7, g7⟩ := hf (8, 54) (by simp)
    obtain rfl := Option.some.inj ht7
    obtain ⟨x7, e7, w7⟩ := sh54 (show shaped cod T n 54 [a8, a9, a10, a11] from g7)
    simp only [List.cons.injEq, and_true] at e7
    obtain rfl := e0
    obtain rfl := e1
    obtain rfl := e2
    obtain rfl := e3
    obtain rfl := e4
    obtain rfl := e5
    obtain ⟨rfl, rfl⟩ := e6
    obtain ⟨rfl, rfl, rfl, rfl⟩ := e7
    exact ⟨⟨x0, x1, x2, x3, x4, x5, x6, x7⟩, rfl, w0, w1, w2, w3, w4, w5, w6, w7⟩
theorem sh58 {n : Nat} {avs : List V} (h : shaped cod T n 58 avs) : ∃ x : DParcel, avs = [.lit (.int .i64 x.To), .lit (.string x.Sent), .lit (.string x.Bytes)] ∧ wfDParcel x := by
  cases n with
  | zero => exact h.elim
  | succ n =>
    obtain ⟨hl, hf⟩ := (h : avs.length = 3 ∧ ∀ f ∈ ([(0, 3), (1, 9), (2, 9)] : List (Nat × TypeId)), ∃ tf, T f.2 = some tf ∧ shaped cod T n f.2 ((avs.drop f.1).take tf.size))
    obtain ⟨a0, a1, a2, rfl⟩ := list3 hl
    obtain ⟨t0, ht0, g0⟩ := hf (0, 3) (by simp)
    obtain rfl := Option.some.inj ht0
    obtain ⟨x0, e0, w0⟩ := sh3 (show shaped cod T n 3 [a0] from g0)
    simp only [List.cons.injEq, and_true] at e0
    obtain ⟨t1, ht1, g1⟩ := hf (1, 9) (by simp)
    obtain rfl := Option.some.inj ht1
    obtain ⟨x1, e1, w1⟩ := sh9 (show shaped cod T n 9 [a1] from g1)
    simp only [List.cons.injEq, and_true] at e1
    obtain ⟨t2, ht2, g2⟩ := hf (2, 9) (by simp)
    obtain rfl := Option.some.inj ht2
    obtain ⟨x2, e2, w2⟩ := sh9 (show shaped cod T n 9 [a2] from g2)
    simp only [List.cons.injEq, and_true] at e2
    obtain rfl := e0
    obtain rfl := e1
    obtain rfl := e2
    exact ⟨⟨x0, x1, x2⟩, rfl, w0, w1, w2⟩
theorem sh82 {n : Nat} {avs : List V} (h : shaped cod T n 82 avs) : ∃ x : DRecord, avs = [.lit (.int .i64 x.From), .lit (.int .i64 x.A), .lit (.int .i64 x.B), .lit (.string x.Text)] ∧ wfDRecord x := by
  cases n with
  | zero => exact h.elim
  | succ n =>
    obtain ⟨hl, hf⟩ := (h : avs.length = 4 ∧ ∀ f ∈ ([(0, 3), (1, 3), (2, 3), (3, 9)] : List (Nat × TypeId)), ∃ tf, T f.2 = some tf ∧ shaped cod T n f.2 ((avs.drop f.1).take tf.size))
    obtain ⟨a0, a1, a2, a3, rfl⟩ := list4 hl
    obtain ⟨t0, ht0, g0⟩ := hf (0, 3) (by simp)
    obtain rfl := Option.some.inj ht0
    obtain ⟨x0, e0, w0⟩ := sh3 (show shaped cod T n 3 [a0] from g0)
    simp only [List.cons.injEq, and_true] at e0
    obtain ⟨t1, ht1, g1⟩ := hf (1, 3) (by simp)
    obtain rfl := Option.some.inj ht1
    obtain ⟨x1, e1, w1⟩ := sh3 (show shaped cod T n 3 [a1] from g1)
    simp only [List.cons.injEq, and_true] at e1
    obtain ⟨t2, ht2, g2⟩ := hf (2, 3) (by simp)
    obtain rfl := Option.some.inj ht2
    obtain ⟨x2, e2, w2⟩ := sh3 (show shaped cod T n 3 [a2] from g2)
    simp only [List.cons.injEq, and_true] at e2
    obtain ⟨t3, ht3, g3⟩ := hf (3, 9) (by simp)
    obtain rfl := Option.some.inj ht3
    obtain ⟨x3, e3, w3⟩ := sh9 (show shaped cod T n 9 [a3] from g3)
    simp only [List.cons.injEq, and_true] at e3
    obtain rfl := e0
    obtain rfl := e1
    obtain rfl := e2
    obtain rfl := e3
    exact ⟨⟨x0, x1, x2, x3⟩, rfl, w0, w1, w2, w3⟩
theorem sh35 {n : Nat} {avs : List V} (h : shaped cod T n 35 avs) : ∃ x : DEvent, avs = [.lit (.int .i64 x.Kind), .lit (.int .i64 x.A), .lit (.int .i64 x.B), .lit (.int .i64 x.C), .lit (.string x.Text)] ∧ wfDEvent x := by
  cases n with
  | zero => exact h.elim
  | succ n =>
    obtain ⟨hl, hf⟩ := (h : avs.length = 5 ∧ ∀ f ∈ ([(0, 3), (1, 3), (2, 3), (3, 3), (4, 9)] : List (Nat × TypeId)), ∃ tf, T f.2 = some tf ∧ shaped cod T n f.2 ((avs.drop f.1).take tf.size))
    obtain ⟨a0, a1, a2, a3, a4, rfl⟩ := list5 hl
    obtain ⟨t0, ht0, g0⟩ := hf (0, 3) (by simp)
    obtain rfl := Option.some.inj ht0
    obtain ⟨x0, e0, w0⟩ := sh3 (show shaped cod T n 3 [a0] from g0)
    simp only [List.cons.injEq, and_true] at e0
    obtain ⟨t1, ht1, g1⟩ := hf (1, 3) (by simp)
    obtain rfl := Option.some.inj ht1
    obtain ⟨x1, e1, w1⟩ := sh3 (show shaped cod T n 3 [a1] from g1)
    simp only [List.cons.injEq, and_true] at e1
    obtain ⟨t2, ht2, g2⟩ := hf (2, 3) (by simp)
    obtain rfl := Option.some.inj ht2
    obtain ⟨x2, e2, w2⟩ := sh3 (show shaped cod T n 3 [a2] from g2)
    simp only [List.cons.injEq, and_true] at e2
    obtain ⟨t3, ht3, g3⟩ := hf (3, 3) (by simp)
    obtain rfl := Option.some.inj ht3
    obtain ⟨x3, e3, w3⟩ := sh3 (show shaped cod T n 3 [a3] from g3)
    simp only [List.cons.injEq, and_true] at e3
    obtain ⟨t4, ht4, g4⟩ := hf (4, 9) (by simp)
    obtain rfl := Option.some.inj ht4
    obtain ⟨x4, e4, w4⟩ := sh9 (show shaped cod T n 9 [a4] from g4)
    simp only [List.cons.injEq, and_true] at e4
    obtain rfl := e0
    obtain rfl := e1
    obtain rfl := e2
    obtain rfl := e3
    obtain rfl := e4
    exact ⟨⟨x0, x1, x2, x3, x4⟩, rfl, w0, w1, w2, w3, w4⟩
theorem sh98 {n : Nat} {avs : List V} (h : shaped cod T n 98 avs) : ∃ x : DL7Count, avs = [.lit (.int .i64 x.to), .lit (.string x.bytes), .lit (.int .i64 x.n)] ∧ wfDL7Count x := by
  cases n with
  | zero => exact h.elim
  | succ n =>
    obtain ⟨hl, hf⟩ := (h : avs.length = 3 ∧ ∀ f ∈ ([(0, 3), (1, 9), (2, 3)] : List (Nat × TypeId)), ∃ tf, T f.2 = some tf ∧ shaped cod T n f.2 ((avs.drop f.1).take tf.size))
    obtain ⟨a0, a1, a2, rfl⟩ := list3 hl
    obtain ⟨t0, ht0, g0⟩ := hf (0, 3) (by simp)
    obtain rfl := Option.some.inj ht0
    obtain ⟨x0, e0, w0⟩ := sh3 (show shaped cod T n 3 [a0] from g0)
    simp only [List.cons.injEq, and_true] at e0
    obtain ⟨t1, ht1, g1⟩ := hf (1, 9) (by simp)
    obtain rfl := Option.some.inj ht1
    obtain ⟨x1, e1, w1⟩ := sh9 (show shaped cod T n 9 [a1] from g1)
    simp only [List.cons.injEq, and_true] at e1
    obtain ⟨t2, ht2, g2⟩ := hf (2, 3) (by simp)
    obtain rfl := Option.some.inj ht2
    obtain ⟨x2, e2, w2⟩ := sh3 (show shaped cod T n 3 [a2] from g2)
    simp only [List.cons.injEq, and_true] at e2
    obtain rfl := e0
    obtain rfl := e1
    obtain rfl := e2
    exact ⟨⟨x0, x1, x2⟩, rfl, w0, w1, w2⟩
theorem sh88 {n : Nat} {avs : List V} (h : shaped cod T n 88 avs) : ∃ x : DPacket, avs = [.lit (.int .i64 x.Kind), .lit (.int .i64 x.From), .lit (.int .i64 x.Mine), .lit (.int .i64 x.Yours), .lit (.int .i64 x.Next), .lit (.int .i64 x.Mask), .lit (.int .i64 x.Seq), .lit (.bool x.Last), .lit (.string x.Part)] ∧ wfDPacket x := by
  cases n with
  | zero => exact h.elim
  | succ n =>
    obtain ⟨hl, hf⟩ := (h : avs.length = 9 ∧ ∀ f ∈ ([(0, 3), (1, 3), (2, 3), (3, 3), (4, 3), (5, 3), (6, 3), (7, 4), (8, 9)] : List (Nat × TypeId)), ∃ tf, T f.2 = some tf ∧ shaped cod T n f.2 ((avs.drop f.1).take tf.size))
    obtain ⟨a0, a1, a2, a3, a4, a5, a6, a7, a8, rfl⟩ := list9 hl
    obtain ⟨t0, ht0, g0⟩ := hf (0, 3) (by simp)
    obtain rfl := Option.some.inj ht0
    obtain ⟨x0, e0, w0⟩ := sh3 (show shaped cod T n 3 [a0] from g0)
    simp only [List.cons.injEq, and_true] at e0
    obtain ⟨t1, ht1, g1⟩ := hf (1, 3) (by simp)
    obtain rfl := Option.some.inj ht1
    obtain ⟨x1, e1, w1⟩ := sh3 (show shaped cod T n 3 [a1] from g1)
    simp only [List.cons.injEq, and_true] at e1
    obtain ⟨t2, ht2, g2⟩ := hf (2, 3) (by simp)
    obtain rfl := Option.some.inj ht2
    obtain ⟨x2, e2, w2⟩ := sh3 (show shaped cod T n 3 [a2] from g2)
    simp only [List.cons.injEq, and_true] at e2
    obtain ⟨t3, ht3, g3⟩ := hf (3, 3) (by simp)
    obtain rfl := Option.some.inj ht3
    obtain ⟨x3, e3, w3⟩ := sh3 (show shaped cod T n 3 [a3] from g3)
    simp only [List.cons.injEq, and_true] at e3
    obtain ⟨t4, ht4, g4⟩ := hf (4, 3) (by simp)
    obtain rfl := Option.some.inj ht4
    obtain ⟨x4, e4, w4⟩ := sh3 (show shaped cod T n 3 [a4] from g4)
    simp only [List.cons.injEq, and_true] at e4
    obtain ⟨t5, ht5, g5⟩ := hf (5, 3) (by simp)
    obtain rfl := Option.some.inj ht5
    obtain ⟨x5, e5, w5⟩ := sh3 (show shaped cod T n 3 [a5] from g5)
    simp only [List.cons.injEq, and_true] at e5
    obtain ⟨t6, ht6, g6⟩ := hf (6, 3) (by simp)
    obtain rfl := Option.some.inj ht6
    obtain ⟨x6, e6, w6⟩ := sh3 (show shaped cod T n 3 [a6] from g6)
    simp only [List.cons.injEq, and_true] at e6
    obtain ⟨t7, ht7, g7⟩ := hf (7, 4) (by simp)
    obtain rfl := Option.some.inj ht7
    obtain ⟨x7, e7, w7⟩ := sh4 (show shaped cod T n 4 [a7] from g7)
    simp only [List.cons.injEq, and_true] at e7
    obtain ⟨t8, ht8, g8⟩ := hf (8, 9) (by simp)
    obtain rfl := Option.some.inj ht8
    obtain ⟨x8, e8, w8⟩ := sh9 (show shaped cod T n 9 [a8] from g8)
    simp only [List.cons.injEq, and_true] at e8
    obtain rfl := e0
    obtain rfl := e1
    obtain rfl := e2
    obtain rfl := e3
    obtain rfl := e4
    obtain rfl := e5
    obtain rfl := e6
    obtain rfl := e7
    obtain rfl := e8
    exact ⟨⟨x0, x1, x2, x3, x4, x5, x6, x7, x8⟩, rfl, w0, w1, w2, w3, w4, w5, w6, w7, w8⟩
def rowFull (e : Nat × TI K TyK) : Prop := ∀ e2 s n avs, e.2.shp = .slice e2 s → cod.bor s = false → shaped cod T n e2 avs → ∃ x, cod.enc s x = avs
theorem rowsFull : ∀ e ∈ tbl, rowFull e :=
  all_cons (fun e s n avs h hb => by cases h) (
  all_cons (fun e s n avs h hb => by cases h) (
  all_cons (fun e s n avs h hb => by cases h) (
  all_cons (fun e s n avs h hb => by cases h) (
  all_cons (fun e s n avs h hb => by cases h) (
  all_cons (fun e s n avs h hb => by cases h) (
  all_cons (fun e s n avs h hb => by cases h) (
  all_cons (fun e s n avs h hb hs => by cases h; obtain ⟨x, hx, _⟩ := sh5 hs; exact ⟨x, hx.symm⟩) (
  all_cons (fun e s n avs h hb hs => by cases h; obtain ⟨x, hx, _⟩ := sh56 hs; exact ⟨x, hx.symm⟩) (
  all_cons (fun e s n avs h hb hs => by cases h; obtain ⟨x, hx, _⟩ := sh58 hs; exact ⟨x, hx.symm⟩) (
  all_cons (fun e s n avs h hb hs => by cases h; obtain ⟨x, hx, _⟩ := sh82 hs; exact ⟨x, hx.symm⟩) (
  all_cons (fun e s n avs h hb => by cases h) (
  all_cons (fun e s n avs h hb => by cases h) (
  all_cons (fun e s n avs h hb hs => by cases h; obtain ⟨x, hx, _⟩ := sh35 hs; exact ⟨x, hx.symm⟩) (
  all_cons (fun e s n avs h hb => by cases h) (
  all_cons (fun e s n avs h hb hs => by cases h; obtain ⟨x, hx, _⟩ := sh3 hs; exact ⟨x, hx.symm⟩) (
  all_cons (fun e s n avs h hb hs => by cases h; obtain ⟨x, hx, _⟩ := sh113 hs; exact ⟨x, hx.symm⟩) (
  all_cons (fun e s n avs h hb => by cases h) (
  all_cons (fun e s n avs h hb hs => by cases h; obtain ⟨x, hx, _⟩ := sh116 hs; exact ⟨x, hx.symm⟩) (
  all_cons (fun e s n avs h hb hs => by cases h; obtain ⟨x, hx, _⟩ := sh9 hs; exact ⟨x, hx.symm⟩) (
  all_cons (fun e s n avs h hb => by cases h) (
  all_cons (fun e s n avs h hb => by cases h) (
  all_cons (fun e s n avs h hb => by cases h) (
  all_cons (fun e s n avs h hb => by cases h) (
  all_cons (fun e s n avs h hb => by cases h) (
  all_cons (fun e s n avs h hb hs => by cases h; obtain ⟨x, hx, _⟩ := sh98 hs; exact ⟨x, hx.symm⟩) (
  all_cons (fun e s n avs h hb hs => by cases h; obtain ⟨x, hx, _⟩ := sh88 hs; exact ⟨x, hx.symm⟩) (
  all_cons (fun e s n avs h hb => by cases h) (
  all_cons (fun e s n avs h hb => by cases h) (
  all_cons (fun e s n avs h hb => by cases h; cases hb) (
  all_cons (fun e s n avs h hb => by cases h) (
  all_cons (fun e s n avs h hb => by cases h) (
  all_cons (fun e s n avs h hb => by cases h) (
  all_cons (fun e s n avs h hb => by cases h) (
  all_cons (fun e s n avs h hb => by cases h) (
  all_cons (fun e s n avs h hb => by cases h) (
  all_cons (fun e s n avs h hb => by cases h) (
  all_cons (fun e s n avs h hb => by cases h) (
  all_cons (fun e s n avs h hb hs => by cases h; obtain ⟨x, hx, _⟩ := sh111 hs; exact ⟨x, hx.symm⟩) (
  all_cons (fun e s n avs h hb => by cases h) (
  all_cons (fun e s n avs h hb => by cases h) (
  all_cons (fun e s n avs h hb => by cases h) (
  all_cons (fun e s n avs h hb => by cases h) (
  all_cons (fun e s n avs h hb => by cases h) (
  all_cons (fun e s n avs h hb => by cases h) (all_nil)))))))))))))))))))))))))))))))))))))))))))))
theorem fullC : FullC cod T := FullC.of (by kernel_rfl) (fun e he => rowsFull e he) (fun s => by cases s <;> decide) trivial
end Km.X
