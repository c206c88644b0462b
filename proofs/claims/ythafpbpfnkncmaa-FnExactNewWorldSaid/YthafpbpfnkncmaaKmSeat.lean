/- A part of the proof of FnExactNewWorld: the program's types as data. There is no condition. -/
import Derived.Test.YthafpbpfnkncmaaKxDef1
import Derived.Test.YthafpbpfnkncmaaKmAm3
import Derived.Test.YthafpbpfnkncmaaProg
namespace Km.X
open Go Km
set_option linter.unusedVariables false
inductive K | byte | int | str | held | item | end | parcel | record | packet | lrecord | pair | lstr | part
abbrev TyK : K → Type
  | .byte => Int
  | .int => Int
  | .str => ByteArray
  | .held => DHeld
  | .item => DItem
  | .end => DEnd
  | .parcel => DParcel
  | .record => DRecord
  | .packet => DPacket
  | .lrecord => List DRecord
  | .pair => DPair
  | .lstr => List ByteArray
  | .part => DPart
abbrev V := AV K TyK
def kno : K → Nat
  | .byte => 0
  | .int => 1
  | .str => 2
  | .held => 3
  | .item => 4
  | .end => 5
  | .parcel => 6
  | .record => 7
  | .packet => 8
  | .lrecord => 9
  | .pair => 10
  | .lstr => 11
  | .part => 12
def kcast : (s t : K) → List (TyK s) → Option (List (TyK t))
  | .byte, .byte, xs => some xs
  | .int, .int, xs => some xs
  | .str, .str, xs => some xs
  | .held, .held, xs => some xs
  | .item, .item, xs => some xs
  | .end, .end, xs => some xs
  | .parcel, .parcel, xs => some xs
  | .record, .record, xs => some xs
  | .packet, .packet, xs => some xs
  | .lrecord, .lrecord, xs => some xs
  | .pair, .pair, xs => some xs
  | .lstr, .lstr, xs => some xs
  | .part, .part, xs => some xs
  | _, _, _ => none
def ksz : K → Nat
  | .byte => 1
  | .int => 1
  | .str => 1
  | .held => 3
  | .item => 4
  | .end => 12
  | .parcel => 3
  | .record => 4
  | .packet => 9
  | .lrecord => 1
  | .pair => 3
  | .lstr => 1
  | .part => 2
def kby : K → Nat
  | .byte => 1
  | .int => 8
  | .str => 16
  | .held => 32
  | .item => 40
  | .end => 152
  | .parcel => 40
  | .record => 40
  | .packet => 80
  | .lrecord => 24
  | .pair => 8
  | .lstr => 8
  | .part => 24
def kenc : (t : K) → TyK t → List V
  | .byte, x => [.lit (.int .u8 x)]
  | .int, x => [.lit (.int .i64 x)]
  | .str, x => [.lit (.string x)]
  | .held, x => [.lit (.int .i64 x.Seq), .lit (.string x.Part.Text), .lit (.bool x.Part.Last)]
  | .item, x => [.lit (.string x.Part.Text), .lit (.bool x.Part.Last), .lit (.bool x.Has), .lit (.int .i64 x.Since)]
  | .end, x => [.lit (.int .i64 x.Number), .lit (.bool x.Up), .lit (.int .i64 x.Life), .lit (.int .i64 x.Peer), .lit (.int .i64 x.Since), .lit (.bool x.Owes), .lit (.int .i64 x.Send.Base), .inl false .item x.Send.Items, .lit (.int .i64 x.Take.Next), .inl false .held x.Take.Held, .lit (.string x.Take.Open), .inl false .str x.Take.Ready]
  | .parcel, x => [.lit (.int .i64 x.To), .lit (.string x.Sent), .lit (.string x.Bytes)]
  | .record, x => [.lit (.int .i64 x.From), .lit (.int .i64 x.A), .lit (.int .i64 x.B), .lit (.string x.Text)]
  | .packet, x => [.lit (.int .i64 x.Kind), .lit (.int .i64 x.From), .lit (.int .i64 x.Mine), .lit (.int .i64 x.Yours), .lit (.int .i64 x.Next), .lit (.int .i64 x.Mask), .lit (.int .i64 x.Seq), .lit (.bool x.Last), .lit (.string x.Part)]
  | .lrecord, x => [.inl true .record x]
  | .pair, x => [.lit (.int .i64 x.f), .lit (.int .i64 x.a), .lit (.int .i64 x.b)]
  | .lstr, x => [.inl false .str x]
  | .part, x => [.lit (.string x.Text), .lit (.bool x.Last)]
def kdec : (t : K) → List V → Option (TyK t)
  | .byte, [.lit (.int .u8 v1)] => some v1
  | .int, [.lit (.int .i64 v1)] => some v1
  | .str, [.lit (.string v1)] => some v1
  | .held, [.lit (.int .i64 v1), .lit (.string v2), .lit (.bool v3)] => some ⟨v1, ⟨v2, v3⟩⟩
  | .item, [.lit (.string v1), .lit (.bool v2), .lit (.bool v3), .lit (.int .i64 v4)] => some ⟨⟨v1, v2⟩, v3, v4⟩
  | .end, [.lit (.int .i64 v1), .lit (.bool v2), .lit (.int .i64 v3), .lit (.int .i64 v4), .lit (.int .i64 v5), .lit (.bool v6), .lit (.int .i64 v7), .inl false .item v8, .lit (.int .i64 v9), .inl false .held v10, .lit (.string v11), .inl false .str v12] => some ⟨v1, v2, v3, v4, v5, v6, ⟨v7, v8⟩, ⟨v9, v10, v11, v12⟩⟩
  | .parcel, [.lit (.int .i64 v1), .lit (.string v2), .lit (.string v3)] => some ⟨v1, v2, v3⟩
  | .record, [.lit (.int .i64 v1), .lit (.int .i64 v2), .lit (.int .i64 v3), .lit (.string v4)] => some ⟨v1, v2, v3, v4⟩
  | .packet, [.lit (.int .i64 v1), .lit (.int .i64 v2), .lit (.int .i64 v3), .lit (.int .i64 v4), .lit (.int .i64 v5), .lit (.int .i64 v6), .lit (.int .i64 v7), .lit (.bool v8), .lit (.string v9)] => some ⟨v1, v2, v3, v4, v5, v6, v7, v8, v9⟩
  | .lrecord, [.inl true .record v1] => some v1
  | .pair, [.lit (.int .i64 v1), .lit (.int .i64 v2), .lit (.int .i64 v3)] => some ⟨v1, v2, v3⟩
  | .lstr, [.inl false .str v1] => some v1
  | .part, [.lit (.string v1), .lit (.bool v2)] => some ⟨v1, v2⟩
  | _, _ => none
def kbytes : (t : K) → List (TyK t) → Option (List Int)
  | .byte, xs => some xs
  | _, _ => none
def kofb : (t : K) → ByteArray → Option (List (TyK t))
  | .byte, b => some (bytesOf b)
  | _, _ => none
def kkeq : (k : K) → TyK k → TyK k → Bool
  | .pair, x, y => eq_pair x y
  | _, _, _ => false
def kmcast : (k v k' v' : K) → List (TyK k × TyK v) → Option (List (TyK k' × TyK v'))
  | .pair, .int, .pair, .int, xs => some xs
  | .pair, .lstr, .pair, .lstr, xs => some xs
  | _, _, _, _, _ => none
def kbor : K → Bool
  | .lrecord => true
  | _ => false
def cod : Cod K TyK where
  same s t := Nat.beq (kno s) (kno t)
  cast := kcast
  sz := ksz
  by' := kby
  bor := kbor
  enc := kenc
  dec := kdec
  bytes := kbytes
  ofb := kofb
  keq := kkeq
  mcast := kmcast
theorem codOk : CodOk cod where
  same s t h := by have := Nat.eq_of_beq_eq_true h; cases s <;> cases t <;> first | rfl | (simp [kno] at this)
  len t x := by cases t <;> rfl
  dec t cs x h := by
    change kdec t cs = some x at h
    unfold kdec at h
    split at h <;> first | (cases h; rfl) | cases h
  deep t x c h := by
    change c ∈ kenc t x at h
    cases t <;> simp only [kenc, List.mem_cons, List.not_mem_nil, or_false] at h <;> (repeat' (rcases h with h | h)) <;> first | exact .inl ⟨_, rfl⟩ | exact .inr ⟨_, _, rfl, fun e => by cases e⟩
  cast s t xs ys h := by
    change kcast s t xs = some ys at h
    unfold kcast at h
    split at h
    all_goals first | (cases h; exact ⟨rfl, rfl⟩) | cases h
  ofb t b xs h := by
    change kofb t b = some xs at h
    unfold kofb at h
    split at h
    · cases h
      refine ⟨by unfold bytesOf; rw [List.length_map, Array.length_toList]; rfl, fun i x hx => ?_, rfl⟩
      simp only [bytesOf, List.getElem?_map, Option.map_eq_some_iff] at hx
      obtain ⟨c, hc, rfl⟩ := hx
      exact ⟨c, by simpa using hc, rfl⟩
    · cases h
  keq k x y h := by
    change kkeq k x y = true at h
    unfold kkeq at h
    split at h
    all_goals first | cases h | (first | exact eq_pair_eq h)
  mcast k v k' v' xs ys h := by
    change kmcast k v k' v' xs = some ys at h
    unfold kmcast at h
    split at h
    all_goals first | (cases h; exact ⟨rfl, rfl, rfl⟩) | cases h
  bytes t xs bs h := by
    change kbytes t xs = some bs at h
    unfold kbytes at h
    split at h
    · cases h; exact ⟨rfl, fun i x b h1 h2 => by rw [h1] at h2; cases h2; rfl⟩
    · cases h
end Km.X
namespace Km.X
open Go Km Go.Proofs
set_option linter.unusedVariables false
set_option maxRecDepth 100000
def tbl : List (Nat × TI K TyK) := [
  (2, ⟨1, 8, .int .i64, [.lit (.int .i64 0)]⟩),
  (3, ⟨1, 8, .int .i64, [.lit (.int .i64 0)]⟩),
  (4, ⟨1, 1, .bool, [.lit (.bool false)]⟩),
  (5, ⟨1, 1, .int .u8, [.lit (.int .u8 0)]⟩),
  (9, ⟨1, 16, .str, [.lit (.string ⟨#[]⟩)]⟩),
  (12, ⟨1, 8, .int .u64, [.lit (.int .u64 0)]⟩),
  (21, ⟨1, 4, .int .i32, [.lit (.int .i32 0)]⟩),
  (22, ⟨1, 24, .slice 143 .held, [.nil .held]⟩),
  (23, ⟨1, 24, .slice 9 .str, [.nil .str]⟩),
  (25, ⟨4, 72, .struct [(0, 3), (1, 22), (2, 9), (3, 23)], [.lit (.int .i64 0), .nil .held, .lit (.string ⟨#[]⟩), .nil .str]⟩),
  (27, ⟨1, 24, .slice 97 .held, [.nil .held]⟩),
  (29, ⟨4, 72, .struct [(0, 3), (1, 27), (2, 9), (3, 23)], [.lit (.int .i64 0), .nil .held, .lit (.string ⟨#[]⟩), .nil .str]⟩),
  (37, ⟨2, 24, .struct [(0, 9), (1, 4)], [.lit (.string ⟨#[]⟩), .lit (.bool false)]⟩),
  (40, ⟨2, 24, .struct [(0, 9), (1, 4)], [.lit (.string ⟨#[]⟩), .lit (.bool false)]⟩),
  (43, ⟨1, 24, .slice 169 .item, [.nil .item]⟩),
  (45, ⟨2, 32, .struct [(0, 3), (1, 43)], [.lit (.int .i64 0), .nil .item]⟩),
  (47, ⟨12, 152, .struct [(0, 3), (1, 4), (2, 3), (3, 3), (4, 3), (5, 4), (6, 45), (8, 25)], [.lit (.int .i64 0), .lit (.bool false), .lit (.int .i64 0), .lit (.int .i64 0), .lit (.int .i64 0), .lit (.bool false), .lit (.int .i64 0), .nil .item, .lit (.int .i64 0), .nil .held, .lit (.string ⟨#[]⟩), .nil .str]⟩),
  (50, ⟨1, 24, .slice 135 .item, [.nil .item]⟩),
  (52, ⟨2, 32, .struct [(0, 3), (1, 50)], [.lit (.int .i64 0), .nil .item]⟩),
  (54, ⟨12, 152, .struct [(0, 3), (1, 4), (2, 3), (3, 3), (4, 3), (5, 4), (6, 52), (8, 29)], [.lit (.int .i64 0), .lit (.bool false), .lit (.int .i64 0), .lit (.int .i64 0), .lit (.int .i64 0), .lit (.bool false), .lit (.int .i64 0), .nil .item, .lit (.int .i64 0), .nil .held, .lit (.string ⟨#[]⟩), .nil .str]⟩),
  (58, ⟨1, 24, .slice 54 .end, [.nil .end]⟩),
  (59, ⟨1, 24, .slice 115 .parcel, [.nil .parcel]⟩),
  (60, ⟨1, 24, .slice 122 .record, [.nil .record]⟩),
  (62, ⟨7, 136, .struct [(0, 9), (1, 3), (2, 58), (3, 59), (4, 9), (5, 60), (6, 60)], [.lit (.string ⟨#[]⟩), .lit (.int .i64 0), .nil .end, .nil .parcel, .lit (.string ⟨#[]⟩), .nil .record, .nil .record]⟩),
  (69, ⟨1, 24, .slice 47 .end, [.nil .end]⟩),
  (70, ⟨1, 24, .slice 156 .parcel, [.nil .parcel]⟩),
  (71, ⟨1, 24, .slice 158 .record, [.nil .record]⟩),
  (73, ⟨7, 136, .struct [(0, 9), (1, 3), (2, 69), (3, 70), (4, 9), (5, 71), (6, 71)], [.lit (.string ⟨#[]⟩), .lit (.int .i64 0), .nil .end, .nil .parcel, .lit (.string ⟨#[]⟩), .nil .record, .nil .record]⟩),
  (78, ⟨1, 24, .slice 137 .packet, [.nil .packet]⟩),
  (80, ⟨15, 200, .struct [(0, 3), (1, 54), (13, 78), (14, 9)], [.lit (.int .i64 0), .lit (.int .i64 0), .lit (.bool false), .lit (.int .i64 0), .lit (.int .i64 0), .lit (.int .i64 0), .lit (.bool false), .lit (.int .i64 0), .nil .item, .lit (.int .i64 0), .nil .held, .lit (.string ⟨#[]⟩), .nil .str, .nil .packet, .lit (.string ⟨#[]⟩)]⟩),
  (97, ⟨3, 32, .struct [(0, 3), (1, 40)], [.lit (.int .i64 0), .lit (.string ⟨#[]⟩), .lit (.bool false)]⟩),
  (115, ⟨3, 40, .struct [(0, 3), (1, 9), (2, 9)], [.lit (.int .i64 0), .lit (.string ⟨#[]⟩), .lit (.string ⟨#[]⟩)]⟩),
  (120, ⟨1, 24, .slice 60 .lrecord, [.nil .lrecord]⟩),
  (122, ⟨4, 40, .struct [(0, 3), (1, 3), (2, 3), (3, 9)], [.lit (.int .i64 0), .lit (.int .i64 0), .lit (.int .i64 0), .lit (.string ⟨#[]⟩)]⟩),
  (123, ⟨1, 8, .map 125 23 .pair .lstr, [.lit (.map none)]⟩),
  (125, ⟨3, 24, .struct [(0, 3), (1, 3), (2, 3)], [.lit (.int .i64 0), .lit (.int .i64 0), .lit (.int .i64 0)]⟩),
  (126, ⟨1, 8, .map 125 3 .pair .int, [.lit (.map none)]⟩),
  (131, ⟨1, 24, .slice 3 .int, [.nil .int]⟩),
  (135, ⟨4, 40, .struct [(0, 40), (2, 4), (3, 3)], [.lit (.string ⟨#[]⟩), .lit (.bool false), .lit (.bool false), .lit (.int .i64 0)]⟩),
  (137, ⟨9, 80, .struct [(0, 3), (1, 3), (2, 3), (3, 3), (4, 3), (5, 3), (6, 3), (7, 4), (8, 9)], [.lit (.int .i64 0), .lit (.int .i64 0), .lit (.int .i64 0), .lit (.int .i64 0), .lit (.int .i64 0), .lit (.int .i64 0), .lit (.int .i64 0), .lit (.bool false), .lit (.string ⟨#[]⟩)]⟩),
  (140, ⟨1, 8, .other, [.lit (.pointer none)]⟩),
  (143, ⟨3, 32, .struct [(0, 3), (1, 37)], [.lit (.int .i64 0), .lit (.string ⟨#[]⟩), .lit (.bool false)]⟩),
  (156, ⟨3, 40, .struct [(0, 3), (1, 9), (2, 9)], [.lit (.int .i64 0), .lit (.string ⟨#[]⟩), .lit (.string ⟨#[]⟩)]⟩),
  (158, ⟨4, 40, .struct [(0, 3), (1, 3), (2, 3), (3, 9)], [.lit (.int .i64 0), .lit (.int .i64 0), .lit (.int .i64 0), .lit (.string ⟨#[]⟩)]⟩),
  (162, ⟨1, 24, .slice 40 .part, [.nil .part]⟩),
  (164, ⟨1, 8, .other, [.lit (.pointer none)]⟩),
  (166, ⟨1, 24, .slice 5 .byte, [.nil .byte]⟩),
  (169, ⟨4, 40, .struct [(0, 37), (2, 4), (3, 3)], [.lit (.string ⟨#[]⟩), .lit (.bool false), .lit (.bool false), .lit (.int .i64 0)]⟩),
  (179, ⟨1, 4, .int .u32, [.lit (.int .u32 0)]⟩),
  (183, ⟨1, 8, .other, [.lit (.pointer none)]⟩)]
abbrev T := lookT tbl
theorem row2 : RowOk Try.prog cod T 2 ⟨1, 8, .int .i64, [.lit (.int .i64 0)]⟩ := ⟨_, _, _, Try.type2, rfl, rfl, rfl, by kernel_rfl, by kernel_rfl, Try.underlying2, by kernel_rfl, rfl⟩
theorem row3 : RowOk Try.prog cod T 3 ⟨1, 8, .int .i64, [.lit (.int .i64 0)]⟩ := ⟨_, _, _, Try.type3, rfl, rfl, rfl, by kernel_rfl, by kernel_rfl, Try.underlying3, by kernel_rfl, rfl⟩
theorem row4 : RowOk Try.prog cod T 4 ⟨1, 1, .bool, [.lit (.bool false)]⟩ := ⟨_, _, _, Try.type4, rfl, rfl, rfl, by kernel_rfl, by kernel_rfl, Try.underlying4, by kernel_rfl, rfl⟩
theorem row5 : RowOk Try.prog cod T 5 ⟨1, 1, .int .u8, [.lit (.int .u8 0)]⟩ := ⟨_, _, _, Try.type5, rfl, rfl, rfl, by kernel_rfl, by kernel_rfl, Try.underlying5, by kernel_rfl, rfl⟩
theorem row9 : RowOk Try.prog cod T 9 ⟨1, 16, .str, [.lit (.string ⟨#[]⟩)]⟩ := ⟨_, _, _, Try.type9, rfl, rfl, rfl, by kernel_rfl, by kernel_rfl, Try.underlying9, by kernel_rfl, rfl⟩
theorem row12 : RowOk Try.prog cod T 12 ⟨1, 8, .int .u64, [.lit (.int .u64 0)]⟩ := ⟨_, _, _, Try.type12, rfl, rfl, rfl, by kernel_rfl, by kernel_rfl, Try.underlying12, by kernel_rfl, rfl⟩
theorem row21 : RowOk Try.prog cod T 21 ⟨1, 4, .int .i32, [.lit (.int .i32 0)]⟩ := ⟨_, _, _, Try.type21, rfl, rfl, rfl, by kernel_rfl, by kernel_rfl, Try.underlying21, by kernel_rfl, rfl⟩
theorem row22 : RowOk Try.prog cod T 22 ⟨1, 24, .slice 143 .held, [.nil .held]⟩ := ⟨_, _, _, Try.type22, rfl, rfl, rfl, by kernel_rfl, by kernel_rfl, Try.underlying22, by kernel_rfl, ⟨⟨rfl, _, Try.type143, by kernel_rfl, by kernel_rfl⟩, _, _, Try.type143, rfl, by kernel_rfl, by kernel_rfl, by decide⟩⟩
theorem row23 : RowOk Try.prog cod T 23 ⟨1, 24, .slice 9 .str, [.nil .str]⟩ := ⟨_, _, _, Try.type23, rfl, rfl, rfl, by kernel_rfl, by kernel_rfl, Try.underlying23, by kernel_rfl, ⟨⟨rfl, _, Try.type9, by kernel_rfl, by kernel_rfl⟩, _, _, Try.type9, rfl, by kernel_rfl, by kernel_rfl, by decide⟩⟩
theorem row25 : RowOk Try.prog cod T 25 ⟨4, 72, .struct [(0, 3), (1, 22), (2, 9), (3, 23)], [.lit (.int .i64 0), .nil .held, .lit (.string ⟨#[]⟩), .nil .str]⟩ := ⟨_, _, _, Try.type25, rfl, rfl, rfl, by kernel_rfl, by kernel_rfl, Try.underlying25, by kernel_rfl, ⟨_, rfl, by kernel_rfl, by kernel_rfl, by kernel_rfl, by kernel_rfl, by kernel_rfl⟩⟩
theorem row27 : RowOk Try.prog cod T 27 ⟨1, 24, .slice 97 .held, [.nil .held]⟩ := ⟨_, _, _, Try.type27, rfl, rfl, rfl, by kernel_rfl, by kernel_rfl, Try.underlying27, by kernel_rfl, ⟨⟨rfl, _, Try.type97, by kernel_rfl, by kernel_rfl⟩, _, _, Try.type97, rfl, by kernel_rfl, by kernel_rfl, by decide⟩⟩
theorem row29 : RowOk Try.prog cod T 29 ⟨4, 72, .struct [(0, 3), (1, 27), (2, 9), (3, 23)], [.lit (.int .i64 0), .nil .held, .lit (.string ⟨#[]⟩), .nil .str]⟩ := ⟨_, _, _, Try.type29, rfl, rfl, rfl, by kernel_rfl, by kernel_rfl, Try.underlying29, by kernel_rfl, ⟨_, rfl, by kernel_rfl, by kernel_rfl, by kernel_rfl, by kernel_rfl, by kernel_rfl⟩⟩
theorem row37 : RowOk Try.prog cod T 37 ⟨2, 24, .struct [(0, 9), (1, 4)], [.lit (.string ⟨#[]⟩), .lit (.bool false)]⟩ := ⟨_, _, _, Try.type37, rfl, rfl, rfl, by kernel_rfl, by kernel_rfl, Try.underlying37, by kernel_rfl, ⟨_, rfl, by kernel_rfl, by kernel_rfl, by kernel_rfl, by kernel_rfl, by kernel_rfl⟩⟩
theorem row40 : RowOk Try.prog cod T 40 ⟨2, 24, .struct [(0, 9), (1, 4)], [.lit (.string ⟨#[]⟩), .lit (.bool false)]⟩ := ⟨_, _, _, Try.type40, rfl, rfl, rfl, by kernel_rfl, by kernel_rfl, Try.underlying40, by kernel_rfl, ⟨_, rfl, by kernel_rfl, by kernel_rfl, by kernel_rfl, by kernel_rfl, by kernel_rfl⟩⟩
theorem row43 : RowOk Try.prog cod T 43 ⟨1, 24, .slice 169 .item, [.nil .item]⟩ := ⟨_, _, _, Try.type43, rfl, rfl, rfl, by kernel_rfl, by kernel_rfl, Try.underlying43, by kernel_rfl, ⟨⟨rfl, _, Try.type169, by kernel_rfl, by kernel_rfl⟩, _, _, Try.type169, rfl, by kernel_rfl, by kernel_rfl, by decide⟩⟩
theorem row45 : RowOk Try.prog cod T 45 ⟨2, 32, .struct [(0, 3), (1, 43)], [.lit (.int .i64 0), .nil .item]⟩ := ⟨_, _, _, Try.type45, rfl, rfl, rfl, by kernel_rfl, by kernel_rfl, Try.underlying45, by kernel_rfl, ⟨_, rfl, by kernel_rfl, by kernel_rfl, by kernel_rfl, by kernel_rfl, by kernel_rfl⟩⟩
theorem row47 : RowOk Try.prog cod T 47 ⟨12, 152, .struct [(0, 3), (1, 4), (2, 3), (3, 3), (4, 3), (5, 4), (6, 45), (8, 25)], [.lit (.int .i64 0), .lit (.bool false), .lit (.int .i64 0), .lit (.int .i64 0), .lit (.int .i64 0), .lit (.bool false), .lit (.int .i64 0), .nil .item, .lit (.int .i64 0), .nil .held, .lit (.string ⟨#[]⟩), .nil .str]⟩ := ⟨_, _, _, Try.type47, rfl, rfl, rfl, by kernel_rfl, by kernel_rfl, Try.underlying47, by kernel_rfl, ⟨_, rfl, by kernel_rfl, by kernel_rfl, by kernel_rfl, by kernel_rfl, by kernel_rfl⟩⟩
theorem row50 : RowOk Try.prog cod T 50 ⟨1, 24, .slice 135 .item, [.nil .item]⟩ := ⟨_, _, _, Try.type50, rfl, rfl, rfl, by kernel_rfl, by kernel_rfl, Try.underlying50, by kernel_rfl, ⟨⟨rfl, _, Try.type135, by kernel_rfl, by kernel_rfl⟩, _, _, Try.type135, rfl, by kernel_rfl, by kernel_rfl, by decide⟩⟩
theorem row52 : RowOk Try.prog cod T 52 ⟨2, 32, .struct [(0, 3), (1, 50)], [.lit (.int .i64 0), .nil .item]⟩ := ⟨_, _, _, Try.type52, rfl, rfl, rfl, by kernel_rfl, by kernel_rfl, Try.underlying52, by kernel_rfl, ⟨_, rfl, by kernel_rfl, by kernel_rfl, by kernel_rfl, by kernel_rfl, by kernel_rfl⟩⟩
theorem row54 : RowOk Try.prog cod T 54 ⟨12, 152, .struct [(0, 3), (1, 4), (2, 3), (3, 3), (4, 3), (5, 4), (6, 52), (8, 29)], [.lit (.int .i64 0), .lit (.bool false), .lit (.int .i64 0), .lit (.int .i64 0), .lit (.int .i64 0), .lit (.bool false), .lit (.int .i64 0), .nil .item, .lit (.int .i64 0), .nil .held, .lit (.string ⟨#[]⟩), .nil .str]⟩ := ⟨_, _, _, Try.type54, rfl, rfl, rfl, by kernel_rfl, by kernel_rfl, Try.underlying54, by kernel_rfl, ⟨_, rfl, by kernel_rfl, by kernel_rfl, by kernel_rfl, by kernel_rfl, by kernel_rfl⟩⟩
theorem row58 : RowOk Try.prog cod T 58 ⟨1, 24, .slice 54 .end, [.nil .end]⟩ := ⟨_, _, _, Try.type58, rfl, rfl, rfl, by kernel_rfl, by kernel_rfl, Try.underlying58, by kernel_rfl, ⟨⟨rfl, _, Try.type54, by kernel_rfl, by kernel_rfl⟩, _, _, Try.type54, rfl, by kernel_rfl, by kernel_rfl, by decide⟩⟩
theorem row59 : RowOk Try.prog cod T 59 ⟨1, 24, .slice 115 .parcel, [.nil .parcel]⟩ := ⟨_, _, _, Try.type59, rfl, rfl, rfl, by kernel_rfl, by kernel_rfl, Try.underlying59, by kernel_rfl, ⟨⟨rfl, _, Try.type115, by kernel_rfl, by kernel_rfl⟩, _, _, Try.type115, rfl, by kernel_rfl, by kernel_rfl, by decide⟩⟩
theorem row60 : RowOk Try.prog cod T 60 ⟨1, 24, .slice 122 .record, [.nil .record]⟩ := ⟨_, _, _, Try.type60, rfl, rfl, rfl, by kernel_rfl, by kernel_rfl, Try.underlying60, by kernel_rfl, ⟨⟨rfl, _, Try.type122, by kernel_rfl, by kernel_rfl⟩, _, _, Try.type122, rfl, by kernel_rfl, by kernel_rfl, by decide⟩⟩
theorem row62 : RowOk Try.prog cod T 62 ⟨7, 136, .struct [(0, 9), (1, 3), (2, 58), (3, 59), (4, 9), (5, 60), (6, 60)], [.lit (.string ⟨#[]⟩), .lit (.int .i64 0), .nil .end, .nil .parcel, .lit (.string ⟨#[]⟩), .nil .record, .nil .record]⟩ := ⟨_, _, _, Try.type62, rfl, rfl, rfl, by kernel_rfl, by kernel_rfl, Try.underlying62, by kernel_rfl, ⟨_, rfl, by kernel_rfl, by kernel_rfl, by kernel_rfl, by kernel_rfl, by kernel_rfl⟩⟩
theorem row69 : RowOk Try.prog cod T 69 ⟨1, 24, .slice 47 .end, [.nil .end]⟩ := ⟨_, _, _, Try.type69, rfl, rfl, rfl, by kernel_rfl, by kernel_rfl, Try.underlying69, by kernel_rfl, ⟨⟨rfl, _, Try.type47, by kernel_rfl, by kernel_rfl⟩, _, _, Try.type47, rfl, by kernel_rfl, by kernel_rfl, by decide⟩⟩
theorem row70 : RowOk Try.prog cod T 70 ⟨1, 24, .slice 156 .parcel, [.nil .parcel]⟩ := ⟨_, _, _, Try.type70, rfl, rfl, rfl, by kernel_rfl, by kernel_rfl, Try.underlying70, by kernel_rfl, ⟨⟨rfl, _, Try.type156, by kernel_rfl, by kernel_rfl⟩, _, _, Try.type156, rfl, by kernel_rfl, by kernel_rfl, by decide⟩⟩
theorem row71 : RowOk Try.prog cod T 71 ⟨1, 24, .slice 158 .record, [.nil .record]⟩ := ⟨_, _, _, Try.type71, rfl, rfl, rfl, by kernel_rfl, by kernel_rfl, Try.underlying71, by kernel_rfl, ⟨⟨rfl, _, Try.type158, by kernel_rfl, by kernel_rfl⟩, _, _, Try.type158, rfl, by kernel_rfl, by kernel_rfl, by decide⟩⟩
theorem row73 : RowOk Try.prog cod T 73 ⟨7, 136, .struct [(0, 9), (1, 3), (2, 69), (3, 70), (4, 9), (5, 71), (6, 71)], [.lit (.string ⟨#[]⟩), .lit (.int .i64 0), .nil .end, .nil .parcel, .lit (.string ⟨#[]⟩), .nil .record, .nil .record]⟩ := ⟨_, _, _, Try.type73, rfl, rfl, rfl, by kernel_rfl, by kernel_rfl, Try.underlying73, by kernel_rfl, ⟨_, rfl, by kernel_rfl, by kernel_rfl, by kernel_rfl, by kernel_rfl, by kernel_rfl⟩⟩
theorem row78 : RowOk Try.prog cod T 78 ⟨1, 24, .slice 137 .packet, [.nil .packet]⟩ := ⟨_, _, _, Try.type78, rfl, rfl, rfl, by kernel_rfl, by kernel_rfl, Try.underlying78, by kernel_rfl, ⟨⟨rfl, _, Try.type137, by kernel_rfl, by kernel_rfl⟩, _, _, Try.type137, rfl, by kernel_rfl, by kernel_rfl, by decide⟩⟩
theorem row80 : RowOk Try.prog cod T 80 ⟨15, 200, .struct [(0, 3), (1, 54), (13, 78), (14, 9)], [.lit (.int .i64 0), .lit (.int .i64 0), .lit (.bool false), .lit (.int .i64 0), .lit (.int .i64 0), .lit (.int .i64 0), .lit (.bool false), .lit (.int .i64 0), .nil .item, .lit (.int .i64 0), .nil .held, .lit (.string ⟨#[]⟩), .nil .str, .nil .packet, .lit (.string ⟨#[]⟩)]⟩ := ⟨_, _, _, Try.type80, rfl, rfl, rfl, by kernel_rfl, by kernel_rfl, Try.underlying80, by kernel_rfl, ⟨_, rfl, by kernel_rfl, by kernel_rfl, by kernel_rfl, by kernel_rfl, by kernel_rfl⟩⟩
theorem row97 : RowOk Try.prog cod T 97 ⟨3, 32, .struct [(0, 3), (1, 40)], [.lit (.int .i64 0), .lit (.string ⟨#[]⟩), .lit (.bool false)]⟩ := ⟨_, _, _, Try.type97, rfl, rfl, rfl, by kernel_rfl, by kernel_rfl, Try.underlying97, by kernel_rfl, ⟨_, rfl, by kernel_rfl, by kernel_rfl, by kernel_rfl, by kernel_rfl, by kernel_rfl⟩⟩
theorem row115 : RowOk Try.prog cod T 115 ⟨3, 40, .struct [(0, 3), (1, 9), (2, 9)], [.lit (.int .i64 0), .lit (.string ⟨#[]⟩), .lit (.string ⟨#[]⟩)]⟩ := ⟨_, _, _, Try.type115, rfl, rfl, rfl, by kernel_rfl, by kernel_rfl, Try.underlying115, by kernel_rfl, ⟨_, rfl, by kernel_rfl, by kernel_rfl, by kernel_rfl, by kernel_rfl, by kernel_rfl⟩⟩
theorem row120 : RowOk Try.prog cod T 120 ⟨1, 24, .slice 60 .lrecord, [.nil .lrecord]⟩ := ⟨_, _, _, Try.type120, rfl, rfl, rfl, by kernel_rfl, by kernel_rfl, Try.underlying120, by kernel_rfl, ⟨⟨rfl, _, Try.type60, by kernel_rfl, by kernel_rfl⟩, _, _, Try.type60, rfl, by kernel_rfl, by kernel_rfl, by decide⟩⟩
theorem row122 : RowOk Try.prog cod T 122 ⟨4, 40, .struct [(0, 3), (1, 3), (2, 3), (3, 9)], [.lit (.int .i64 0), .lit (.int .i64 0), .lit (.int .i64 0), .lit (.string ⟨#[]⟩)]⟩ := ⟨_, _, _, Try.type122, rfl, rfl, rfl, by kernel_rfl, by kernel_rfl, Try.underlying122, by kernel_rfl, ⟨_, rfl, by kernel_rfl, by kernel_rfl, by kernel_rfl, by kernel_rfl, by kernel_rfl⟩⟩
theorem row123 : RowOk Try.prog cod T 123 ⟨1, 8, .map 125 23 .pair .lstr, [.lit (.map none)]⟩ := ⟨_, _, _, Try.type123, rfl, rfl, rfl, by kernel_rfl, by kernel_rfl, Try.underlying123, by kernel_rfl, ⟨rfl, fun _ _ => by kernel_rfl, ⟨_, _, rfl, rfl, by kernel_rfl⟩, fun _ => rfl, _, _, Try.type23, rfl, by kernel_rfl⟩⟩
theorem row125 : RowOk Try.prog cod T 125 ⟨3, 24, .struct [(0, 3), (1, 3), (2, 3)], [.lit (.int .i64 0), .lit (.int .i64 0), .lit (.int .i64 0)]⟩ := ⟨_, _, _, Try.type125, rfl, rfl, rfl, by kernel_rfl, by kernel_rfl, Try.underlying125, by kernel_rfl, ⟨_, rfl, by kernel_rfl, by kernel_rfl, by kernel_rfl, by kernel_rfl, by kernel_rfl⟩⟩
theorem row126 : RowOk Try.prog cod T 126 ⟨1, 8, .map 125 3 .pair .int, [.lit (.map none)]⟩ := ⟨_, _, _, Try.type126, rfl, rfl, rfl, by kernel_rfl, by kernel_rfl, Try.underlying126, by kernel_rfl, ⟨rfl, fun _ _ => by kernel_rfl, ⟨_, _, rfl, rfl, by kernel_rfl⟩, fun _ => rfl, _, _, Try.type3, rfl, by kernel_rfl⟩⟩
theorem row131 : RowOk Try.prog cod T 131 ⟨1, 24, .slice 3 .int, [.nil .int]⟩ := ⟨_, _, _, Try.type131, rfl, rfl, rfl, by kernel_rfl, by kernel_rfl, Try.underlying131, by kernel_rfl, ⟨⟨rfl, _, Try.type3, by kernel_rfl, by kernel_rfl⟩, _, _, Try.type3, rfl, by kernel_rfl, by kernel_rfl, by decide⟩⟩
theorem row135 : RowOk Try.prog cod T 135 ⟨4, 40, .struct [(0, 40), (2, 4), (3, 3)], [.lit (.string ⟨#[]⟩), .lit (.bool false), .lit (.bool false), .lit (.int .i64 0)]⟩ := ⟨_, _, _, Try.type135, rfl, rfl, rfl, by kernel_rfl, by kernel_rfl, Try.underlying135, by kernel_rfl, ⟨_, rfl, by kernel_rfl, by kernel_rfl, by kernel_rfl, by kernel_rfl, by kernel_rfl⟩⟩
theorem row137 : RowOk Try.prog cod T 137 ⟨9, 80, .struct [(0, 3), (1, 3), (2, 3), (3, 3), (4, 3), (5, 3), (6, 3), (7, 4), (8, 9)], [.lit (.int .i64 0), .lit (.int .i64 0), .lit (.int .i64 0), .lit (.int .i64 0), .lit (.int .i64 0), .lit (.int .i64 0), .lit (.int .i64 0), .lit (.bool false), .lit (.string ⟨#[]⟩)]⟩ := ⟨_, _, _, Try.type137, rfl, rfl, rfl, by kernel_rfl, by kernel_rfl, Try.underlying137, by kernel_rfl, ⟨_, rfl, by kernel_rfl, by kernel_rfl, by kernel_rfl, by kernel_rfl, by kernel_rfl⟩⟩
theorem row140 : RowOk Try.prog cod T 140 ⟨1, 8, .other, [.lit (.pointer none)]⟩ := ⟨_, _, _, Try.type140, rfl, rfl, rfl, by kernel_rfl, by kernel_rfl, Try.underlying140, by kernel_rfl, trivial⟩
theorem row143 : RowOk Try.prog cod T 143 ⟨3, 32, .struct [(0, 3), (1, 37)], [.lit (.int .i64 0), .lit (.string ⟨#[]⟩), .lit (.bool false)]⟩ := ⟨_, _, _, Try.type143, rfl, rfl, rfl, by kernel_rfl, by kernel_rfl, Try.underlying143, by kernel_rfl, ⟨_, rfl, by kernel_rfl, by kernel_rfl, by kernel_rfl, by kernel_rfl, by kernel_rfl⟩⟩
theorem row156 : RowOk Try.prog cod T 156 ⟨3, 40, .struct [(0, 3), (1, 9), (2, 9)], [.lit (.int .i64 0), .lit (.string ⟨#[]⟩), .lit (.string ⟨#[]⟩)]⟩ := ⟨_, _, _, Try.type156, rfl, rfl, rfl, by kernel_rfl, by kernel_rfl, Try.underlying156, by kernel_rfl, ⟨_, rfl, by kernel_rfl, by kernel_rfl, by kernel_rfl, by kernel_rfl, by kernel_rfl⟩⟩
theorem row158 : RowOk Try.prog cod T 158 ⟨4, 40, .struct [(0, 3), (1, 3), (2, 3), (3, 9)], [.lit (.int .i64 0), .lit (.int .i64 0), .lit (.int .i64 0), .lit (.string ⟨#[]⟩)]⟩ := ⟨_, _, _, Try.type158, rfl, rfl, rfl, by kernel_rfl, by kernel_rfl, Try.underlying158, by kernel_rfl, ⟨_, rfl, by kernel_rfl, by kernel_rfl, by kernel_rfl, by kernel_rfl, by kernel_rfl⟩⟩
theorem row162 : RowOk Try.prog cod T 162 ⟨1, 24, .slice 40 .part, [.nil .part]⟩ := ⟨_, _, _, Try.type162, rfl, rfl, rfl, by kernel_rfl, by kernel_rfl, Try.underlying162, by kernel_rfl, ⟨⟨rfl, _, Try.type40, by kernel_rfl, by kernel_rfl⟩, _, _, Try.type40, rfl, by kernel_rfl, by kernel_rfl, by decide⟩⟩
theorem row164 : RowOk Try.prog cod T 164 ⟨1, 8, .other, [.lit (.pointer none)]⟩ := ⟨_, _, _, Try.type164, rfl, rfl, rfl, by kernel_rfl, by kernel_rfl, Try.underlying164, by kernel_rfl, trivial⟩
theorem row166 : RowOk Try.prog cod T 166 ⟨1, 24, .slice 5 .byte, [.nil .byte]⟩ := ⟨_, _, _, Try.type166, rfl, rfl, rfl, by kernel_rfl, by kernel_rfl, Try.underlying166, by kernel_rfl, ⟨⟨rfl, _, Try.type5, by kernel_rfl, by kernel_rfl⟩, _, _, Try.type5, rfl, by kernel_rfl, by kernel_rfl, by decide⟩⟩
theorem row169 : RowOk Try.prog cod T 169 ⟨4, 40, .struct [(0, 37), (2, 4), (3, 3)], [.lit (.string ⟨#[]⟩), .lit (.bool false), .lit (.bool false), .lit (.int .i64 0)]⟩ := ⟨_, _, _, Try.type169, rfl, rfl, rfl, by kernel_rfl, by kernel_rfl, Try.underlying169, by kernel_rfl, ⟨_, rfl, by kernel_rfl, by kernel_rfl, by kernel_rfl, by kernel_rfl, by kernel_rfl⟩⟩
theorem row179 : RowOk Try.prog cod T 179 ⟨1, 4, .int .u32, [.lit (.int .u32 0)]⟩ := ⟨_, _, _, Try.type179, rfl, rfl, rfl, by kernel_rfl, by kernel_rfl, Try.underlying179, by kernel_rfl, rfl⟩
theorem row183 : RowOk Try.prog cod T 183 ⟨1, 8, .other, [.lit (.pointer none)]⟩ := ⟨_, _, _, Try.type183, rfl, rfl, rfl, by kernel_rfl, by kernel_rfl, Try.underlying183, by kernel_rfl, trivial⟩
theorem rows : ∀ e ∈ tbl, RowOk Try.prog cod T e.1 e.2 :=
  all_cons row2 (all_cons row3 (all_cons row4 (all_cons row5 (all_cons row9 (all_cons row12 (all_cons row21 (all_cons row22 (all_cons row23 (all_cons row25 (all_cons row27 (all_cons row29 (all_cons row37 (all_cons row40 (all_cons row43 (all_cons row45 (all_cons row47 (all_cons row50 (all_cons row52 (all_cons row54 (all_cons row58 (all_cons row59 (all_cons row60 (all_cons row62 (all_cons row69 (all_cons row70 (all_cons row71 (all_cons row73 (all_cons row78 (all_cons row80 (all_cons row97 (all_cons row115 (all_cons row120 (all_cons row122 (all_cons row123 (all_cons row125 (all_cons row126 (all_cons row131 (all_cons row135 (all_cons row137 (all_cons row140 (all_cons row143 (all_cons row156 (all_cons row158 (all_cons row162 (all_cons row164 (all_cons row166 (all_cons row169 (all_cons row179 (all_cons row183 (all_nil))))))))))))))))))))))))))))))))))))))))))))))))))
theorem tok : TOk Try.prog cod T := TOk.of rows
theorem eok : EOk Try.prog cod T := EOk.of rows
theorem mixed : Try.prog.follows .mixedOrders = true := by kernel_rfl
end Km.X
namespace Km.X
open Go Km Go.Proofs
set_option linter.unusedVariables false
set_option linter.unusedSimpArgs false
set_option maxRecDepth 100000
theorem eq_DItem (x y : DItem) (h : x.Part.Text = y.Part.Text ∧ x.Part.Last = y.Part.Last ∧ x.Has = y.Has ∧ x.Since = y.Since) : x = y := by
  obtain ⟨⟨_, _⟩, _, _⟩ := x
  obtain ⟨⟨_, _⟩, _, _⟩ := y
  simp_all
theorem eq_DHeld (x y : DHeld) (h : x.Seq = y.Seq ∧ x.Part.Text = y.Part.Text ∧ x.Part.Last = y.Part.Last) : x = y := by
  obtain ⟨_, ⟨_, _⟩⟩ := x
  obtain ⟨_, ⟨_, _⟩⟩ := y
  simp_all
theorem list2 {α : Type} {l : List α} (h : l.length = 2) : ∃ a0 a1, l = [a0, a1] := by
  match l, h with
  | [a0, a1], _ => exact ⟨a0, a1, rfl⟩
theorem list3 {α : Type} {l : List α} (h : l.length = 3) : ∃ a0 a1 a2, l = [a0, a1, a2] := by
  match l, h with
  | [a0, a1, a2], _ => exact ⟨a0, a1, a2, rfl⟩
theorem list4 {α : Type} {l : List α} (h : l.length = 4) : ∃ a0 a1 a2 a3, l = [a0, a1, a2, a3] := by
  match l, h with
  | [a0, a1, a2, a3], _ => exact ⟨a0, a1, a2, a3, rfl⟩
theorem list9 {α : Type} {l : List α} (h : l.length = 9) : ∃ a0 a1 a2 a3 a4 a5 a6 a7 a8, l = [a0, a1, a2, a3, a4, a5, a6, a7, a8] := by
  match l, h with
  | [a0, a1, a2, a3, a4, a5, a6, a7, a8], _ => exact ⟨a0, a1, a2, a3, a4, a5, a6, a7, a8, rfl⟩
theorem list12 {α : Type} {l : List α} (h : l.length = 12) : ∃ a0 a1 a2 a3 a4 a5 a6 a7 a8 a9 a10 a11, l = [a0, a1, a2, a3, a4, a5, a6, a7, a8, a9, a10, a11] := by
  match l, h with
  | [a0, a1, a2, a3, a4, a5, a6, a7, a8, a9, a10, a11], _ => exact ⟨a0, a1, a2, a3, a4, a5, a6, a7, a8, a9, a10, a11, rfl⟩
theorem sh3 {n : Nat} {avs : List V} (h : shaped cod T n 3 avs) : ∃ x : Int, avs = [.lit (.int .i64 x)] ∧ (Lit.int .i64 x).wf = true := by
  cases n with
  | zero => exact h.elim
  | succ n =>
    exact h
theorem sh4 {n : Nat} {avs : List V} (h : shaped cod T n 4 avs) : ∃ x : Bool, avs = [.lit (.bool x)] ∧ True := by
  cases n with
  | zero => exact h.elim
  | succ n =>
    obtain ⟨b, h⟩ := (h : ∃ b, avs = [.lit (.bool b)])
    exact ⟨b, h, trivial⟩
theorem sh5 {n : Nat} {avs : List V} (h : shaped cod T n 5 avs) : ∃ x : Int, avs = [.lit (.int .u8 x)] ∧ (Lit.int .u8 x).wf = true := by
  cases n with
  | zero => exact h.elim
  | succ n =>
    exact h
theorem sh9 {n : Nat} {avs : List V} (h : shaped cod T n 9 avs) : ∃ x : ByteArray, avs = [.lit (.string x)] ∧ x.size ≤ maxLen := by
  cases n with
  | zero => exact h.elim
  | succ n =>
    exact h
theorem sh37 {n : Nat} {avs : List V} (h : shaped cod T n 37 avs) : ∃ x : DPart, avs = [.lit (.string x.Text), .lit (.bool x.Last)] ∧ wfDPart x := by
  cases n with
  | zero => exact h.elim
  | succ n =>
    obtain ⟨hl, hf⟩ := (h : avs.length = 2 ∧ ∀ f ∈ ([(0, 9), (1, 4)] : List (Nat × TypeId)), ∃ tf, T f.2 = some tf ∧ shaped cod T n f.2 ((avs.drop f.1).take tf.size))
    obtain ⟨a0, a1, rfl⟩ := list2 hl
    obtain ⟨t0, ht0, g0⟩ := hf (0, 9) (by simp)
    obtain rfl := Option.some.inj ht0
    obtain ⟨x0, e0, w0⟩ := sh9 (show shaped cod T n 9 [a0] from g0)
    simp only [List.cons.injEq, and_true] at e0
    obtain ⟨t1, ht1, g1⟩ := hf (1, 4) (by simp)
    obtain rfl := Option.some.inj ht1
    obtain ⟨x1, e1, w1⟩ := sh4 (show shaped cod T n 4 [a1] from g1)
    simp only [List.cons.injEq, and_true] at e1
    obtain rfl := e0
    obtain rfl := e1
    exact ⟨⟨x0, x1⟩, rfl, w0, w1⟩
theorem sh143 {n : Nat} {avs : List V} (h : shaped cod T n 143 avs) : ∃ x : DHeld, avs = [.lit (.int .i64 x.Seq), .lit (.string x.Part.Text), .lit (.bool x.Part.Last)] ∧ wfDHeld x := by
  cases n with
  | zero => exact h.elim
  | succ n =>
    obtain ⟨hl, hf⟩ := (h : avs.length = 3 ∧ ∀ f ∈ ([(0, 3), (1, 37)] : List (Nat × TypeId)), ∃ tf, T f.2 = some tf ∧ shaped cod T n f.2 ((avs.drop f.1).take tf.size))
    obtain ⟨a0, a1, a2, rfl⟩ := list3 hl
    obtain ⟨t0, ht0, g0⟩ := hf (0, 3) (by simp)
    obtain rfl := Option.some.inj ht0
    obtain ⟨x0, e0, w0⟩ := sh3 (show shaped cod T n 3 [a0] from g0)
    simp only [List.cons.injEq, and_true] at e0
    obtain ⟨t1, ht1, g1⟩ := hf (1, 37) (by simp)
    obtain rfl := Option.some.inj ht1
    obtain ⟨x1, e1, w1⟩ := sh37 (show shaped cod T n 37 [a1, a2] from g1)
    simp only [List.cons.injEq, and_true] at e1
    obtain rfl := e0
    obtain ⟨rfl, rfl⟩ := e1
    exact ⟨⟨x0, x1⟩, rfl, w0, w1⟩
theorem sh22 {n : Nat} {avs : List V} (h : shaped cod T n 22 avs) : ∃ x : List DHeld, avs = [.inl false .held x] ∧ (x.length ≤ maxLen ∧ ∀ y ∈ x, wf_held y) := by
  cases n with
  | zero => exact h.elim
  | succ n =>
    obtain ⟨xs, h1, h2, h3⟩ := (h : ∃ xs : List (TyK .held), avs = [.inl false .held xs] ∧ xs.length ≤ maxLen ∧ ∀ x ∈ xs, shaped cod T n 143 (kenc .held x))
    refine ⟨xs, h1, h2, fun y hy => ?_⟩
    obtain ⟨z, hz, hw⟩ := sh143 (h3 y hy)
    have hz : ([.lit (.int .i64 y.Seq), .lit (.string y.Part.Text), .lit (.bool y.Part.Last)] : List V) = [.lit (.int .i64 z.Seq), .lit (.string z.Part.Text), .lit (.bool z.Part.Last)] := hz
    have : y = z := by
      simp only [List.cons.injEq, AV.lit.injEq, AV.inl.injEq, Value.int.injEq, Value.string.injEq, Value.bool.injEq, true_and, and_true, heq_eq_eq] at hz
      exact eq_DHeld y z hz
    subst this
    exact hw
theorem sh23 {n : Nat} {avs : List V} (h : shaped cod T n 23 avs) : ∃ x : List ByteArray, avs = [.inl false .str x] ∧ (x.length ≤ maxLen ∧ ∀ y ∈ x, wf_str y) := by
  cases n with
  | zero => exact h.elim
  | succ n =>
    obtain ⟨xs, h1, h2, h3⟩ := (h : ∃ xs : List (TyK .str), avs = [.inl false .str xs] ∧ xs.length ≤ maxLen ∧ ∀ x ∈ xs, shaped cod T n 9 (kenc .str x))
    refine ⟨xs, h1, h2, fun y hy => ?_⟩
    obtain ⟨z, hz, hw⟩ := sh9 (h3 y hy)
    have hz : ([.lit (.string y)] : List V) = [.lit (.string z)] := hz
    have : y = z := by
      simp only [List.cons.injEq, AV.lit.injEq, AV.inl.injEq, Value.int.injEq, Value.string.injEq, Value.bool.injEq, true_and, and_true, heq_eq_eq] at hz
      exact hz
    subst this
    exact hw
theorem sh25 {n : Nat} {avs : List V} (h : shaped cod T n 25 avs) : ∃ x : DTake, avs = [.lit (.int .i64 x.Next), .inl false .held x.Held, .lit (.string x.Open), .inl false .str x.Ready] ∧ wfDTake x := by
  cases n with
  | zero => exact h.elim
  | succ n =>
    obtain ⟨hl, hf⟩ := (h : avs.length = 4 ∧ ∀ f ∈ ([(0, 3), (1, 22), (2, 9), (3, 23)] : List (Nat × TypeId)), ∃ tf, T f.2 = some tf ∧ shaped cod T n f.2 ((avs.drop f.1).take tf.size))
    obtain ⟨a0, a1, a2, a3, rfl⟩ := list4 hl
    obtain ⟨t0, ht0, g0⟩ := hf (0, 3) (by simp)
    obtain rfl := Option.some.inj ht0
    obtain ⟨x0, e0, w0⟩ := sh3 (show shaped cod T n 3 [a0] from g0)
    simp only [List.cons.injEq, and_true] at e0
    obtain ⟨t1, ht1, g1⟩ := hf (1, 22) (by simp)
    obtain rfl := Option.some.inj ht1
    obtain ⟨x1, e1, w1⟩ := sh22 (show shaped cod T n 22 [a1] from g1)
    simp only [List.cons.injEq, and_true] at e1
    obtain ⟨t2, ht2, g2⟩ := hf (2, 9) (by simp)
    obtain rfl := Option.some.inj ht2
    obtain ⟨x2, e2, w2⟩ := sh9 (show shaped cod T n 9 [a2] from g2)
    simp only [List.cons.injEq, and_true] at e2
    obtain ⟨t3, ht3, g3⟩ := hf (3, 23) (by simp)
    obtain rfl := Option.some.inj ht3
    obtain ⟨x3, e3, w3⟩ := sh23 (show shaped cod T n 23 [a3] from g3)
    simp only [List.cons.injEq, and_true] at e3
    obtain rfl := e0
    obtain rfl := e1
    obtain rfl := e2
    obtain rfl := e3
    exact ⟨⟨x0, x1, x2, x3⟩, rfl, w0, w1, w2, w3⟩
theorem sh40 {n : Nat} {avs : List V} (h : shaped cod T n 40 avs) : ∃ x : DPart, avs = [.lit (.string x.Text), .lit (.bool x.Last)] ∧ wfDPart x := by
  cases n with
  | zero => exact h.elim
  | succ n =>
    obtain ⟨hl, hf⟩ := (h : avs.length = 2 ∧ ∀ f ∈ ([(0, 9), (1, 4)] : List (Nat × TypeId)), ∃ tf, T f.2 = some tf ∧ shaped cod T n f.2 ((avs.drop f.1).take tf.size))
    obtain ⟨a0, a1, rfl⟩ := list2 hl
    obtain ⟨t0, ht0, g0⟩ := hf (0, 9) (by simp)
    obtain rfl := Option.some.inj ht0
    obtain ⟨x0, e0, w0⟩ := sh9 (show shaped cod T n 9 [a0] from g0)
    simp only [List.cons.injEq, and_true] at e0
    obtain ⟨t1, ht1, g1⟩ := hf (1, 4) (by simp)
    obtain rfl := Option.some.inj ht1
    obtain ⟨x1, e1, w1⟩ := sh4 (show shaped cod T n 4 [a1] from g1)
    simp only [List.cons.injEq, and_true] at e1
    obtain rfl := e0
    obtain rfl := e1
    exact ⟨⟨x0, x1⟩, rfl, w0, w1⟩
theorem sh97 {n : Nat} {avs : List V} (h : shaped cod T n 97 avs) : ∃ x : DHeld, avs = [.lit (.int .i64 x.Seq), .lit (.string x.Part.Text), .lit (.bool x.Part.Last)] ∧ wfDHeld x := by
  cases n with
  | zero => exact h.elim
  | succ n =>
    obtain ⟨hl, hf⟩ := (h : avs.length = 3 ∧ ∀ f ∈ ([(0, 3), (1, 40)] : List (Nat × TypeId)), ∃ tf, T f.2 = some tf ∧ shaped cod T n f.2 ((avs.drop f.1).take tf.size))
    obtain ⟨a0, a1, a2, rfl⟩ := list3 hl
    obtain ⟨t0, ht0, g0⟩ := hf (0, 3) (by simp)
    obtain rfl := Option.some.inj ht0
    obtain ⟨x0, e0, w0⟩ := sh3 (show shaped cod T n 3 [a0] from g0)
    simp only [List.cons.injEq, and_true] at e0
    obtain ⟨t1, ht1, g1⟩ := hf (1, 40) (by simp)
    obtain rfl := Option.some.inj ht1
    obtain ⟨x1, e1, w1⟩ := sh40 (show shaped cod T n 40 [a1, a2] from g1)
    simp only [List.cons.injEq, and_true] at e1
    obtain rfl := e0
    obtain ⟨rfl, rfl⟩ := e1
    exact ⟨⟨x0, x1⟩, rfl, w0, w1⟩
theorem sh27 {n : Nat} {avs : List V} (h : shaped cod T n 27 avs) : ∃ x : List DHeld, avs = [.inl false .held x] ∧ (x.length ≤ maxLen ∧ ∀ y ∈ x, wf_held y) := by
  cases n with
  | zero => exact h.elim
  | succ n =>
    obtain ⟨xs, h1, h2, h3⟩ := (h : ∃ xs : List (TyK .held), avs = [.inl false .held xs] ∧ xs.length ≤ maxLen ∧ ∀ x ∈ xs, shaped cod T n 97 (kenc .held x))
    refine ⟨xs, h1, h2, fun y hy => ?_⟩
    obtain ⟨z, hz, hw⟩ := sh97 (h3 y hy)
    have hz : ([.lit (.int .i64 y.Seq), .lit (.string y.Part.Text), .lit (.bool y.Part.Last)] : List V) = [.lit (.int .i64 z.Seq), .lit (.string z.Part.Text), .lit (.bool z.Part.Last)] := hz
    have : y = z := by
      simp only [List.cons.injEq, AV.lit.injEq, AV.inl.injEq, Value.int.injEq, Value.string.injEq, Value.bool.injEq, true_and, and_true, heq_eq_eq] at hz
      exact eq_DHeld y z hz
    subst this
    exact hw
theorem sh29 {n : Nat} {avs : List V} (h : shaped cod T n 29 avs) : ∃ x : DTake, avs = [.lit (.int .i64 x.Next), .inl false .held x.Held, .lit (.string x.Open), .inl false .str x.Ready] ∧ wfDTake x := by
  cases n with
  | zero => exact h.elim
  | succ n =>
    obtain ⟨hl, hf⟩ := (h : avs.length = 4 ∧ ∀ f ∈ ([(0, 3), (1, 27), (2, 9), (3, 23)] : List (Nat × TypeId)), ∃ tf, T f.2 = some tf ∧ shaped cod T n f.2 ((avs.drop f.1).take tf.size))
    obtain ⟨a0, a1, a2, a3, rfl⟩ := list4 hl
    obtain ⟨t0, ht0, g0⟩ := hf (0, 3) (by simp)
    obtain rfl := Option.some.inj ht0
    obtain ⟨x0, e0, w0⟩ := sh3 (show shaped cod T n 3 [a0] from g0)
    simp only [List.cons.injEq, and_true] at e0
    obtain ⟨t1, ht1, g1⟩ := hf (1, 27) (by simp)
    obtain rfl := Option.some.inj ht1
    obtain ⟨x1, e1, w1⟩ := sh27 (show shaped cod T n 27 [a1] from g1)
    simp only [List.cons.injEq, and_true] at e1
    obtain ⟨t2, ht2, g2⟩ := hf (2, 9) (by simp)
    obtain rfl := Option.some.inj ht2
    obtain ⟨x2, e2, w2⟩ := sh9 (show shaped cod T n 9 [a2] from g2)
    simp only [List.cons.injEq, and_true] at e2
    obtain ⟨t3, ht3, g3⟩ := hf (3, 23) (by simp)
    obtain rfl := Option.some.inj ht3
    obtain ⟨x3, e3, w3⟩ := sh23 (show shaped cod T n 23 [a3] from g3)
    simp only [List.cons.injEq, and_true] at e3
    obtain rfl := e0
    obtain rfl := e1
    obtain rfl := e2
    obtain rfl := e3
    exact ⟨⟨x0, x1, x2, x3⟩, rfl, w0, w1, w2, w3⟩
theorem sh169 {n : Nat} {avs : List V} (h : shaped cod T n 169 avs) : ∃ x : DItem, avs = [.lit (.string x.Part.Text), .lit (.bool x.Part.Last), .lit (.bool x.Has), .lit (.int .i64 x.Since)] ∧ wfDItem x := by
  cases n with
  | zero => exact h.elim
  | succ n =>
    obtain ⟨hl, hf⟩ := (h : avs.length = 4 ∧ ∀ f ∈ ([(0, 37), (2, 4), (3, 3)] : List (Nat × TypeId)), ∃ tf, T f.2 = some tf ∧ shaped cod T n f.2 ((avs.drop f.1).take tf.size))
    obtain ⟨a0, a1, a2, a3, rfl⟩ := list4 hl
    obtain ⟨t0, ht0, g0⟩ := hf (0, 37) (by simp)
    obtain rfl := Option.some.inj ht0
    obtain ⟨x0, e0, w0⟩ := sh37 (show shaped cod T n 37 [a0, a1] from g0)
    simp only [List.cons.injEq, and_true] at e0
    obtain ⟨t1, ht1, g1⟩ := hf (2, 4) (by simp)
    obtain rfl := Option.some.inj ht1
    obtain ⟨x1, e1, w1⟩ := sh4 (show shaped cod T n 4 [a2] from g1)
    simp only [List.cons.injEq, and_true] at e1
    obtain ⟨t2, ht2, g2⟩ := hf (3, 3) (by simp)
    obtain rfl := Option.some.inj ht2
    obtain ⟨x2, e2, w2⟩ := sh3 (show shaped cod T n 3 [a3] from g2)
    simp only [List.cons.injEq, and_true] at e2
    obtain ⟨rfl, rfl⟩ := e0
    obtain rfl := e1
    obtain rfl := e2
    exact ⟨⟨x0, x1, x2⟩, rfl, w0, w1, w2⟩
theorem sh43 {n : Nat} {avs : List V} (h : shaped cod T n 43 avs) : ∃ x : List DItem, avs = [.inl false .item x] ∧ (x.length ≤ maxLen ∧ ∀ y ∈ x, wf_item y) := by
  cases n with
  | zero => exact h.elim
  | succ n =>
    obtain ⟨xs, h1, h2, h3⟩ := (h : ∃ xs : List (TyK .item), avs = [.inl false .item xs] ∧ xs.length ≤ maxLen ∧ ∀ x ∈ xs, shaped cod T n 169 (kenc .item x))
    refine ⟨xs, h1, h2, fun y hy => ?_⟩
    obtain ⟨z, hz, hw⟩ := sh169 (h3 y hy)
    have hz : ([.lit (.string y.Part.Text), .lit (.bool y.Part.Last), .lit (.bool y.Has), .lit (.int .i64 y.Since)] : List V) = [.lit (.string z.Part.Text), .lit (.bool z.Part.Last), .lit (.bool z.Has), .lit (.int .i64 z.Since)] := hz
    have : y = z := by
      simp only [List.cons.injEq, AV.lit.injEq, AV.inl.injEq, Value.int.injEq, Value.string.injEq, Value.bool.injEq, true_and, and_true, heq_eq_eq] at hz
      exact eq_DItem y z hz
    subst this
    exact hw
theorem sh45 {n : Nat} {avs : List V} (h : shaped cod T n 45 avs) : ∃ x : DSend, avs = [.lit (.int .i64 x.Base), .inl false .item x.Items] ∧ wfDSend x := by
  cases n with
  | zero => exact h.elim
  | succ n =>
    obtain ⟨hl, hf⟩ := (h : avs.length = 2 ∧ ∀ f ∈ ([(0, 3), (1, 43)] : List (Nat × TypeId)), ∃ tf, T f.2 = some tf ∧ shaped cod T n f.2 ((avs.drop f.1).take tf.size))
    obtain ⟨a0, a1, rfl⟩ := list2 hl
    obtain ⟨t0, ht0, g0⟩ := hf (0, 3) (by simp)
    obtain rfl := Option.some.inj ht0
    obtain ⟨x0, e0, w0⟩ := sh3 (show shaped cod T n 3 [a0] from g0)
    simp only [List.cons.injEq, and_true] at e0
    obtain ⟨t1, ht1, g1⟩ := hf (1, 43) (by simp)
    obtain rfl := Option.some.inj ht1
    obtain ⟨x1, e1, w1⟩ := sh43 (show shaped cod T n 43 [a1] from g1)
    simp only [List.cons.injEq, and_true] at e1
    obtain rfl := e0
    obtain rfl := e1
    exact ⟨⟨x0, x1⟩, rfl, w0, w1⟩
theorem sh47 {n : Nat} {avs : List V} (h : shaped cod T n 47 avs) : ∃ x : DEnd, avs = [.lit (.int .i64 x.Number), .lit (.bool x.Up), .lit (.int .i64 x.Life), .lit (.int .i64 x.Peer), .lit (.int .i64 x.Since), .lit (.bool x.Owes), .lit (.int .i64 x.Send.Base), .inl false .item x.Send.Items, .lit (.int .i64 x.Take.Next), .inl false .held x.Take.Held, .lit (.string x.Take.Open), .inl false .str x.Take.Ready] ∧ wfDEnd x := by
  cases n with
  | zero => exact h.elim
  | succ n =>
    obtain ⟨hl, hf⟩ := (h : avs.length = 12 ∧ ∀ f ∈ ([(0, 3), (1, 4), (2, 3), (3, 3), (4, 3), (5, 4), (6, 45), (8, 25)] : List (Nat × TypeId)), ∃ tf, T f.2 = some tf ∧ shaped cod T n f.2 ((avs.drop f.1).take tf.size))
    obtain ⟨a0, a1, a2, a3, a4, a5, a6, a7, a8, a9, a10, a11, rfl⟩ := list12 hl
    obtain ⟨t0, ht0, g0⟩ := hf (0, 3) (by simp)
    obtain rfl := Option.some.inj ht0
    obtain ⟨x0, e0, w0⟩ := sh3 (show shaped cod T n 3 [a0] from g0)
    simp only [List.cons.injEq, and_true] at e0
    obtain ⟨t1, ht1, g1⟩ := hf (1, 4) (by simp)
    obtain rfl := Option.some.inj ht1
    obtain ⟨x1, e1, w1⟩ := sh4 (show shaped cod T n 4 [a1] from g1)
    simp only [List.cons.injEq, and_true] at e1
    obtain ⟨t2, ht2, g2⟩ := hf (2, 3) (by simp)
    obtain rfl := Option.some.inj ht2
    obtain ⟨x2, e2, w2⟩ := sh3 (show shaped cod T n 3 [a2] from g2)
    simp only [List.cons.injEq, and_true] at e2
    obtain ⟨t3, ht3, g3⟩ := hf (3, 3) (by simp)
    obtain rfl := Option.some.inj ht3
    obtain ⟨x3, e3, w3⟩ := sh3 (show shaped cod T n 3 [a3] from g3)
    simp only [List.cons.injEq, and_true] at e3
    obtain ⟨t4, ht4, g4⟩ := hf (4, 3) (by simp)
    obtain rfl := Option.some.inj ht4
    obtain ⟨x4, e4, w4⟩ := sh3 (show shaped cod T n 3 [a4] from g4)
    simp only [List.cons.injEq, and_true] at e4
    obtain ⟨t5, ht5, g5⟩ := hf (5, 4) (by simp)
    obtain rfl := Option.some.inj ht5
    obtain ⟨x5, e5, w5⟩ := sh4 (show shaped cod T n 4 [a5] from g5)
    simp only [List.cons.injEq, and_true] at e5
    obtain ⟨t6, ht6, g6⟩ := hf (6, 45) (by simp)
    obtain rfl := Option.some.inj ht6
    obtain ⟨x6, e6, w6⟩ := sh45 (show shaped cod T n 45 [a6, a7] from g6)
    simp only [List.cons.injEq, and_true] at e6
    obtain ⟨t7, ht7, g7⟩ := hf (8, 25) (by simp)
    obtain rfl := Option.some.inj ht7
    obtain ⟨x7, e7, w7⟩ := sh25 (show shaped cod T n 25 [a8, a9, a10, a11] from g7)
    simp only [List.cons.injEq, and_true] at e7
    obtain rfl := e0
    obtain rfl := e1
    obtain rfl := e2
    obtain rfl := e3
    obtain rfl := e4
    obtain rfl := e5
    obtain ⟨rfl, rfl⟩ := e6
    obtain ⟨rfl, rfl, rfl, rfl⟩ := e7
    exact ⟨⟨x0, x1, x2, x3, x4, x5, x6, x7⟩, rfl, w0, w1, w2, w3, w4, w5, w6, w7⟩
theorem sh135 {n : Nat} {avs : List V} (h : shaped cod T n 135 avs) : ∃ x : DItem, avs = [.lit (.string x.Part.Text), .lit (.bool x.Part.Last), .lit (.bool x.Has), .lit (.int .i64 x.Since)] ∧ wfDItem x := by
  cases n with
  | zero => exact h.elim
  | succ n =>
    obtain ⟨hl, hf⟩ := (h : avs.length = 4 ∧ ∀ f ∈ ([(0, 40), (2, 4), (3, 3)] : List (Nat × TypeId)), ∃ tf, T f.2 = some tf ∧ shaped cod T n f.2 ((avs.drop f.1).take tf.size))
    obtain ⟨a0, a1, a2, a3, rfl⟩ := list4 hl
    obtain ⟨t0, ht0, g0⟩ := hf (0, 40) (by simp)
    obtain rfl := Option.some.inj ht0
    obtain ⟨x0, e0, w0⟩ := sh40 (show shaped cod T n 40 [a0, a1] from g0)
    simp only [List.cons.injEq, and_true] at e0
    obtain ⟨t1, ht1, g1⟩ := hf (2, 4) (by simp)
    obtain rfl := Option.some.inj ht1
    obtain ⟨x1, e1, w1⟩ := sh4 (show shaped cod T n 4 [a2] from g1)
    simp only [List.cons.injEq, and_true] at e1
    obtain ⟨t2, ht2, g2⟩ := hf (3, 3) (by simp)
    obtain rfl := Option.some.inj ht2
    obtain ⟨x2, e2, w2⟩ := sh3 (show shaped cod T n 3 [a3] from g2)
    simp only [List.cons.injEq, and_true] at e2
    obtain ⟨rfl, rfl⟩ := e0
    obtain rfl := e1
    obtain rfl := e2
    exact ⟨⟨x0, x1, x2⟩, rfl, w0, w1, w2⟩
theorem sh50 {n : Nat} {avs : List V} (h : shaped cod T n 50 avs) : ∃ x : List DItem, avs = [.inl false .item x] ∧ (x.length ≤ maxLen ∧ ∀ y ∈ x, wf_item y) := by
  cases n with
  | zero => exact h.elim
  | succ n =>
    obtain ⟨xs, h1, h2, h3⟩ := (h : ∃ xs : List (TyK .item), avs = [.inl false .item xs] ∧ xs.length ≤ maxLen ∧ ∀ x ∈ xs, shaped cod T n 135 (kenc .item x))
    refine ⟨xs, h1, h2, fun y hy => ?_⟩
    obtain ⟨z, hz, hw⟩ := sh135 (h3 y hy)
    have hz : ([.lit (.string y.Part.Text), .lit (.bool y.Part.Last), .lit (.bool y.Has), .lit (.int .i64 y.Since)] : List V) = [.lit (.string z.Part.Text), .lit (.bool z.Part.Last), .lit (.bool z.Has), .lit (.int .i64 z.Since)] := hz
    have : y = z := by
      simp only [List.cons.injEq, AV.lit.injEq, AV.inl.injEq, Value.int.injEq, Value.string.injEq, Value.bool.injEq, true_and, and_true, heq_eq_eq] at hz
      exact eq_DItem y z hz
    subst this
    exact hw
theorem sh52 {n : Nat} {avs : List V} (h : shaped cod T n 52 avs) : ∃ x : DSend, avs = [.lit (.int .i64 x.Base), .inl false .item x.Items] ∧ wfDSend x := by
  cases n with
  | zero => exact h.elim
  | succ n =>
    obtain ⟨hl, hf⟩ := (h : avs.length = 2 ∧ ∀ f ∈ ([(0, 3), (1, 50)] : List (Nat × TypeId)), ∃ tf, T f.2 = some tf ∧ shaped cod T n f.2 ((avs.drop f.1).take tf.size))
    obtain ⟨a0, a1, rfl⟩ := list2 hl
    obtain ⟨t0, ht0, g0⟩ := hf (0, 3) (by simp)
    obtain rfl := Option.some.inj ht0
    obtain ⟨x0, e0, w0⟩ := sh3 (show shaped cod T n 3 [a0] from g0)
    simp only [List.cons.injEq, and_true] at e0
    obtain ⟨t1, ht1, g1⟩ := hf (1, 50) (by simp)
    obtain rfl := Option.some.inj ht1
    obtain ⟨x1, e1, w1⟩ := sh50 (show shaped cod T n 50 [a1] from g1)
    simp only [List.cons.injEq, and_true] at e1
    obtain rfl := e0
    obtain rfl := e1
    exact ⟨⟨x0, x1⟩, rfl, w0, w1⟩
theorem sh54 {n : Nat} {avs : List V} (h : shaped cod T n 54 avs) : ∃ x : DEnd, avs = [.lit (.int .i64 x.Number), .lit (.bool x.Up), .lit (.int .i64 x.Life), .lit (.int .i64 x.Peer), .lit (.int .i64 x.Since), .lit (.bool x.Owes), .lit (.int .i64 x.Send.Base), .inl false .item x.Send.Items, .lit (.int .i64 x.Take.Next), .inl false .held x.Take.Held, .lit (.string x.Take.Open), .inl false .str x.Take.Ready] ∧ wfDEnd x := by
  cases n with
  | zero => exact h.elim
  | succ n =>
    obtain ⟨hl, hf⟩ := (h : avs.length = 12 ∧ ∀ f ∈ ([(0, 3), (1, 4), (2, 3), (3, 3), (4, 3), (5, 4), (6, 52), (8, 29)] : List (Nat × TypeId)), ∃ tf, T f.2 = some tf ∧ shaped cod T n f.2 ((avs.drop f.1).take tf.size))
    obtain ⟨a0, a1, a2, a3, a4, a5, a6, a7, a8, a9, a10, a11, rfl⟩ := list12 hl
    obtain ⟨t0, ht0, g0⟩ := hf (0, 3) (by simp)
    obtain rfl := Option.some.inj ht0
    obtain ⟨x0, e0, w0⟩ := sh3 (show shaped cod T n 3 [a0] from g0)
    simp only [List.cons.injEq, and_true] at e0
    obtain ⟨t1, ht1, g1⟩ := hf (1, 4) (by simp)
    obtain rfl := Option.some.inj ht1
    obtain ⟨x1, e1, w1⟩ := sh4 (show shaped cod T n 4 [a1] from g1)
    simp only [List.cons.injEq, and_true] at e1
    obtain ⟨t2, ht2, g2⟩ := hf (2, 3) (by simp)
    obtain rfl := Option.some.inj ht2
    obtain ⟨x2, e2, w2⟩ := sh3 (show shaped cod T n 3 [a2] from g2)
    simp only [List.cons.injEq, and_true] at e2
    obtain ⟨t3, ht3, g3⟩ := hf (3, 3) (by simp)
    obtain rfl := Option.some.inj ht3
    obtain ⟨x3, e3, w3⟩ := sh3 (show shaped cod T n 3 [a3] from g3)
    simp only [List.cons.injEq, and_true] at e3
    obtain ⟨t4, ht4, g4⟩ := hf (4, 3) (by simp)
    obtain rfl := Option.some.inj ht4
    obtain ⟨x4, e4, w4⟩ := sh3 (show shaped cod T n 3 [a4] from g4)
    simp only [List.cons.injEq, and_true] at e4
    obtain ⟨t5, ht5, g5⟩ := hf (5, 4) (by simp)
    obtain rfl := Option.some.inj ht5
    obtain ⟨x5, e5, w5⟩ := sh4 (show shaped cod T n 4 [a5] from g5)
    simp only [List.cons.injEq, and_true] at e5
    obtain ⟨t6, ht6, g6⟩ := hf (6, 52) (by simp)
    obtain rfl := Option.some.inj ht6
    obtain ⟨x6, e6, w6⟩ := sh52 (show shaped cod T n 52 [a6, a7] from g6)
    simp only [List.cons.injEq, and_true] at e6
    obtain ⟨t7, ht7, g7⟩ := hf (8, 29) (by simp)
    obtain rfl := Option.some.inj ht7
    obtain ⟨x7, e7, w7⟩ := sh29 (show shaped cod T n 29 [a8, a9, a10, a11] from g7)
    simp only [List.cons.injEq, and_true] at e7
    obtain rfl := e0
    obtain rfl := e1
    obtain rfl := e2
    obtain rfl := e3
    obtain rfl := e4
    obtain rfl := e5
    obtain ⟨rfl, rfl⟩ := e6
    obtain ⟨rfl, rfl, rfl, rfl⟩ := e7
    exact ⟨⟨x0, x1, x2, x3, x4, x5, x6, x7⟩, rfl, w0, w1, w2, w3, w4, w5, w6, w7⟩
theorem sh115 {n : Nat} {avs : List V} (h : shaped cod T n 115 avs) : ∃ x : DParcel, avs = [.lit (.int .i64 x.To), .lit (.string x.Sent), .lit (.string x.Bytes)] ∧ wfDParcel x := by
  cases n with
  | zero => exact h.elim
  | succ n =>
    obtain ⟨hl, hf⟩ := (h : avs.length = 3 ∧ ∀ f ∈ ([(0, 3), (1, 9), (2, 9)] : List (Nat × TypeId)), ∃ tf, T f.2 = some tf ∧ shaped cod T n f.2 ((avs.drop f.1).take tf.size))
    obtain ⟨a0, a1, a2, rfl⟩ := list3 hl
    obtain ⟨t0, ht0, g0⟩ := hf (0, 3) (by simp)
    obtain rfl := Option.some.inj ht0
    obtain ⟨x0, e0, w0⟩ := sh3 (show shaped cod T n 3 [a0] from g0)
    simp only [List.cons.injEq, and_true] at e0
    obtain ⟨t1, ht1, g1⟩ := hf (1, 9) (by simp)
    obtain rfl := Option.some.inj ht1
    obtain ⟨x1, e1, w1⟩ := sh9 (show shaped cod T n 9 [a1] from g1)
    simp only [List.cons.injEq, and_true] at e1
    obtain ⟨t2, ht2, g2⟩ := hf (2, 9) (by simp)
    obtain rfl := Option.some.inj ht2
    obtain ⟨x2, e2, w2⟩ := sh9 (show shaped cod T n 9 [a2] from g2)
    simp only [List.cons.injEq, and_true] at e2
    obtain rfl := e0
    obtain rfl := e1
    obtain rfl := e2
    exact ⟨⟨x0, x1, x2⟩, rfl, w0, w1, w2⟩
theorem sh122 {n : Nat} {avs : List V} (h : shaped cod T n 122 avs) : ∃ x : DRecord, avs = [.lit (.int .i64 x.From), .lit (.int .i64 x.A), .lit (.int .i64 x.B), .lit (.string x.Text)] ∧ wfDRecord x := by
  cases n with
  | zero => exact h.elim
  | succ n =>
    obtain ⟨hl, hf⟩ := (h : avs.length = 4 ∧ ∀ f ∈ ([(0, 3), (1, 3), (2, 3), (3, 9)] : List (Nat × TypeId)), ∃ tf, T f.2 = some tf ∧ shaped cod T n f.2 ((avs.drop f.1).take tf.size))
    obtain ⟨a0, a1, a2, a3, rfl⟩ := list4 hl
    obtain ⟨t0, ht0, g0⟩ := hf (0, 3) (by simp)
    obtain rfl := Option.some.inj ht0
    obtain ⟨x0, e0, w0⟩ := sh3 (show shaped cod T n 3 [a0] from g0)
    simp only [List.cons.injEq, and_true] at e0
    obtain ⟨t1, ht1, g1⟩ := hf (1, 3) (by simp)
    obtain rfl := Option.some.inj ht1
    obtain ⟨x1, e1, w1⟩ := sh3 (show shaped cod T n 3 [a1] from g1)
    simp only [List.cons.injEq, and_true] at e1
    obtain ⟨t2, ht2, g2⟩ := hf (2, 3) (by simp)
    obtain rfl := Option.some.inj ht2
    obtain ⟨x2, e2, w2⟩ := sh3 (show shaped cod T n 3 [a2] from g2)
    simp only [List.cons.injEq, and_true] at e2
    obtain ⟨t3, ht3, g3⟩ := hf (3, 9) (by simp)
    obtain rfl := Option.some.inj ht3
    obtain ⟨x3, e3, w3⟩ := sh9 (show shaped cod T n 9 [a3] from g3)
    simp only [List.cons.injEq, and_true] at e3
    obtain rfl := e0
    obtain rfl := e1
    obtain rfl := e2
    obtain rfl := e3
    exact ⟨⟨x0, x1, x2, x3⟩, rfl, w0, w1, w2, w3⟩
theorem sh156 {n : Nat} {avs : List V} (h : shaped cod T n 156 avs) : ∃ x : DParcel, avs = [.lit (.int .i64 x.To), .lit (.string x.Sent), .lit (.string x.Bytes)] ∧ wfDParcel x := by
  cases n with
  | zero => exact h.elim
  | succ n =>
    obtain ⟨hl, hf⟩ := (h : avs.length = 3 ∧ ∀ f ∈ ([(0, 3), (1, 9), (2, 9)] : List (Nat × TypeId)), ∃ tf, T f.2 = some tf ∧ shaped cod T n f.2 ((avs.drop f.1).take tf.size))
    obtain ⟨a0, a1, a2, rfl⟩ := list3 hl
    obtain ⟨t0, ht0, g0⟩ := hf (0, 3) (by simp)
    obtain rfl := Option.some.inj ht0
    obtain ⟨x0, e0, w0⟩ := sh3 (show shaped cod T n 3 [a0] from g0)
    simp only [List.cons.injEq, and_true] at e0
    obtain ⟨t1, ht1, g1⟩ := hf (1, 9) (by simp)
    obtain rfl := Option.some.inj ht1
    obtain ⟨x1, e1, w1⟩ := sh9 (show shaped cod T n 9 [a1] from g1)
    simp only [List.cons.injEq, and_true] at e1
    obtain ⟨t2, ht2, g2⟩ := hf (2, 9) (by simp)
    obtain rfl := Option.some.inj ht2
    obtain ⟨x2, e2, w2⟩ := sh9 (show shaped cod T n 9 [a2] from g2)
    simp only [List.cons.injEq, and_true] at e2
    obtain rfl := e0
    obtain rfl := e1
    obtain rfl := e2
    exact ⟨⟨x0, x1, x2⟩, rfl, w0, w1, w2⟩
theorem sh158 {n : Nat} {avs : List V} (h : shaped cod T n 158 avs) : ∃ x : DRecord, avs = [.lit (.int .i64 x.From), .lit (.int .i64 x.A), .lit (.int .i64 x.B), .lit (.string x.Text)] ∧ wfDRecord x := by
  cases n with
  | zero => exact h.elim
  | succ n =>
    obtain ⟨hl, hf⟩ := (h : avs.length = 4 ∧ ∀ f ∈ ([(0, 3), (1, 3), (2, 3), (3, 9)] : List (Nat × TypeId)), ∃ tf, T f.2 = some tf ∧ shaped cod T n f.2 ((avs.drop f.1).take tf.size))
    obtain ⟨a0, a1, a2, a3, rfl⟩ := list4 hl
    obtain ⟨t0, ht0, g0⟩ := hf (0, 3) (by simp)
    obtain rfl := Option.some.inj ht0
    obtain ⟨x0, e0, w0⟩ := sh3 (show shaped cod T n 3 [a0] from g0)
    simp only [List.cons.injEq, and_true] at e0
    obtain ⟨t1, ht1, g1⟩ := hf (1, 3) (by simp)
    obtain rfl := Option.some.inj ht1
    obtain ⟨x1, e1, w1⟩ := sh3 (show shaped cod T n 3 [a1] from g1)
    simp only [List.cons.injEq, and_true] at e1
    obtain ⟨t2, ht2, g2⟩ := hf (2, 3) (by simp)
    obtain rfl := Option.some.inj ht2
    obtain ⟨x2, e2, w2⟩ := sh3 (show shaped cod T n 3 [a2] from g2)
    simp only [List.cons.injEq, and_true] at e2
    obtain ⟨t3, ht3, g3⟩ := hf (3, 9) (by simp)
    obtain rfl := Option.some.inj ht3
    obtain ⟨x3, e3, w3⟩ := sh9 (show shaped cod T n 9 [a3] from g3)
    simp only [List.cons.injEq, and_true] at e3
    obtain rfl := e0
    obtain rfl := e1
    obtain rfl := e2
    obtain rfl := e3
    exact ⟨⟨x0, x1, x2, x3⟩, rfl, w0, w1, w2, w3⟩
theorem sh137 {n : Nat} {avs : List V} (h : shaped cod T n 137 avs) : ∃ x : DPacket, avs = [.lit (.int .i64 x.Kind), .lit (.int .i64 x.From), .lit (.int .i64 x.Mine), .lit (.int .i64 x.Yours), .lit (.int .i64 x.Next), .lit (.int .i64 x.Mask), .lit (.int .i64 x.Seq), .lit (.bool x.Last), .lit (.string x.Part)] ∧ wfDPacket x := by
  cases n with
  | zero => exact h.elim
  | succ n =>
    obtain ⟨hl, hf⟩ := (h : avs.length = 9 ∧ ∀ f ∈ ([(0, 3), (1, 3), (2, 3), (3, 3), (4, 3), (5, 3), (6, 3), (7, 4), (8, 9)] : List (Nat × TypeId)), ∃ tf, T f.2 = some tf ∧ shaped cod T n f.2 ((avs.drop f.1).take tf.size))
    obtain ⟨a0, a1, a2, a3, a4, a5, a6, a7, a8, rfl⟩ := list9 hl
    obtain ⟨t0, ht0, g0⟩ := hf (0, 3) (by simp)
    obtain rfl := Option.some.inj ht0
    obtain ⟨x0, e0, w0⟩ := sh3 (show shaped cod T n 3 [a0] from g0)
    simp only [List.cons.injEq, and_true] at e0
    obtain ⟨t1, ht1, g1⟩ := hf (1, 3) (by simp)
    obtain rfl := Option.some.inj ht1
    obtain ⟨x1, e1, w1⟩ := sh3 (show shaped cod T n 3 [a1] from g1)
    simp only [List.cons.injEq, and_true] at e1
    obtain ⟨t2, ht2, g2⟩ := hf (2, 3) (by simp)
    obtain rfl := Option.some.inj ht2
    obtain ⟨x2, e2, w2⟩ := sh3 (show shaped cod T n 3 [a2] from g2)
    simp only [List.cons.injEq, and_true] at e2
    obtain ⟨t3, ht3, g3⟩ := hf (3, 3) (by simp)
    obtain rfl := Option.some.inj ht3
    obtain ⟨x3, e3, w3⟩ := sh3 (show shaped cod T n 3 [a3] from g3)
    simp only [List.cons.injEq, and_true] at e3
    obtain ⟨t4, ht4, g4⟩ := hf (4, 3) (by simp)
    obtain rfl := Option.some.inj ht4
    obtain ⟨x4, e4, w4⟩ := sh3 (show shaped cod T n 3 [a4] from g4)
    simp only [List.cons.injEq, and_true] at e4
    obtain ⟨t5, ht5, g5⟩ := hf (5, 3) (by simp)
    obtain rfl := Option.some.inj ht5
    obtain ⟨x5, e5, w5⟩ := sh3 (show shaped cod T n 3 [a5] from g5)
    simp only [List.cons.injEq, and_true] at e5
    obtain ⟨t6, ht6, g6⟩ := hf (6, 3) (by simp)
    obtain rfl := Option.some.inj ht6
    obtain ⟨x6, e6, w6⟩ := sh3 (show shaped cod T n 3 [a6] from g6)
    simp only [List.cons.injEq, and_true] at e6
    obtain ⟨t7, ht7, g7⟩ := hf (7, 4) (by simp)
    obtain rfl := Option.some.inj ht7
    obtain ⟨x7, e7, w7⟩ := sh4 (show shaped cod T n 4 [a7] from g7)
    simp only [List.cons.injEq, and_true] at e7
    obtain ⟨t8, ht8, g8⟩ := hf (8, 9) (by simp)
    obtain rfl := Option.some.inj ht8
    obtain ⟨x8, e8, w8⟩ := sh9 (show shaped cod T n 9 [a8] from g8)
    simp only [List.cons.injEq, and_true] at e8
    obtain rfl := e0
    obtain rfl := e1
    obtain rfl := e2
    obtain rfl := e3
    obtain rfl := e4
    obtain rfl := e5
    obtain rfl := e6
    obtain rfl := e7
    obtain rfl := e8
    exact ⟨⟨x0, x1, x2, x3, x4, x5, x6, x7, x8⟩, rfl, w0, w1, w2, w3, w4, w5, w6, w7, w8⟩
def rowFull (e : Nat × TI K TyK) : Prop := ∀ e2 s n avs, e.2.shp = .slice e2 s → cod.bor s = false → shaped cod T n e2 avs → ∃ x, cod.enc s x = avs
theorem rowsFull : ∀ e ∈ tbl, rowFull e :=
  all_cons (fun e s n avs h hb => by cases h) (
  all_cons (fun e s n avs h hb => by cases h) (
  all_cons (fun e s n avs h hb => by cases h) (
  all_cons (fun e s n avs h hb => by cases h) (
  all_cons (fun e s n avs h hb => by cases h) (
  all_cons (fun e s n avs h hb => by cases h) (
  all_cons (fun e s n avs h hb => by cases h) (
  all_cons (fun e s n avs h hb hs => by cases h; obtain ⟨x, hx, _⟩ := sh143 hs; exact ⟨x, hx.symm⟩) (
  all_cons (fun e s n avs h hb hs => by cases h; obtain ⟨x, hx, _⟩ := sh9 hs; exact ⟨x, hx.symm⟩) (
  all_cons (fun e s n avs h hb => by cases h) (
  all_cons (fun e s n avs h hb hs => by cases h; obtain ⟨x, hx, _⟩ := sh97 hs; exact ⟨x, hx.symm⟩) (
  all_cons (fun e s n avs h hb => by cases h) (
  all_cons (fun e s n avs h hb => by cases h) (
  all_cons (fun e s n avs h hb => by cases h) (
  all_cons (fun e s n avs h hb hs => by cases h; obtain ⟨x, hx, _⟩ := sh169 hs; exact ⟨x, hx.symm⟩) (
  all_cons (fun e s n avs h hb => by cases h) (
  all_cons (fun e s n avs h hb => by cases h) (
  all_cons (fun e s n avs h hb hs => by cases h; obtain ⟨x, hx, _⟩ := sh135 hs; exact ⟨x, hx.symm⟩) (
  all_cons (fun e s n avs h hb => by cases h) (
  all_cons (fun e s n avs h hb => by cases h) (
  all_cons (fun e s n avs h hb hs => by cases h; obtain ⟨x, hx, _⟩ := sh54 hs; exact ⟨x, hx.symm⟩) (
  all_cons (fun e s n avs h hb hs => by cases h; obtain ⟨x, hx, _⟩ := sh115 hs; exact ⟨x, hx.symm⟩) (
  all_cons (fun e s n avs h hb hs => by cases h; obtain ⟨x, hx, _⟩ := sh122 hs; exact ⟨x, hx.symm⟩) (
  all_cons (fun e s n avs h hb => by cases h) (
  all_cons (fun e s n avs h hb hs => by cases h; obtain ⟨x, hx, _⟩ := sh47 hs; exact ⟨x, hx.symm⟩) (
  all_cons (fun e s n avs h hb hs => by cases h; obtain ⟨x, hx, _⟩ := sh156 hs; exact ⟨x, hx.symm⟩) (
  all_cons (fun e s n avs h hb hs => by cases h; obtain ⟨x, hx, _⟩ := sh158 hs; exact ⟨x, hx.symm⟩) (
  all_cons (fun e s n avs h hb => by cases h) (
  all_cons (fun e s n avs h hb hs => by cases h; obtain ⟨x, hx, _⟩ := sh137 hs; exact ⟨x, hx.symm⟩) (
  all_cons (fun e s n avs h hb => by cases h) (
  all_cons (fun e s n avs h hb => by cases h) (
  all_cons (fun e s n avs h hb => by cases h) (
  all_cons (fun e s n avs h hb => by cases h; cases hb) (
  all_cons (fun e s n avs h hb => by cases h) (
  all_cons (fun e s n avs h hb => by cases h) (
  all_cons (fun e s n avs h hb => by cases h) (
  all_cons (fun e s n avs h hb => by cases h) (
  all_cons (fun e s n avs h hb hs => by cases h; obtain ⟨x, hx, _⟩ := sh3 hs; exact ⟨x, hx.symm⟩) (
  all_cons (fun e s n avs h hb => by cases h) (
  all_cons (fun e s n avs h hb => by cases h) (
  all_cons (fun e s n avs h hb => by cases h) (
  all_cons (fun e s n avs h hb => by cases h) (
  all_cons (fun e s n avs h hb => by cases h) (
  all_cons (fun e s n avs h hb => by cases h) (
  all_cons (fun e s n avs h hb hs => by cases h; obtain ⟨x, hx, _⟩ := sh40 hs; exact ⟨x, hx.symm⟩) (
  all_cons (fun e s n avs h hb => by cases h) (
  all_cons (fun e s n avs h hb hs => by cases h; obtain ⟨x, hx, _⟩ := sh5 hs; exact ⟨x, hx.symm⟩) (
  all_cons (fun e s n avs h hb => by cases h) (
  all_cons (fun e s n avs h hb => by cases h) (
  all_cons (fun e s n avs h hb => by cases h) (all_nil))))))))))))))))))))))))))))))))))))))))))))))))))
theorem fullC : FullC cod T := FullC.of (by kernel_rfl) (fun e he => rowsFull e he) (fun s => by cases s <;> decide) trivial
end Km.X
