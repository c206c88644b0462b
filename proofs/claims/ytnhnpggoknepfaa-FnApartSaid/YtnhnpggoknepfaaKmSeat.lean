/- A part of the proof of FnApart: the program's types as data. There is no condition. -/
import Derived.Test.YtnhnpggoknepfaaKxDef1
import Derived.Test.YtnhnpggoknepfaaKmAm3
import Derived.Test.YtnhnpggoknepfaaProg
namespace Km.X
open Go Km
set_option linter.unusedVariables false
inductive K | byte | int | str | item | held | packet | end | parcel | record | event | pair | lstr | lrecord | key | l7count | part
abbrev TyK:K→Type
  | .byte=>Int
  | .int=>Int
  | .str=>ByteArray
  | .item=>ag_
  | .held=>aj_
  | .packet=>ae_
  | .end=>am_
  | .parcel=>ad_
  | .record=>aa_
  | .event=>aT_
  | .pair=>DPair
  | .lstr=>List ByteArray
  | .lrecord=>List aa_
  | .key=>DKey
  | .l7count=>aJ_
  | .part=>az_
abbrev V:=AV K TyK
def kno:K→Nat
  | .byte=>0
  | .int=>1
  | .str=>2
  | .item=>3
  | .held=>4
  | .packet=>5
  | .end=>6
  | .parcel=>7
  | .record=>8
  | .event=>9
  | .pair=>10
  | .lstr=>11
  | .lrecord=>12
  | .key=>13
  | .l7count=>14
  | .part=>15
def B6_:(s t:K)→List (TyK s)→Option (List (TyK t))
  | .byte, .byte,xs=>some xs
  | .int, .int,xs=>some xs
  | .str, .str,xs=>some xs
  | .item, .item,xs=>some xs
  | .held, .held,xs=>some xs
  | .packet, .packet,xs=>some xs
  | .end, .end,xs=>some xs
  | .parcel, .parcel,xs=>some xs
  | .record, .record,xs=>some xs
  | .event, .event,xs=>some xs
  | .pair, .pair,xs=>some xs
  | .lstr, .lstr,xs=>some xs
  | .lrecord, .lrecord,xs=>some xs
  | .key, .key,xs=>some xs
  | .l7count, .l7count,xs=>some xs
  | .part, .part,xs=>some xs
  | _,_,_=>none
def ksz:K→Nat
  | .byte=>1
  | .int=>1
  | .str=>1
  | .item=>4
  | .held=>3
  | .packet=>9
  | .end=>12
  | .parcel=>3
  | .record=>4
  | .event=>5
  | .pair=>3
  | .lstr=>1
  | .lrecord=>1
  | .key=>2
  | .l7count=>3
  | .part=>2
def kby:K→Nat
  | .byte=>1
  | .int=>8
  | .str=>16
  | .item=>40
  | .held=>32
  | .packet=>80
  | .end=>152
  | .parcel=>40
  | .record=>40
  | .event=>48
  | .pair=>8
  | .lstr=>8
  | .lrecord=>24
  | .key=>8
  | .l7count=>32
  | .part=>24
def B5_:(t:K)→TyK t→List V
  | .byte,x=>[.lit (.int .u8 x)]
  | .int,x=>[.lit (.int .i64 x)]
  | .str,x=>[.lit (.string x)]
  | .item,x=>[.lit (.string x.Part.Text), .lit (.bool x.Part.Last), .lit (.bool x.Has), .lit (.int .i64 x.Since)]
  | .held,x=>[.lit (.int .i64 x.Seq), .lit (.string x.Part.Text), .lit (.bool x.Part.Last)]
  | .packet,x=>[.lit (.int .i64 x.Kind), .lit (.int .i64 x.From), .lit (.int .i64 x.Mine), .lit (.int .i64 x.Yours), .lit (.int .i64 x.Next), .lit (.int .i64 x.Mask), .lit (.int .i64 x.Seq), .lit (.bool x.Last), .lit (.string x.Part)]
  | .end,x=>[.lit (.int .i64 x.Number), .lit (.bool x.Up), .lit (.int .i64 x.Life), .lit (.int .i64 x.Peer), .lit (.int .i64 x.Since), .lit (.bool x.Owes), .lit (.int .i64 x.Send.Base), .inl false .item x.Send.Items, .lit (.int .i64 x.Take.Next), .inl false .held x.Take.Held, .lit (.string x.Take.Open), .inl false .str x.Take.Ready]
  | .parcel,x=>[.lit (.int .i64 x.To), .lit (.string x.Sent), .lit (.string x.Bytes)]
  | .record,x=>[.lit (.int .i64 x.From), .lit (.int .i64 x.A), .lit (.int .i64 x.B), .lit (.string x.Text)]
  | .event,x=>[.lit (.int .i64 x.Kind), .lit (.int .i64 x.A), .lit (.int .i64 x.B), .lit (.int .i64 x.C), .lit (.string x.Text)]
  | .pair,x=>[.lit (.int .i64 x.f), .lit (.int .i64 x.a), .lit (.int .i64 x.b)]
  | .lstr,x=>[.inl false .str x]
  | .lrecord,x=>[.inl true .record x]
  | .key,x=>[.lit (.int .i64 x.to), .lit (.string x.bytes)]
  | .l7count,x=>[.lit (.int .i64 x.to), .lit (.string x.bytes), .lit (.int .i64 x.n)]
  | .part,x=>[.lit (.string x.Text), .lit (.bool x.Last)]
def Eb_:(t:K)→List V→Option (TyK t)
  | .byte,[.lit (.int .u8 v1)]=>some v1
  | .int,[.lit (.int .i64 v1)]=>some v1
  | .str,[.lit (.string v1)]=>some v1
  | .item,[.lit (.string v1), .lit (.bool v2), .lit (.bool v3), .lit (.int .i64 v4)]=>some ⟨⟨v1,v2⟩,v3,v4⟩
  | .held,[.lit (.int .i64 v1), .lit (.string v2), .lit (.bool v3)]=>some ⟨v1,⟨v2,v3⟩⟩
  | .packet,[.lit (.int .i64 v1), .lit (.int .i64 v2), .lit (.int .i64 v3), .lit (.int .i64 v4), .lit (.int .i64 v5), .lit (.int .i64 v6), .lit (.int .i64 v7), .lit (.bool v8), .lit (.string v9)]=>some ⟨v1,v2,v3,v4,v5,v6,v7,v8,v9⟩
  | .end,[.lit (.int .i64 v1), .lit (.bool v2), .lit (.int .i64 v3), .lit (.int .i64 v4), .lit (.int .i64 v5), .lit (.bool v6), .lit (.int .i64 v7), .inl false .item v8, .lit (.int .i64 v9), .inl false .held v10, .lit (.string v11), .inl false .str v12]=>some ⟨v1,v2,v3,v4,v5,v6,⟨v7,v8⟩,⟨v9,v10,v11,v12⟩⟩
  | .parcel,[.lit (.int .i64 v1), .lit (.string v2), .lit (.string v3)]=>some ⟨v1,v2,v3⟩
  | .record,[.lit (.int .i64 v1), .lit (.int .i64 v2), .lit (.int .i64 v3), .lit (.string v4)]=>some ⟨v1,v2,v3,v4⟩
  | .event,[.lit (.int .i64 v1), .lit (.int .i64 v2), .lit (.int .i64 v3), .lit (.int .i64 v4), .lit (.string v5)]=>some ⟨v1,v2,v3,v4,v5⟩
  | .pair,[.lit (.int .i64 v1), .lit (.int .i64 v2), .lit (.int .i64 v3)]=>some ⟨v1,v2,v3⟩
  | .lstr,[.inl false .str v1]=>some v1
  | .lrecord,[.inl true .record v1]=>some v1
  | .key,[.lit (.int .i64 v1), .lit (.string v2)]=>some ⟨v1,v2⟩
  | .l7count,[.lit (.int .i64 v1), .lit (.string v2), .lit (.int .i64 v3)]=>some ⟨v1,v2,v3⟩
  | .part,[.lit (.string v1), .lit (.bool v2)]=>some ⟨v1,v2⟩
  | _,_=>none
def z6_:(t:K)→List (TyK t)→Option (List Int)
  | .byte,xs=>some xs
  | _,_=>none
def Ea_:(t:K)→ByteArray→Option (List (TyK t))
  | .byte,b=>some (b0_ b)
  | _,_=>none
def Ex_:(k:K)→TyK k→TyK k→Bool
  | .pair,x,y=>a7_ x y
  | .key,x,y=>eM_ x y
  | _,_,_=>false
def zB_:(k v k' v':K)→List (TyK k×TyK v)→Option (List (TyK k'×TyK v'))
  | .key, .int, .key, .int,xs=>some xs
  | .pair, .int, .pair, .int,xs=>some xs
  | .pair, .lstr, .pair, .lstr,xs=>some xs
  | _,_,_,_,_=>none
def FD_:K→Bool
  | .lrecord=>true
  | _=>false
def cod:Cod K TyK where
  same s t:=Nat.beq (kno s) (kno t)
  cast:=B6_
  sz:=ksz
  by':=kby
  bor:=FD_
  enc:=B5_
  dec:=Eb_
  bytes:=z6_
  ofb:=Ea_
  keq:=Ex_
  mcast:=zB_
theorem codOk:a3_ cod where
  same s t h:=by have:=Nat.eq_of_beq_eq_true h;cases s<;>cases t<;>first | rfl | (simp [kno] at this)
  len t x:=by cases t<;>rfl
  dec t cs x h:=by
    change Eb_ t cs=some x at h
    unfold Eb_ at h
    split at h<;>first | (cases h;rfl) | cases h
  deep t x c h:=by
    change c∈B5_ t x at h
    cases t<;>simp only [B5_,List.mem_cons,List.not_mem_nil,or_false] at h<;>(repeat' (rcases h with h | h))<;>first | exact .inl ⟨_,rfl⟩ | exact .inr ⟨_,_,rfl,fun e=>by cases e⟩
  cast s t xs ys h:=by
    change B6_ s t xs=some ys at h
    unfold B6_ at h
    split at h
    all_goals first | (cases h;exact ⟨rfl,rfl⟩) | cases h
  ofb t b xs h:=by
    change Ea_ t b=some xs at h
    unfold Ea_ at h
    split at h
    ·cases h
     refine ⟨by unfold b0_;rw [List.length_map,Array.length_toList];rfl,fun i x hx=> ?_,rfl⟩
     simp only [b0_,List.getElem?_map,Option.map_eq_some_iff] at hx
     obtain ⟨c,hc,rfl⟩:=hx
     exact ⟨c,by simpa using hc,rfl⟩
    ·cases h
  keq k x y h:=by
    change Ex_ k x y=true at h
    unfold Ex_ at h
    split at h
    all_goals first | cases h | (first | exact mt_ h | exact pg_ h)
  mcast k v k' v' xs ys h:=by
    change zB_ k v k' v' xs=some ys at h
    unfold zB_ at h
    split at h
    all_goals first | (cases h;exact ⟨rfl,rfl,rfl⟩) | cases h
  bytes t xs bs h:=by
    change z6_ t xs=some bs at h
    unfold z6_ at h
    split at h
    ·cases h;exact ⟨rfl,fun i x b h1 h2=>by rw [h1] at h2;cases h2;rfl⟩
    ·cases h
end Km.X
namespace Km.X
open Go Km Go.Proofs
set_option linter.unusedVariables false
set_option maxRecDepth 100000
def tbl:List (Nat×TI K TyK):=[
  (2,⟨1,8, .int .i64,[.lit (.int .i64 0)]⟩),
  (3,⟨1,8, .int .i64,[.lit (.int .i64 0)]⟩),
  (4,⟨1,1, .bool,[.lit (.bool false)]⟩),
  (5,⟨1,1, .int .u8,[.lit (.int .u8 0)]⟩),
  (9,⟨1,16, .str,[.lit (.string ⟨#[]⟩)]⟩),
  (12,⟨1,8, .int .u64,[.lit (.int .u64 0)]⟩),
  (21,⟨1,4, .int .i32,[.lit (.int .i32 0)]⟩),
  (22,⟨1,24, .slice 188 .item,[.nil .item]⟩),
  (24,⟨2,32, .struct [(0,3),(1,22)],[.lit (.int .i64 0), .nil .item]⟩),
  (25,⟨1,24, .slice 191 .held,[.nil .held]⟩),
  (26,⟨1,24, .slice 9 .str,[.nil .str]⟩),
  (28,⟨4,72, .struct [(0,3),(1,25),(2,9),(3,26)],[.lit (.int .i64 0), .nil .held, .lit (.string ⟨#[]⟩), .nil .str]⟩),
  (30,⟨12,152, .struct [(0,3),(1,4),(2,3),(3,3),(4,3),(5,4),(6,24),(8,28)],[.lit (.int .i64 0), .lit (.bool false), .lit (.int .i64 0), .lit (.int .i64 0), .lit (.int .i64 0), .lit (.bool false), .lit (.int .i64 0), .nil .item, .lit (.int .i64 0), .nil .held, .lit (.string ⟨#[]⟩), .nil .str]⟩),
  (32,⟨9,80, .struct [(0,3),(1,3),(2,3),(3,3),(4,3),(5,3),(6,3),(7,4),(8,9)],[.lit (.int .i64 0), .lit (.int .i64 0), .lit (.int .i64 0), .lit (.int .i64 0), .lit (.int .i64 0), .lit (.int .i64 0), .lit (.int .i64 0), .lit (.bool false), .lit (.string ⟨#[]⟩)]⟩),
  (35,⟨1,24, .slice 136 .item,[.nil .item]⟩),
  (37,⟨2,32, .struct [(0,3),(1,35)],[.lit (.int .i64 0), .nil .item]⟩),
  (38,⟨1,24, .slice 155 .held,[.nil .held]⟩),
  (40,⟨4,72, .struct [(0,3),(1,38),(2,9),(3,26)],[.lit (.int .i64 0), .nil .held, .lit (.string ⟨#[]⟩), .nil .str]⟩),
  (42,⟨12,152, .struct [(0,3),(1,4),(2,3),(3,3),(4,3),(5,4),(6,37),(8,40)],[.lit (.int .i64 0), .lit (.bool false), .lit (.int .i64 0), .lit (.int .i64 0), .lit (.int .i64 0), .lit (.bool false), .lit (.int .i64 0), .nil .item, .lit (.int .i64 0), .nil .held, .lit (.string ⟨#[]⟩), .nil .str]⟩),
  (43,⟨1,24, .slice 48 .packet,[.nil .packet]⟩),
  (45,⟨15,200, .struct [(0,3),(1,42),(13,43),(14,9)],[.lit (.int .i64 0), .lit (.int .i64 0), .lit (.bool false), .lit (.int .i64 0), .lit (.int .i64 0), .lit (.int .i64 0), .lit (.bool false), .lit (.int .i64 0), .nil .item, .lit (.int .i64 0), .nil .held, .lit (.string ⟨#[]⟩), .nil .str, .nil .packet, .lit (.string ⟨#[]⟩)]⟩),
  (48,⟨9,80, .struct [(0,3),(1,3),(2,3),(3,3),(4,3),(5,3),(6,3),(7,4),(8,9)],[.lit (.int .i64 0), .lit (.int .i64 0), .lit (.int .i64 0), .lit (.int .i64 0), .lit (.int .i64 0), .lit (.int .i64 0), .lit (.int .i64 0), .lit (.bool false), .lit (.string ⟨#[]⟩)]⟩),
  (55,⟨1,24, .slice 5 .byte,[.nil .byte]⟩),
  (56,⟨1,24, .slice 42 .end,[.nil .end]⟩),
  (57,⟨1,24, .slice 68 .parcel,[.nil .parcel]⟩),
  (58,⟨1,24, .slice 64 .record,[.nil .record]⟩),
  (60,⟨7,136, .struct [(0,9),(1,3),(2,56),(3,57),(4,9),(5,58),(6,58)],[.lit (.string ⟨#[]⟩), .lit (.int .i64 0), .nil .end, .nil .parcel, .lit (.string ⟨#[]⟩), .nil .record, .nil .record]⟩),
  (64,⟨4,40, .struct [(0,3),(1,3),(2,3),(3,9)],[.lit (.int .i64 0), .lit (.int .i64 0), .lit (.int .i64 0), .lit (.string ⟨#[]⟩)]⟩),
  (68,⟨3,40, .struct [(0,3),(1,9),(2,9)],[.lit (.int .i64 0), .lit (.string ⟨#[]⟩), .lit (.string ⟨#[]⟩)]⟩),
  (71,⟨5,48, .struct [(0,3),(1,3),(2,3),(3,3),(4,9)],[.lit (.int .i64 0), .lit (.int .i64 0), .lit (.int .i64 0), .lit (.int .i64 0), .lit (.string ⟨#[]⟩)]⟩),
  (73,⟨1,24, .slice 71 .event,[.nil .event]⟩),
  (93,⟨2,24, .struct [(0,9),(1,4)],[.lit (.string ⟨#[]⟩), .lit (.bool false)]⟩),
  (96,⟨1,8, .other,[.lit (.pointer none)]⟩),
  (103,⟨1,8, .other,[.lit (.pointer none)]⟩),
  (107,⟨1,8, .map 109 26 .pair .lstr,[.lit (.map none)]⟩),
  (109,⟨3,24, .struct [(0,3),(1,3),(2,3)],[.lit (.int .i64 0), .lit (.int .i64 0), .lit (.int .i64 0)]⟩),
  (110,⟨1,8, .map 109 3 .pair .int,[.lit (.map none)]⟩),
  (111,⟨1,24, .slice 58 .lrecord,[.nil .lrecord]⟩),
  (124,⟨1,8, .map 126 3 .key .int,[.lit (.map none)]⟩),
  (126,⟨2,24, .struct [(0,3),(1,9)],[.lit (.int .i64 0), .lit (.string ⟨#[]⟩)]⟩),
  (129,⟨1,24, .slice 3 .int,[.nil .int]⟩),
  (136,⟨4,40, .struct [(0,93),(2,4),(3,3)],[.lit (.string ⟨#[]⟩), .lit (.bool false), .lit (.bool false), .lit (.int .i64 0)]⟩),
  (155,⟨3,32, .struct [(0,3),(1,93)],[.lit (.int .i64 0), .lit (.string ⟨#[]⟩), .lit (.bool false)]⟩),
  (166,⟨2,32, .struct [(0,55),(1,3)],[.nil .byte, .lit (.int .i64 0)]⟩),
  (168,⟨1,24, .slice 198 .l7count,[.nil .l7count]⟩),
  (175,⟨1,8, .int .u64,[.lit (.int .u64 0)]⟩),
  (176,⟨1,8, .int .u64,[.lit (.int .u64 0)]⟩),
  (177,⟨8,8, .arr 8 5 .byte,[.lit (.int .u8 0), .lit (.int .u8 0), .lit (.int .u8 0), .lit (.int .u8 0), .lit (.int .u8 0), .lit (.int .u8 0), .lit (.int .u8 0), .lit (.int .u8 0)]⟩),
  (178,⟨1,8, .other,[.lit (.pointer none)]⟩),
  (181,⟨1,8, .other,[.lit (.pointer none)]⟩),
  (182,⟨1,24, .slice 93 .part,[.nil .part]⟩),
  (186,⟨2,24, .struct [(0,9),(1,4)],[.lit (.string ⟨#[]⟩), .lit (.bool false)]⟩),
  (188,⟨4,40, .struct [(0,186),(2,4),(3,3)],[.lit (.string ⟨#[]⟩), .lit (.bool false), .lit (.bool false), .lit (.int .i64 0)]⟩),
  (191,⟨3,32, .struct [(0,3),(1,186)],[.lit (.int .i64 0), .lit (.string ⟨#[]⟩), .lit (.bool false)]⟩),
  (198,⟨3,32, .struct [(0,3),(1,9),(2,3)],[.lit (.int .i64 0), .lit (.string ⟨#[]⟩), .lit (.int .i64 0)]⟩),
  (214,⟨1,4, .int .u32,[.lit (.int .u32 0)]⟩),
  (218,⟨1,8, .other,[.lit (.pointer none)]⟩)]
abbrev T:=aA_ tbl
theorem Fo_:bC_ Try.prog cod T 2 ⟨1,8, .int .i64,[.lit (.int .i64 0)]⟩:=⟨_,_,_,Try.type2,rfl,rfl,rfl,by kernel_rfl,by kernel_rfl,Try.underlying2,by kernel_rfl,rfl⟩
theorem Fk_:bC_ Try.prog cod T 3 ⟨1,8, .int .i64,[.lit (.int .i64 0)]⟩:=⟨_,_,_,Try.type3,rfl,rfl,rfl,by kernel_rfl,by kernel_rfl,Try.underlying3,by kernel_rfl,rfl⟩
theorem Fs_:bC_ Try.prog cod T 4 ⟨1,1, .bool,[.lit (.bool false)]⟩:=⟨_,_,_,Try.type4,rfl,rfl,rfl,by kernel_rfl,by kernel_rfl,Try.underlying4,by kernel_rfl,rfl⟩
theorem Fp_:bC_ Try.prog cod T 5 ⟨1,1, .int .u8,[.lit (.int .u8 0)]⟩:=⟨_,_,_,Try.type5,rfl,rfl,rfl,by kernel_rfl,by kernel_rfl,Try.underlying5,by kernel_rfl,rfl⟩
theorem Fq_:bC_ Try.prog cod T 9 ⟨1,16, .str,[.lit (.string ⟨#[]⟩)]⟩:=⟨_,_,_,Try.type9,rfl,rfl,rfl,by kernel_rfl,by kernel_rfl,Try.underlying9,by kernel_rfl,rfl⟩
theorem Eq_:bC_ Try.prog cod T 12 ⟨1,8, .int .u64,[.lit (.int .u64 0)]⟩:=⟨_,_,_,Try.type12,rfl,rfl,rfl,by kernel_rfl,by kernel_rfl,Try.underlying12,by kernel_rfl,rfl⟩
theorem EQ_:bC_ Try.prog cod T 21 ⟨1,4, .int .i32,[.lit (.int .i32 0)]⟩:=⟨_,_,_,Try.type21,rfl,rfl,rfl,by kernel_rfl,by kernel_rfl,Try.underlying21,by kernel_rfl,rfl⟩
theorem EK_:bC_ Try.prog cod T 22 ⟨1,24, .slice 188 .item,[.nil .item]⟩:=⟨_,_,_,Try.type22,rfl,rfl,rfl,by kernel_rfl,by kernel_rfl,Try.underlying22,by kernel_rfl,⟨⟨rfl,_,Try.type188,by kernel_rfl,by kernel_rfl⟩,_,_,Try.type188,rfl,by kernel_rfl,by kernel_rfl,by decide⟩⟩
theorem EE_:bC_ Try.prog cod T 24 ⟨2,32, .struct [(0,3),(1,22)],[.lit (.int .i64 0), .nil .item]⟩:=⟨_,_,_,Try.type24,rfl,rfl,rfl,by kernel_rfl,by kernel_rfl,Try.underlying24,by kernel_rfl,⟨_,rfl,by kernel_rfl,by kernel_rfl,by kernel_rfl,by kernel_rfl,by kernel_rfl⟩⟩
theorem EM_:bC_ Try.prog cod T 25 ⟨1,24, .slice 191 .held,[.nil .held]⟩:=⟨_,_,_,Try.type25,rfl,rfl,rfl,by kernel_rfl,by kernel_rfl,Try.underlying25,by kernel_rfl,⟨⟨rfl,_,Try.type191,by kernel_rfl,by kernel_rfl⟩,_,_,Try.type191,rfl,by kernel_rfl,by kernel_rfl,by decide⟩⟩
theorem EU_:bC_ Try.prog cod T 26 ⟨1,24, .slice 9 .str,[.nil .str]⟩:=⟨_,_,_,Try.type26,rfl,rfl,rfl,by kernel_rfl,by kernel_rfl,Try.underlying26,by kernel_rfl,⟨⟨rfl,_,Try.type9,by kernel_rfl,by kernel_rfl⟩,_,_,Try.type9,rfl,by kernel_rfl,by kernel_rfl,by decide⟩⟩
theorem EA_:bC_ Try.prog cod T 28 ⟨4,72, .struct [(0,3),(1,25),(2,9),(3,26)],[.lit (.int .i64 0), .nil .held, .lit (.string ⟨#[]⟩), .nil .str]⟩:=⟨_,_,_,Try.type28,rfl,rfl,rfl,by kernel_rfl,by kernel_rfl,Try.underlying28,by kernel_rfl,⟨_,rfl,by kernel_rfl,by kernel_rfl,by kernel_rfl,by kernel_rfl,by kernel_rfl⟩⟩
theorem EY_:bC_ Try.prog cod T 30 ⟨12,152, .struct [(0,3),(1,4),(2,3),(3,3),(4,3),(5,4),(6,24),(8,28)],[.lit (.int .i64 0), .lit (.bool false), .lit (.int .i64 0), .lit (.int .i64 0), .lit (.int .i64 0), .lit (.bool false), .lit (.int .i64 0), .nil .item, .lit (.int .i64 0), .nil .held, .lit (.string ⟨#[]⟩), .nil .str]⟩:=⟨_,_,_,Try.type30,rfl,rfl,rfl,by kernel_rfl,by kernel_rfl,Try.underlying30,by kernel_rfl,⟨_,rfl,by kernel_rfl,by kernel_rfl,by kernel_rfl,by kernel_rfl,by kernel_rfl⟩⟩
theorem EI_:bC_ Try.prog cod T 32 ⟨9,80, .struct [(0,3),(1,3),(2,3),(3,3),(4,3),(5,3),(6,3),(7,4),(8,9)],[.lit (.int .i64 0), .lit (.int .i64 0), .lit (.int .i64 0), .lit (.int .i64 0), .lit (.int .i64 0), .lit (.int .i64 0), .lit (.int .i64 0), .lit (.bool false), .lit (.string ⟨#[]⟩)]⟩:=⟨_,_,_,Try.type32,rfl,rfl,rfl,by kernel_rfl,by kernel_rfl,Try.underlying32,by kernel_rfl,⟨_,rfl,by kernel_rfl,by kernel_rfl,by kernel_rfl,by kernel_rfl,by kernel_rfl⟩⟩
theorem EJ_:bC_ Try.prog cod T 35 ⟨1,24, .slice 136 .item,[.nil .item]⟩:=⟨_,_,_,Try.type35,rfl,rfl,rfl,by kernel_rfl,by kernel_rfl,Try.underlying35,by kernel_rfl,⟨⟨rfl,_,Try.type136,by kernel_rfl,by kernel_rfl⟩,_,_,Try.type136,rfl,by kernel_rfl,by kernel_rfl,by decide⟩⟩
theorem EF_:bC_ Try.prog cod T 37 ⟨2,32, .struct [(0,3),(1,35)],[.lit (.int .i64 0), .nil .item]⟩:=⟨_,_,_,Try.type37,rfl,rfl,rfl,by kernel_rfl,by kernel_rfl,Try.underlying37,by kernel_rfl,⟨_,rfl,by kernel_rfl,by kernel_rfl,by kernel_rfl,by kernel_rfl,by kernel_rfl⟩⟩
theorem E4_:bC_ Try.prog cod T 38 ⟨1,24, .slice 155 .held,[.nil .held]⟩:=⟨_,_,_,Try.type38,rfl,rfl,rfl,by kernel_rfl,by kernel_rfl,Try.underlying38,by kernel_rfl,⟨⟨rfl,_,Try.type155,by kernel_rfl,by kernel_rfl⟩,_,_,Try.type155,rfl,by kernel_rfl,by kernel_rfl,by decide⟩⟩
theorem EL_:bC_ Try.prog cod T 40 ⟨4,72, .struct [(0,3),(1,38),(2,9),(3,26)],[.lit (.int .i64 0), .nil .held, .lit (.string ⟨#[]⟩), .nil .str]⟩:=⟨_,_,_,Try.type40,rfl,rfl,rfl,by kernel_rfl,by kernel_rfl,Try.underlying40,by kernel_rfl,⟨_,rfl,by kernel_rfl,by kernel_rfl,by kernel_rfl,by kernel_rfl,by kernel_rfl⟩⟩
theorem EN_:bC_ Try.prog cod T 42 ⟨12,152, .struct [(0,3),(1,4),(2,3),(3,3),(4,3),(5,4),(6,37),(8,40)],[.lit (.int .i64 0), .lit (.bool false), .lit (.int .i64 0), .lit (.int .i64 0), .lit (.int .i64 0), .lit (.bool false), .lit (.int .i64 0), .nil .item, .lit (.int .i64 0), .nil .held, .lit (.string ⟨#[]⟩), .nil .str]⟩:=⟨_,_,_,Try.type42,rfl,rfl,rfl,by kernel_rfl,by kernel_rfl,Try.underlying42,by kernel_rfl,⟨_,rfl,by kernel_rfl,by kernel_rfl,by kernel_rfl,by kernel_rfl,by kernel_rfl⟩⟩
theorem Ej_:bC_ Try.prog cod T 43 ⟨1,24, .slice 48 .packet,[.nil .packet]⟩:=⟨_,_,_,Try.type43,rfl,rfl,rfl,by kernel_rfl,by kernel_rfl,Try.underlying43,by kernel_rfl,⟨⟨rfl,_,Try.type48,by kernel_rfl,by kernel_rfl⟩,_,_,Try.type48,rfl,by kernel_rfl,by kernel_rfl,by decide⟩⟩
theorem E3_:bC_ Try.prog cod T 45 ⟨15,200, .struct [(0,3),(1,42),(13,43),(14,9)],[.lit (.int .i64 0), .lit (.int .i64 0), .lit (.bool false), .lit (.int .i64 0), .lit (.int .i64 0), .lit (.int .i64 0), .lit (.bool false), .lit (.int .i64 0), .nil .item, .lit (.int .i64 0), .nil .held, .lit (.string ⟨#[]⟩), .nil .str, .nil .packet, .lit (.string ⟨#[]⟩)]⟩:=⟨_,_,_,Try.type45,rfl,rfl,rfl,by kernel_rfl,by kernel_rfl,Try.underlying45,by kernel_rfl,⟨_,rfl,by kernel_rfl,by kernel_rfl,by kernel_rfl,by kernel_rfl,by kernel_rfl⟩⟩
theorem EV_:bC_ Try.prog cod T 48 ⟨9,80, .struct [(0,3),(1,3),(2,3),(3,3),(4,3),(5,3),(6,3),(7,4),(8,9)],[.lit (.int .i64 0), .lit (.int .i64 0), .lit (.int .i64 0), .lit (.int .i64 0), .lit (.int .i64 0), .lit (.int .i64 0), .lit (.int .i64 0), .lit (.bool false), .lit (.string ⟨#[]⟩)]⟩:=⟨_,_,_,Try.type48,rfl,rfl,rfl,by kernel_rfl,by kernel_rfl,Try.underlying48,by kernel_rfl,⟨_,rfl,by kernel_rfl,by kernel_rfl,by kernel_rfl,by kernel_rfl,by kernel_rfl⟩⟩
theorem Em_:bC_ Try.prog cod T 55 ⟨1,24, .slice 5 .byte,[.nil .byte]⟩:=⟨_,_,_,Try.type55,rfl,rfl,rfl,by kernel_rfl,by kernel_rfl,Try.underlying55,by kernel_rfl,⟨⟨rfl,_,Try.type5,by kernel_rfl,by kernel_rfl⟩,_,_,Try.type5,rfl,by kernel_rfl,by kernel_rfl,by decide⟩⟩
theorem Ei_:bC_ Try.prog cod T 56 ⟨1,24, .slice 42 .end,[.nil .end]⟩:=⟨_,_,_,Try.type56,rfl,rfl,rfl,by kernel_rfl,by kernel_rfl,Try.underlying56,by kernel_rfl,⟨⟨rfl,_,Try.type42,by kernel_rfl,by kernel_rfl⟩,_,_,Try.type42,rfl,by kernel_rfl,by kernel_rfl,by decide⟩⟩
theorem Ed_:bC_ Try.prog cod T 57 ⟨1,24, .slice 68 .parcel,[.nil .parcel]⟩:=⟨_,_,_,Try.type57,rfl,rfl,rfl,by kernel_rfl,by kernel_rfl,Try.underlying57,by kernel_rfl,⟨⟨rfl,_,Try.type68,by kernel_rfl,by kernel_rfl⟩,_,_,Try.type68,rfl,by kernel_rfl,by kernel_rfl,by decide⟩⟩
theorem En_:bC_ Try.prog cod T 58 ⟨1,24, .slice 64 .record,[.nil .record]⟩:=⟨_,_,_,Try.type58,rfl,rfl,rfl,by kernel_rfl,by kernel_rfl,Try.underlying58,by kernel_rfl,⟨⟨rfl,_,Try.type64,by kernel_rfl,by kernel_rfl⟩,_,_,Try.type64,rfl,by kernel_rfl,by kernel_rfl,by decide⟩⟩
theorem EG_:bC_ Try.prog cod T 60 ⟨7,136, .struct [(0,9),(1,3),(2,56),(3,57),(4,9),(5,58),(6,58)],[.lit (.string ⟨#[]⟩), .lit (.int .i64 0), .nil .end, .nil .parcel, .lit (.string ⟨#[]⟩), .nil .record, .nil .record]⟩:=⟨_,_,_,Try.type60,rfl,rfl,rfl,by kernel_rfl,by kernel_rfl,Try.underlying60,by kernel_rfl,⟨_,rfl,by kernel_rfl,by kernel_rfl,by kernel_rfl,by kernel_rfl,by kernel_rfl⟩⟩
theorem EH_:bC_ Try.prog cod T 64 ⟨4,40, .struct [(0,3),(1,3),(2,3),(3,9)],[.lit (.int .i64 0), .lit (.int .i64 0), .lit (.int .i64 0), .lit (.string ⟨#[]⟩)]⟩:=⟨_,_,_,Try.type64,rfl,rfl,rfl,by kernel_rfl,by kernel_rfl,Try.underlying64,by kernel_rfl,⟨_,rfl,by kernel_rfl,by kernel_rfl,by kernel_rfl,by kernel_rfl,by kernel_rfl⟩⟩
theorem Ew_:bC_ Try.prog cod T 68 ⟨3,40, .struct [(0,3),(1,9),(2,9)],[.lit (.int .i64 0), .lit (.string ⟨#[]⟩), .lit (.string ⟨#[]⟩)]⟩:=⟨_,_,_,Try.type68,rfl,rfl,rfl,by kernel_rfl,by kernel_rfl,Try.underlying68,by kernel_rfl,⟨_,rfl,by kernel_rfl,by kernel_rfl,by kernel_rfl,by kernel_rfl,by kernel_rfl⟩⟩
theorem EZ_:bC_ Try.prog cod T 71 ⟨5,48, .struct [(0,3),(1,3),(2,3),(3,3),(4,9)],[.lit (.int .i64 0), .lit (.int .i64 0), .lit (.int .i64 0), .lit (.int .i64 0), .lit (.string ⟨#[]⟩)]⟩:=⟨_,_,_,Try.type71,rfl,rfl,rfl,by kernel_rfl,by kernel_rfl,Try.underlying71,by kernel_rfl,⟨_,rfl,by kernel_rfl,by kernel_rfl,by kernel_rfl,by kernel_rfl,by kernel_rfl⟩⟩
theorem EX_:bC_ Try.prog cod T 73 ⟨1,24, .slice 71 .event,[.nil .event]⟩:=⟨_,_,_,Try.type73,rfl,rfl,rfl,by kernel_rfl,by kernel_rfl,Try.underlying73,by kernel_rfl,⟨⟨rfl,_,Try.type71,by kernel_rfl,by kernel_rfl⟩,_,_,Try.type71,rfl,by kernel_rfl,by kernel_rfl,by decide⟩⟩
theorem Ee_:bC_ Try.prog cod T 93 ⟨2,24, .struct [(0,9),(1,4)],[.lit (.string ⟨#[]⟩), .lit (.bool false)]⟩:=⟨_,_,_,Try.type93,rfl,rfl,rfl,by kernel_rfl,by kernel_rfl,Try.underlying93,by kernel_rfl,⟨_,rfl,by kernel_rfl,by kernel_rfl,by kernel_rfl,by kernel_rfl,by kernel_rfl⟩⟩
theorem Eo_:bC_ Try.prog cod T 96 ⟨1,8, .other,[.lit (.pointer none)]⟩:=⟨_,_,_,Try.type96,rfl,rfl,rfl,by kernel_rfl,by kernel_rfl,Try.underlying96,by kernel_rfl,trivial⟩
theorem D1_:bC_ Try.prog cod T 103 ⟨1,8, .other,[.lit (.pointer none)]⟩:=⟨_,_,_,Try.type103,rfl,rfl,rfl,by kernel_rfl,by kernel_rfl,Try.underlying103,by kernel_rfl,trivial⟩
theorem Dh_:bC_ Try.prog cod T 107 ⟨1,8, .map 109 26 .pair .lstr,[.lit (.map none)]⟩:=⟨_,_,_,Try.type107,rfl,rfl,rfl,by kernel_rfl,by kernel_rfl,Try.underlying107,by kernel_rfl,⟨rfl,fun _ _=>by kernel_rfl,⟨_,_,rfl,rfl,by kernel_rfl⟩,fun _=>rfl,_,_,Try.type26,rfl,by kernel_rfl⟩⟩
theorem DZ_:bC_ Try.prog cod T 109 ⟨3,24, .struct [(0,3),(1,3),(2,3)],[.lit (.int .i64 0), .lit (.int .i64 0), .lit (.int .i64 0)]⟩:=⟨_,_,_,Try.type109,rfl,rfl,rfl,by kernel_rfl,by kernel_rfl,Try.underlying109,by kernel_rfl,⟨_,rfl,by kernel_rfl,by kernel_rfl,by kernel_rfl,by kernel_rfl,by kernel_rfl⟩⟩
theorem De_:bC_ Try.prog cod T 110 ⟨1,8, .map 109 3 .pair .int,[.lit (.map none)]⟩:=⟨_,_,_,Try.type110,rfl,rfl,rfl,by kernel_rfl,by kernel_rfl,Try.underlying110,by kernel_rfl,⟨rfl,fun _ _=>by kernel_rfl,⟨_,_,rfl,rfl,by kernel_rfl⟩,fun _=>rfl,_,_,Try.type3,rfl,by kernel_rfl⟩⟩
theorem DR_:bC_ Try.prog cod T 111 ⟨1,24, .slice 58 .lrecord,[.nil .lrecord]⟩:=⟨_,_,_,Try.type111,rfl,rfl,rfl,by kernel_rfl,by kernel_rfl,Try.underlying111,by kernel_rfl,⟨⟨rfl,_,Try.type58,by kernel_rfl,by kernel_rfl⟩,_,_,Try.type58,rfl,by kernel_rfl,by kernel_rfl,by decide⟩⟩
theorem C4_:bC_ Try.prog cod T 124 ⟨1,8, .map 126 3 .key .int,[.lit (.map none)]⟩:=⟨_,_,_,Try.type124,rfl,rfl,rfl,by kernel_rfl,by kernel_rfl,Try.underlying124,by kernel_rfl,⟨rfl,fun _ _=>by kernel_rfl,⟨_,_,rfl,rfl,by kernel_rfl⟩,fun _=>rfl,_,_,Try.type3,rfl,by kernel_rfl⟩⟩
theorem CY_:bC_ Try.prog cod T 126 ⟨2,24, .struct [(0,3),(1,9)],[.lit (.int .i64 0), .lit (.string ⟨#[]⟩)]⟩:=⟨_,_,_,Try.type126,rfl,rfl,rfl,by kernel_rfl,by kernel_rfl,Try.underlying126,by kernel_rfl,⟨_,rfl,by kernel_rfl,by kernel_rfl,by kernel_rfl,by kernel_rfl,by kernel_rfl⟩⟩
theorem DD_:bC_ Try.prog cod T 129 ⟨1,24, .slice 3 .int,[.nil .int]⟩:=⟨_,_,_,Try.type129,rfl,rfl,rfl,by kernel_rfl,by kernel_rfl,Try.underlying129,by kernel_rfl,⟨⟨rfl,_,Try.type3,by kernel_rfl,by kernel_rfl⟩,_,_,Try.type3,rfl,by kernel_rfl,by kernel_rfl,by decide⟩⟩
theorem Df_:bC_ Try.prog cod T 136 ⟨4,40, .struct [(0,93),(2,4),(3,3)],[.lit (.string ⟨#[]⟩), .lit (.bool false), .lit (.bool false), .lit (.int .i64 0)]⟩:=⟨_,_,_,Try.type136,rfl,rfl,rfl,by kernel_rfl,by kernel_rfl,Try.underlying136,by kernel_rfl,⟨_,rfl,by kernel_rfl,by kernel_rfl,by kernel_rfl,by kernel_rfl,by kernel_rfl⟩⟩
theorem Dy_:bC_ Try.prog cod T 155 ⟨3,32, .struct [(0,3),(1,93)],[.lit (.int .i64 0), .lit (.string ⟨#[]⟩), .lit (.bool false)]⟩:=⟨_,_,_,Try.type155,rfl,rfl,rfl,by kernel_rfl,by kernel_rfl,Try.underlying155,by kernel_rfl,⟨_,rfl,by kernel_rfl,by kernel_rfl,by kernel_rfl,by kernel_rfl,by kernel_rfl⟩⟩
theorem Dz_:bC_ Try.prog cod T 166 ⟨2,32, .struct [(0,55),(1,3)],[.nil .byte, .lit (.int .i64 0)]⟩:=⟨_,_,_,Try.type166,rfl,rfl,rfl,by kernel_rfl,by kernel_rfl,Try.underlying166,by kernel_rfl,⟨_,rfl,by kernel_rfl,by kernel_rfl,by kernel_rfl,by kernel_rfl,by kernel_rfl⟩⟩
theorem Db_:bC_ Try.prog cod T 168 ⟨1,24, .slice 198 .l7count,[.nil .l7count]⟩:=⟨_,_,_,Try.type168,rfl,rfl,rfl,by kernel_rfl,by kernel_rfl,Try.underlying168,by kernel_rfl,⟨⟨rfl,_,Try.type198,by kernel_rfl,by kernel_rfl⟩,_,_,Try.type198,rfl,by kernel_rfl,by kernel_rfl,by decide⟩⟩
theorem DE_:bC_ Try.prog cod T 175 ⟨1,8, .int .u64,[.lit (.int .u64 0)]⟩:=⟨_,_,_,Try.type175,rfl,rfl,rfl,by kernel_rfl,by kernel_rfl,Try.underlying175,by kernel_rfl,rfl⟩
theorem Dv_:bC_ Try.prog cod T 176 ⟨1,8, .int .u64,[.lit (.int .u64 0)]⟩:=⟨_,_,_,Try.type176,rfl,rfl,rfl,by kernel_rfl,by kernel_rfl,Try.underlying176,by kernel_rfl,rfl⟩
theorem Da_:bC_ Try.prog cod T 177 ⟨8,8, .arr 8 5 .byte,[.lit (.int .u8 0), .lit (.int .u8 0), .lit (.int .u8 0), .lit (.int .u8 0), .lit (.int .u8 0), .lit (.int .u8 0), .lit (.int .u8 0), .lit (.int .u8 0)]⟩:=⟨_,_,_,Try.type177,rfl,rfl,rfl,by kernel_rfl,by kernel_rfl,Try.underlying177,by kernel_rfl,⟨rfl,⟨_,Try.type5,by kernel_rfl,by kernel_rfl⟩,_,rfl,by kernel_rfl,by kernel_rfl⟩⟩
theorem C0_:bC_ Try.prog cod T 178 ⟨1,8, .other,[.lit (.pointer none)]⟩:=⟨_,_,_,Try.type178,rfl,rfl,rfl,by kernel_rfl,by kernel_rfl,Try.underlying178,by kernel_rfl,trivial⟩
theorem C6_:bC_ Try.prog cod T 181 ⟨1,8, .other,[.lit (.pointer none)]⟩:=⟨_,_,_,Try.type181,rfl,rfl,rfl,by kernel_rfl,by kernel_rfl,Try.underlying181,by kernel_rfl,trivial⟩
theorem Dr_:bC_ Try.prog cod T 182 ⟨1,24, .slice 93 .part,[.nil .part]⟩:=⟨_,_,_,Try.type182,rfl,rfl,rfl,by kernel_rfl,by kernel_rfl,Try.underlying182,by kernel_rfl,⟨⟨rfl,_,Try.type93,by kernel_rfl,by kernel_rfl⟩,_,_,Try.type93,rfl,by kernel_rfl,by kernel_rfl,by decide⟩⟩
theorem Dk_:bC_ Try.prog cod T 186 ⟨2,24, .struct [(0,9),(1,4)],[.lit (.string ⟨#[]⟩), .lit (.bool false)]⟩:=⟨_,_,_,Try.type186,rfl,rfl,rfl,by kernel_rfl,by kernel_rfl,Try.underlying186,by kernel_rfl,⟨_,rfl,by kernel_rfl,by kernel_rfl,by kernel_rfl,by kernel_rfl,by kernel_rfl⟩⟩
theorem C3_:bC_ Try.prog cod T 188 ⟨4,40, .struct [(0,186),(2,4),(3,3)],[.lit (.string ⟨#[]⟩), .lit (.bool false), .lit (.bool false), .lit (.int .i64 0)]⟩:=⟨_,_,_,Try.type188,rfl,rfl,rfl,by kernel_rfl,by kernel_rfl,Try.underlying188,by kernel_rfl,⟨_,rfl,by kernel_rfl,by kernel_rfl,by kernel_rfl,by kernel_rfl,by kernel_rfl⟩⟩
theorem DX_:bC_ Try.prog cod T 191 ⟨3,32, .struct [(0,3),(1,186)],[.lit (.int .i64 0), .lit (.string ⟨#[]⟩), .lit (.bool false)]⟩:=⟨_,_,_,Try.type191,rfl,rfl,rfl,by kernel_rfl,by kernel_rfl,Try.underlying191,by kernel_rfl,⟨_,rfl,by kernel_rfl,by kernel_rfl,by kernel_rfl,by kernel_rfl,by kernel_rfl⟩⟩
theorem DY_:bC_ Try.prog cod T 198 ⟨3,32, .struct [(0,3),(1,9),(2,3)],[.lit (.int .i64 0), .lit (.string ⟨#[]⟩), .lit (.int .i64 0)]⟩:=⟨_,_,_,Try.type198,rfl,rfl,rfl,by kernel_rfl,by kernel_rfl,Try.underlying198,by kernel_rfl,⟨_,rfl,by kernel_rfl,by kernel_rfl,by kernel_rfl,by kernel_rfl,by kernel_rfl⟩⟩
theorem DW_:bC_ Try.prog cod T 214 ⟨1,4, .int .u32,[.lit (.int .u32 0)]⟩:=⟨_,_,_,Try.type214,rfl,rfl,rfl,by kernel_rfl,by kernel_rfl,Try.underlying214,by kernel_rfl,rfl⟩
theorem DF_:bC_ Try.prog cod T 218 ⟨1,8, .other,[.lit (.pointer none)]⟩:=⟨_,_,_,Try.type218,rfl,rfl,rfl,by kernel_rfl,by kernel_rfl,Try.underlying218,by kernel_rfl,trivial⟩
theorem rows:∀e∈tbl,bC_ Try.prog cod T e.1 e.2:=
  all_cons Fo_ (all_cons Fk_ (all_cons Fs_ (all_cons Fp_ (all_cons Fq_ (all_cons Eq_ (all_cons EQ_ (all_cons EK_ (all_cons EE_ (all_cons EM_ (all_cons EU_ (all_cons EA_ (all_cons EY_ (all_cons EI_ (all_cons EJ_ (all_cons EF_ (all_cons E4_ (all_cons EL_ (all_cons EN_ (all_cons Ej_ (all_cons E3_ (all_cons EV_ (all_cons Em_ (all_cons Ei_ (all_cons Ed_ (all_cons En_ (all_cons EG_ (all_cons EH_ (all_cons Ew_ (all_cons EZ_ (all_cons EX_ (all_cons Ee_ (all_cons Eo_ (all_cons D1_ (all_cons Dh_ (all_cons DZ_ (all_cons De_ (all_cons DR_ (all_cons C4_ (all_cons CY_ (all_cons DD_ (all_cons Df_ (all_cons Dy_ (all_cons Dz_ (all_cons Db_ (all_cons DE_ (all_cons Dv_ (all_cons Da_ (all_cons C0_ (all_cons C6_ (all_cons Dr_ (all_cons Dk_ (all_cons C3_ (all_cons DX_ (all_cons DY_ (all_cons DW_ (all_cons DF_ (ac_)))))))))))))))))))))))))))))))))))))))))))))))))))))))))
theorem tok:TOk Try.prog cod T:=TOk.of rows
theorem eok:EOk Try.prog cod T:=EOk.of rows
theorem aF_:Try.prog.follows .mixedOrders=true:=by kernel_rfl
end Km.X
namespace Km.X
open Go Km Go.Proofs
set_option linter.unusedVariables false
set_option linter.unusedSimpArgs false
set_option maxRecDepth 100000
theorem AK_ (x y:ag_) (h:x.Part.Text=y.Part.Text∧x.Part.Last=y.Part.Last∧x.Has=y.Has∧x.Since=y.Since):x=y:=by
  obtain ⟨⟨_,_⟩,_,_⟩:=x
  obtain ⟨⟨_,_⟩,_,_⟩:=y
  simp_all
theorem AR_ (x y:aj_) (h:x.Seq=y.Seq∧x.Part.Text=y.Part.Text∧x.Part.Last=y.Part.Last):x=y:=by
  obtain ⟨_,⟨_,_⟩⟩:=x
  obtain ⟨_,⟨_,_⟩⟩:=y
  simp_all
theorem CE_ {α:Type} {l:List α} (h:l.length=2):∃a0 a1,l=[a0,a1]:=by
  match l,h with
  | [a0,a1],_=>exact ⟨a0,a1,rfl⟩
theorem Ba_ {α:Type} {l:List α} (h:l.length=3):∃a0 a1 a2,l=[a0,a1,a2]:=by
  match l,h with
  | [a0,a1,a2],_=>exact ⟨a0,a1,a2,rfl⟩
theorem Bh_ {α:Type} {l:List α} (h:l.length=4):∃a0 a1 a2 a3,l=[a0,a1,a2,a3]:=by
  match l,h with
  | [a0,a1,a2,a3],_=>exact ⟨a0,a1,a2,a3,rfl⟩
theorem E0_ {α:Type} {l:List α} (h:l.length=5):∃a0 a1 a2 a3 a4,l=[a0,a1,a2,a3,a4]:=by
  match l,h with
  | [a0,a1,a2,a3,a4],_=>exact ⟨a0,a1,a2,a3,a4,rfl⟩
theorem Ep_ {α:Type} {l:List α} (h:l.length=9):∃a0 a1 a2 a3 a4 a5 a6 a7 a8,l=[a0,a1,a2,a3,a4,a5,a6,a7,a8]:=by
  match l,h with
  | [a0,a1,a2,a3,a4,a5,a6,a7,a8],_=>exact ⟨a0,a1,a2,a3,a4,a5,a6,a7,a8,rfl⟩
theorem DI_ {α:Type} {l:List α} (h:l.length=12):∃a0 a1 a2 a3 a4 a5 a6 a7 a8 a9 a10 a11,l=[a0,a1,a2,a3,a4,a5,a6,a7,a8,a9,a10,a11]:=by
  match l,h with
  | [a0,a1,a2,a3,a4,a5,a6,a7,a8,a9,a10,a11],_=>exact ⟨a0,a1,a2,a3,a4,a5,a6,a7,a8,a9,a10,a11,rfl⟩
theorem sh3 {n:Nat} {avs:List V} (h:aq_ cod T n 3 avs):∃x:Int,avs=[.lit (.int .i64 x)]∧(Lit.int .i64 x).wf=true:=by
  cases n with
  | zero=>exact h.elim
  | succ n=>
    exact h
theorem sh4 {n:Nat} {avs:List V} (h:aq_ cod T n 4 avs):∃x:Bool,avs=[.lit (.bool x)]∧True:=by
  cases n with
  | zero=>exact h.elim
  | succ n=>
    obtain ⟨b,h⟩:=(h:∃b,avs=[.lit (.bool b)])
    exact ⟨b,h,trivial⟩
theorem sh5 {n:Nat} {avs:List V} (h:aq_ cod T n 5 avs):∃x:Int,avs=[.lit (.int .u8 x)]∧(Lit.int .u8 x).wf=true:=by
  cases n with
  | zero=>exact h.elim
  | succ n=>
    exact h
theorem sh9 {n:Nat} {avs:List V} (h:aq_ cod T n 9 avs):∃x:ByteArray,avs=[.lit (.string x)]∧x.size≤maxLen:=by
  cases n with
  | zero=>exact h.elim
  | succ n=>
    exact h
theorem Dq_ {n:Nat} {avs:List V} (h:aq_ cod T n 186 avs):∃x:az_,avs=[.lit (.string x.Text), .lit (.bool x.Last)]∧sD_ x:=by
  cases n with
  | zero=>exact h.elim
  | succ n=>
    obtain ⟨hl,hf⟩:=(h:avs.length=2∧∀f∈([(0,9),(1,4)]:List (Nat×TypeId)),∃tf,T f.2=some tf∧aq_ cod T n f.2 ((avs.drop f.1).take tf.size))
    obtain ⟨a0,a1,rfl⟩:=CE_ hl
    obtain ⟨t0,ht0,g0⟩:=hf (0,9) (by simp)
    obtain rfl:=Option.some.inj ht0
    obtain ⟨x0,e0,w0⟩:=sh9 (show aq_ cod T n 9 [a0] from g0)
    simp only [List.cons.injEq,and_true] at e0
    obtain ⟨t1,ht1,g1⟩:=hf (1,4) (by simp)
    obtain rfl:=Option.some.inj ht1
    obtain ⟨x1,e1,w1⟩:=sh4 (show aq_ cod T n 4 [a1] from g1)
    simp only [List.cons.injEq,and_true] at e1
    obtain rfl:=e0
    obtain rfl:=e1
    exact ⟨⟨x0,x1⟩,rfl,w0,w1⟩
theorem Ev_ {n:Nat} {avs:List V} (h:aq_ cod T n 188 avs):∃x:ag_,avs=[.lit (.string x.Part.Text), .lit (.bool x.Part.Last), .lit (.bool x.Has), .lit (.int .i64 x.Since)]∧vA_ x:=by
  cases n with
  | zero=>exact h.elim
  | succ n=>
    obtain ⟨hl,hf⟩:=(h:avs.length=4∧∀f∈([(0,186),(2,4),(3,3)]:List (Nat×TypeId)),∃tf,T f.2=some tf∧aq_ cod T n f.2 ((avs.drop f.1).take tf.size))
    obtain ⟨a0,a1,a2,a3,rfl⟩:=Bh_ hl
    obtain ⟨t0,ht0,g0⟩:=hf (0,186) (by simp)
    obtain rfl:=Option.some.inj ht0
    obtain ⟨x0,e0,w0⟩:=Dq_ (show aq_ cod T n 186 [a0,a1] from g0)
    simp only [List.cons.injEq,and_true] at e0
    obtain ⟨t1,ht1,g1⟩:=hf (2,4) (by simp)
    obtain rfl:=Option.some.inj ht1
    obtain ⟨x1,e1,w1⟩:=sh4 (show aq_ cod T n 4 [a2] from g1)
    simp only [List.cons.injEq,and_true] at e1
    obtain ⟨t2,ht2,g2⟩:=hf (3,3) (by simp)
    obtain rfl:=Option.some.inj ht2
    obtain ⟨x2,e2,w2⟩:=sh3 (show aq_ cod T n 3 [a3] from g2)
    simp only [List.cons.injEq,and_true] at e2
    obtain ⟨rfl,rfl⟩:=e0
    obtain rfl:=e1
    obtain rfl:=e2
    exact ⟨⟨x0,x1,x2⟩,rfl,w0,w1,w2⟩
theorem ER_ {n:Nat} {avs:List V} (h:aq_ cod T n 191 avs):∃x:aj_,avs=[.lit (.int .i64 x.Seq), .lit (.string x.Part.Text), .lit (.bool x.Part.Last)]∧vK_ x:=by
  cases n with
  | zero=>exact h.elim
  | succ n=>
    obtain ⟨hl,hf⟩:=(h:avs.length=3∧∀f∈([(0,3),(1,186)]:List (Nat×TypeId)),∃tf,T f.2=some tf∧aq_ cod T n f.2 ((avs.drop f.1).take tf.size))
    obtain ⟨a0,a1,a2,rfl⟩:=Ba_ hl
    obtain ⟨t0,ht0,g0⟩:=hf (0,3) (by simp)
    obtain rfl:=Option.some.inj ht0
    obtain ⟨x0,e0,w0⟩:=sh3 (show aq_ cod T n 3 [a0] from g0)
    simp only [List.cons.injEq,and_true] at e0
    obtain ⟨t1,ht1,g1⟩:=hf (1,186) (by simp)
    obtain rfl:=Option.some.inj ht1
    obtain ⟨x1,e1,w1⟩:=Dq_ (show aq_ cod T n 186 [a1,a2] from g1)
    simp only [List.cons.injEq,and_true] at e1
    obtain rfl:=e0
    obtain ⟨rfl,rfl⟩:=e1
    exact ⟨⟨x0,x1⟩,rfl,w0,w1⟩
theorem Fi_ {n:Nat} {avs:List V} (h:aq_ cod T n 26 avs):∃x:List ByteArray,avs=[.inl false .str x]∧(x.length≤maxLen∧∀y∈x,BA_ y):=by
  cases n with
  | zero=>exact h.elim
  | succ n=>
    obtain ⟨xs,h1,h2,h3⟩:=(h:∃xs:List (TyK .str),avs=[.inl false .str xs]∧xs.length≤maxLen∧∀x∈xs,aq_ cod T n 9 (B5_ .str x))
    refine ⟨xs,h1,h2,fun y hy=> ?_⟩
    obtain ⟨z,hz,hw⟩:=sh9 (h3 y hy)
    have hz:([.lit (.string y)]:List V)=[.lit (.string z)]:=hz
    have:y=z:=by
      simp only [List.cons.injEq,AV.lit.injEq,AV.inl.injEq,Value.int.injEq,Value.string.injEq,Value.bool.injEq,true_and,and_true,heq_eq_eq] at hz
      exact hz
    subst this
    exact hw
theorem El_ {n:Nat} {avs:List V} (h:aq_ cod T n 93 avs):∃x:az_,avs=[.lit (.string x.Text), .lit (.bool x.Last)]∧sD_ x:=by
  cases n with
  | zero=>exact h.elim
  | succ n=>
    obtain ⟨hl,hf⟩:=(h:avs.length=2∧∀f∈([(0,9),(1,4)]:List (Nat×TypeId)),∃tf,T f.2=some tf∧aq_ cod T n f.2 ((avs.drop f.1).take tf.size))
    obtain ⟨a0,a1,rfl⟩:=CE_ hl
    obtain ⟨t0,ht0,g0⟩:=hf (0,9) (by simp)
    obtain rfl:=Option.some.inj ht0
    obtain ⟨x0,e0,w0⟩:=sh9 (show aq_ cod T n 9 [a0] from g0)
    simp only [List.cons.injEq,and_true] at e0
    obtain ⟨t1,ht1,g1⟩:=hf (1,4) (by simp)
    obtain rfl:=Option.some.inj ht1
    obtain ⟨x1,e1,w1⟩:=sh4 (show aq_ cod T n 4 [a1] from g1)
    simp only [List.cons.injEq,and_true] at e1
    obtain rfl:=e0
    obtain rfl:=e1
    exact ⟨⟨x0,x1⟩,rfl,w0,w1⟩
theorem DU_ {n:Nat} {avs:List V} (h:aq_ cod T n 136 avs):∃x:ag_,avs=[.lit (.string x.Part.Text), .lit (.bool x.Part.Last), .lit (.bool x.Has), .lit (.int .i64 x.Since)]∧vA_ x:=by
  cases n with
  | zero=>exact h.elim
  | succ n=>
    obtain ⟨hl,hf⟩:=(h:avs.length=4∧∀f∈([(0,93),(2,4),(3,3)]:List (Nat×TypeId)),∃tf,T f.2=some tf∧aq_ cod T n f.2 ((avs.drop f.1).take tf.size))
    obtain ⟨a0,a1,a2,a3,rfl⟩:=Bh_ hl
    obtain ⟨t0,ht0,g0⟩:=hf (0,93) (by simp)
    obtain rfl:=Option.some.inj ht0
    obtain ⟨x0,e0,w0⟩:=El_ (show aq_ cod T n 93 [a0,a1] from g0)
    simp only [List.cons.injEq,and_true] at e0
    obtain ⟨t1,ht1,g1⟩:=hf (2,4) (by simp)
    obtain rfl:=Option.some.inj ht1
    obtain ⟨x1,e1,w1⟩:=sh4 (show aq_ cod T n 4 [a2] from g1)
    simp only [List.cons.injEq,and_true] at e1
    obtain ⟨t2,ht2,g2⟩:=hf (3,3) (by simp)
    obtain rfl:=Option.some.inj ht2
    obtain ⟨x2,e2,w2⟩:=sh3 (show aq_ cod T n 3 [a3] from g2)
    simp only [List.cons.injEq,and_true] at e2
    obtain ⟨rfl,rfl⟩:=e0
    obtain rfl:=e1
    obtain rfl:=e2
    exact ⟨⟨x0,x1,x2⟩,rfl,w0,w1,w2⟩
theorem Fv_ {n:Nat} {avs:List V} (h:aq_ cod T n 35 avs):∃x:List ag_,avs=[.inl false .item x]∧(x.length≤maxLen∧∀y∈x,za_ y):=by
  cases n with
  | zero=>exact h.elim
  | succ n=>
    obtain ⟨xs,h1,h2,h3⟩:=(h:∃xs:List (TyK .item),avs=[.inl false .item xs]∧xs.length≤maxLen∧∀x∈xs,aq_ cod T n 136 (B5_ .item x))
    refine ⟨xs,h1,h2,fun y hy=> ?_⟩
    obtain ⟨z,hz,hw⟩:=DU_ (h3 y hy)
    have hz:([.lit (.string y.Part.Text), .lit (.bool y.Part.Last), .lit (.bool y.Has), .lit (.int .i64 y.Since)]:List V)=[.lit (.string z.Part.Text), .lit (.bool z.Part.Last), .lit (.bool z.Has), .lit (.int .i64 z.Since)]:=hz
    have:y=z:=by
      simp only [List.cons.injEq,AV.lit.injEq,AV.inl.injEq,Value.int.injEq,Value.string.injEq,Value.bool.injEq,true_and,and_true,heq_eq_eq] at hz
      exact AK_ y z hz
    subst this
    exact hw
theorem Fw_ {n:Nat} {avs:List V} (h:aq_ cod T n 37 avs):∃x:ak_,avs=[.lit (.int .i64 x.Base), .inl false .item x.Items]∧zO_ x:=by
  cases n with
  | zero=>exact h.elim
  | succ n=>
    obtain ⟨hl,hf⟩:=(h:avs.length=2∧∀f∈([(0,3),(1,35)]:List (Nat×TypeId)),∃tf,T f.2=some tf∧aq_ cod T n f.2 ((avs.drop f.1).take tf.size))
    obtain ⟨a0,a1,rfl⟩:=CE_ hl
    obtain ⟨t0,ht0,g0⟩:=hf (0,3) (by simp)
    obtain rfl:=Option.some.inj ht0
    obtain ⟨x0,e0,w0⟩:=sh3 (show aq_ cod T n 3 [a0] from g0)
    simp only [List.cons.injEq,and_true] at e0
    obtain ⟨t1,ht1,g1⟩:=hf (1,35) (by simp)
    obtain rfl:=Option.some.inj ht1
    obtain ⟨x1,e1,w1⟩:=Fv_ (show aq_ cod T n 35 [a1] from g1)
    simp only [List.cons.injEq,and_true] at e1
    obtain rfl:=e0
    obtain rfl:=e1
    exact ⟨⟨x0,x1⟩,rfl,w0,w1⟩
theorem C5_ {n:Nat} {avs:List V} (h:aq_ cod T n 155 avs):∃x:aj_,avs=[.lit (.int .i64 x.Seq), .lit (.string x.Part.Text), .lit (.bool x.Part.Last)]∧vK_ x:=by
  cases n with
  | zero=>exact h.elim
  | succ n=>
    obtain ⟨hl,hf⟩:=(h:avs.length=3∧∀f∈([(0,3),(1,93)]:List (Nat×TypeId)),∃tf,T f.2=some tf∧aq_ cod T n f.2 ((avs.drop f.1).take tf.size))
    obtain ⟨a0,a1,a2,rfl⟩:=Ba_ hl
    obtain ⟨t0,ht0,g0⟩:=hf (0,3) (by simp)
    obtain rfl:=Option.some.inj ht0
    obtain ⟨x0,e0,w0⟩:=sh3 (show aq_ cod T n 3 [a0] from g0)
    simp only [List.cons.injEq,and_true] at e0
    obtain ⟨t1,ht1,g1⟩:=hf (1,93) (by simp)
    obtain rfl:=Option.some.inj ht1
    obtain ⟨x1,e1,w1⟩:=El_ (show aq_ cod T n 93 [a1,a2] from g1)
    simp only [List.cons.injEq,and_true] at e1
    obtain rfl:=e0
    obtain ⟨rfl,rfl⟩:=e1
    exact ⟨⟨x0,x1⟩,rfl,w0,w1⟩
theorem Fn_ {n:Nat} {avs:List V} (h:aq_ cod T n 38 avs):∃x:List aj_,avs=[.inl false .held x]∧(x.length≤maxLen∧∀y∈x,yE_ y):=by
  cases n with
  | zero=>exact h.elim
  | succ n=>
    obtain ⟨xs,h1,h2,h3⟩:=(h:∃xs:List (TyK .held),avs=[.inl false .held xs]∧xs.length≤maxLen∧∀x∈xs,aq_ cod T n 155 (B5_ .held x))
    refine ⟨xs,h1,h2,fun y hy=> ?_⟩
    obtain ⟨z,hz,hw⟩:=C5_ (h3 y hy)
    have hz:([.lit (.int .i64 y.Seq), .lit (.string y.Part.Text), .lit (.bool y.Part.Last)]:List V)=[.lit (.int .i64 z.Seq), .lit (.string z.Part.Text), .lit (.bool z.Part.Last)]:=hz
    have:y=z:=by
      simp only [List.cons.injEq,AV.lit.injEq,AV.inl.injEq,Value.int.injEq,Value.string.injEq,Value.bool.injEq,true_and,and_true,heq_eq_eq] at hz
      exact AR_ y z hz
    subst this
    exact hw
theorem Fu_ {n:Nat} {avs:List V} (h:aq_ cod T n 40 avs):∃x:ai_,avs=[.lit (.int .i64 x.Next), .inl false .held x.Held, .lit (.string x.Open), .inl false .str x.Ready]∧yJ_ x:=by
  cases n with
  | zero=>exact h.elim
  | succ n=>
    obtain ⟨hl,hf⟩:=(h:avs.length=4∧∀f∈([(0,3),(1,38),(2,9),(3,26)]:List (Nat×TypeId)),∃tf,T f.2=some tf∧aq_ cod T n f.2 ((avs.drop f.1).take tf.size))
    obtain ⟨a0,a1,a2,a3,rfl⟩:=Bh_ hl
    obtain ⟨t0,ht0,g0⟩:=hf (0,3) (by simp)
    obtain rfl:=Option.some.inj ht0
    obtain ⟨x0,e0,w0⟩:=sh3 (show aq_ cod T n 3 [a0] from g0)
    simp only [List.cons.injEq,and_true] at e0
    obtain ⟨t1,ht1,g1⟩:=hf (1,38) (by simp)
    obtain rfl:=Option.some.inj ht1
    obtain ⟨x1,e1,w1⟩:=Fn_ (show aq_ cod T n 38 [a1] from g1)
    simp only [List.cons.injEq,and_true] at e1
    obtain ⟨t2,ht2,g2⟩:=hf (2,9) (by simp)
    obtain rfl:=Option.some.inj ht2
    obtain ⟨x2,e2,w2⟩:=sh9 (show aq_ cod T n 9 [a2] from g2)
    simp only [List.cons.injEq,and_true] at e2
    obtain ⟨t3,ht3,g3⟩:=hf (3,26) (by simp)
    obtain rfl:=Option.some.inj ht3
    obtain ⟨x3,e3,w3⟩:=Fi_ (show aq_ cod T n 26 [a3] from g3)
    simp only [List.cons.injEq,and_true] at e3
    obtain rfl:=e0
    obtain rfl:=e1
    obtain rfl:=e2
    obtain rfl:=e3
    exact ⟨⟨x0,x1,x2,x3⟩,rfl,w0,w1,w2,w3⟩
theorem Fz_ {n:Nat} {avs:List V} (h:aq_ cod T n 42 avs):∃x:am_,avs=[.lit (.int .i64 x.Number), .lit (.bool x.Up), .lit (.int .i64 x.Life), .lit (.int .i64 x.Peer), .lit (.int .i64 x.Since), .lit (.bool x.Owes), .lit (.int .i64 x.Send.Base), .inl false .item x.Send.Items, .lit (.int .i64 x.Take.Next), .inl false .held x.Take.Held, .lit (.string x.Take.Open), .inl false .str x.Take.Ready]∧DJ_ x:=by
  cases n with
  | zero=>exact h.elim
  | succ n=>
    obtain ⟨hl,hf⟩:=(h:avs.length=12∧∀f∈([(0,3),(1,4),(2,3),(3,3),(4,3),(5,4),(6,37),(8,40)]:List (Nat×TypeId)),∃tf,T f.2=some tf∧aq_ cod T n f.2 ((avs.drop f.1).take tf.size))
    obtain ⟨a0,a1,a2,a3,a4,a5,a6,a7,a8,a9,a10,a11,rfl⟩:=DI_ hl
    obtain ⟨t0,ht0,g0⟩:=hf (0,3) (by simp)
    obtain rfl:=Option.some.inj ht0
    obtain ⟨x0,e0,w0⟩:=sh3 (show aq_ cod T n 3 [a0] from g0)
    simp only [List.cons.injEq,and_true] at e0
    obtain ⟨t1,ht1,g1⟩:=hf (1,4) (by simp)
    obtain rfl:=Option.some.inj ht1
    obtain ⟨x1,e1,w1⟩:=sh4 (show aq_ cod T n 4 [a1] from g1)
    simp only [List.cons.injEq,and_true] at e1
    obtain ⟨t2,ht2,g2⟩:=hf (2,3) (by simp)
    obtain rfl:=Option.some.inj ht2
    obtain ⟨x2,e2,w2⟩:=sh3 (show aq_ cod T n 3 [a2] from g2)
    simp only [List.cons.injEq,and_true] at e2
    obtain ⟨t3,ht3,g3⟩:=hf (3,3) (by simp)
    obtain rfl:=Option.some.inj ht3
    obtain ⟨x3,e3,w3⟩:=sh3 (show aq_ cod T n 3 [a3] from g3)
    simp only [List.cons.injEq,and_true] at e3
    obtain ⟨t4,ht4,g4⟩:=hf (4,3) (by simp)
    obtain rfl:=Option.some.inj ht4
    obtain ⟨x4,e4,w4⟩:=sh3 (show aq_ cod T n 3 [a4] from g4)
    simp only [List.cons.injEq,and_true] at e4
    obtain ⟨t5,ht5,g5⟩:=hf (5,4) (by simp)
    obtain rfl:=Option.some.inj ht5
    obtain ⟨x5,e5,w5⟩:=sh4 (show aq_ cod T n 4 [a5] from g5)
    simp only [List.cons.injEq,and_true] at e5
    obtain ⟨t6,ht6,g6⟩:=hf (6,37) (by simp)
    obtain rfl:=Option.some.inj ht6
    obtain ⟨x6,e6,w6⟩:=Fw_ (show aq_ cod T n 37 [a6,a7] from g6)
    simp only [List.cons.injEq,and_true] at e6
    obtain ⟨t7,ht7,g7⟩:=hf (8,40) (by simp)
    obtain rfl:=Option.some.inj ht7
    obtain ⟨x7,e7,w7⟩:=Fu_ (show aq_ cod T n 40 [a8,a9,a10,a11] from g7)
    simp only [List.cons.injEq,and_true] at e7
    obtain rfl:=e0
    obtain rfl:=e1
    obtain rfl:=e2
    obtain rfl:=e3
    obtain rfl:=e4
    obtain rfl:=e5
    obtain ⟨rfl,rfl⟩:=e6
    obtain ⟨rfl,rfl,rfl,rfl⟩:=e7
    exact ⟨⟨x0,x1,x2,x3,x4,x5,x6,x7⟩,rfl,w0,w1,w2,w3,w4,w5,w6,w7⟩
theorem Fm_ {n:Nat} {avs:List V} (h:aq_ cod T n 48 avs):∃x:ae_,avs=[.lit (.int .i64 x.Kind), .lit (.int .i64 x.From), .lit (.int .i64 x.Mine), .lit (.int .i64 x.Yours), .lit (.int .i64 x.Next), .lit (.int .i64 x.Mask), .lit (.int .i64 x.Seq), .lit (.bool x.Last), .lit (.string x.Part)]∧ys_ x:=by
  cases n with
  | zero=>exact h.elim
  | succ n=>
    obtain ⟨hl,hf⟩:=(h:avs.length=9∧∀f∈([(0,3),(1,3),(2,3),(3,3),(4,3),(5,3),(6,3),(7,4),(8,9)]:List (Nat×TypeId)),∃tf,T f.2=some tf∧aq_ cod T n f.2 ((avs.drop f.1).take tf.size))
    obtain ⟨a0,a1,a2,a3,a4,a5,a6,a7,a8,rfl⟩:=Ep_ hl
    obtain ⟨t0,ht0,g0⟩:=hf (0,3) (by simp)
    obtain rfl:=Option.some.inj ht0
    obtain ⟨x0,e0,w0⟩:=sh3 (show aq_ cod T n 3 [a0] from g0)
    simp only [List.cons.injEq,and_true] at e0
    obtain ⟨t1,ht1,g1⟩:=hf (1,3) (by simp)
    obtain rfl:=Option.some.inj ht1
    obtain ⟨x1,e1,w1⟩:=sh3 (show aq_ cod T n 3 [a1] from g1)
    simp only [List.cons.injEq,and_true] at e1
    obtain ⟨t2,ht2,g2⟩:=hf (2,3) (by simp)
    obtain rfl:=Option.some.inj ht2
    obtain ⟨x2,e2,w2⟩:=sh3 (show aq_ cod T n 3 [a2] from g2)
    simp only [List.cons.injEq,and_true] at e2
    obtain ⟨t3,ht3,g3⟩:=hf (3,3) (by simp)
    obtain rfl:=Option.some.inj ht3
    obtain ⟨x3,e3,w3⟩:=sh3 (show aq_ cod T n 3 [a3] from g3)
    simp only [List.cons.injEq,and_true] at e3
    obtain ⟨t4,ht4,g4⟩:=hf (4,3) (by simp)
    obtain rfl:=Option.some.inj ht4
    obtain ⟨x4,e4,w4⟩:=sh3 (show aq_ cod T n 3 [a4] from g4)
    simp only [List.cons.injEq,and_true] at e4
    obtain ⟨t5,ht5,g5⟩:=hf (5,3) (by simp)
    obtain rfl:=Option.some.inj ht5
    obtain ⟨x5,e5,w5⟩:=sh3 (show aq_ cod T n 3 [a5] from g5)
    simp only [List.cons.injEq,and_true] at e5
    obtain ⟨t6,ht6,g6⟩:=hf (6,3) (by simp)
    obtain rfl:=Option.some.inj ht6
    obtain ⟨x6,e6,w6⟩:=sh3 (show aq_ cod T n 3 [a6] from g6)
    simp only [List.cons.injEq,and_true] at e6
    obtain ⟨t7,ht7,g7⟩:=hf (7,4) (by simp)
    obtain rfl:=Option.some.inj ht7
    obtain ⟨x7,e7,w7⟩:=sh4 (show aq_ cod T n 4 [a7] from g7)
    simp only [List.cons.injEq,and_true] at e7
    obtain ⟨t8,ht8,g8⟩:=hf (8,9) (by simp)
    obtain rfl:=Option.some.inj ht8
    obtain ⟨x8,e8,w8⟩:=sh9 (show aq_ cod T n 9 [a8] from g8)
    simp only [List.cons.injEq,and_true] at e8
    obtain rfl:=e0
    obtain rfl:=e1
    obtain rfl:=e2
    obtain rfl:=e3
    obtain rfl:=e4
    obtain rfl:=e5
    obtain rfl:=e6
    obtain rfl:=e7
    obtain rfl:=e8
    exact ⟨⟨x0,x1,x2,x3,x4,x5,x6,x7,x8⟩,rfl,w0,w1,w2,w3,w4,w5,w6,w7,w8⟩
theorem sh55 {n:Nat} {avs:List V} (h:aq_ cod T n 55 avs):∃x:List Int,avs=[.inl false .byte x]∧(x.length≤maxLen∧∀y∈x,me_ y):=by
  cases n with
  | zero=>exact h.elim
  | succ n=>
    obtain ⟨xs,h1,h2,h3⟩:=(h:∃xs:List (TyK .byte),avs=[.inl false .byte xs]∧xs.length≤maxLen∧∀x∈xs,aq_ cod T n 5 (B5_ .byte x))
    refine ⟨xs,h1,h2,fun y hy=> ?_⟩
    obtain ⟨z,hz,hw⟩:=sh5 (h3 y hy)
    have hz:([.lit (.int .u8 y)]:List V)=[.lit (.int .u8 z)]:=hz
    have:y=z:=by
      simp only [List.cons.injEq,AV.lit.injEq,AV.inl.injEq,Value.int.injEq,Value.string.injEq,Value.bool.injEq,true_and,and_true,heq_eq_eq] at hz
      exact hz
    subst this
    exact hw
theorem FE_ {n:Nat} {avs:List V} (h:aq_ cod T n 68 avs):∃x:ad_,avs=[.lit (.int .i64 x.To), .lit (.string x.Sent), .lit (.string x.Bytes)]∧zX_ x:=by
  cases n with
  | zero=>exact h.elim
  | succ n=>
    obtain ⟨hl,hf⟩:=(h:avs.length=3∧∀f∈([(0,3),(1,9),(2,9)]:List (Nat×TypeId)),∃tf,T f.2=some tf∧aq_ cod T n f.2 ((avs.drop f.1).take tf.size))
    obtain ⟨a0,a1,a2,rfl⟩:=Ba_ hl
    obtain ⟨t0,ht0,g0⟩:=hf (0,3) (by simp)
    obtain rfl:=Option.some.inj ht0
    obtain ⟨x0,e0,w0⟩:=sh3 (show aq_ cod T n 3 [a0] from g0)
    simp only [List.cons.injEq,and_true] at e0
    obtain ⟨t1,ht1,g1⟩:=hf (1,9) (by simp)
    obtain rfl:=Option.some.inj ht1
    obtain ⟨x1,e1,w1⟩:=sh9 (show aq_ cod T n 9 [a1] from g1)
    simp only [List.cons.injEq,and_true] at e1
    obtain ⟨t2,ht2,g2⟩:=hf (2,9) (by simp)
    obtain rfl:=Option.some.inj ht2
    obtain ⟨x2,e2,w2⟩:=sh9 (show aq_ cod T n 9 [a2] from g2)
    simp only [List.cons.injEq,and_true] at e2
    obtain rfl:=e0
    obtain rfl:=e1
    obtain rfl:=e2
    exact ⟨⟨x0,x1,x2⟩,rfl,w0,w1,w2⟩
theorem FB_ {n:Nat} {avs:List V} (h:aq_ cod T n 64 avs):∃x:aa_,avs=[.lit (.int .i64 x.From), .lit (.int .i64 x.A), .lit (.int .i64 x.B), .lit (.string x.Text)]∧zK_ x:=by
  cases n with
  | zero=>exact h.elim
  | succ n=>
    obtain ⟨hl,hf⟩:=(h:avs.length=4∧∀f∈([(0,3),(1,3),(2,3),(3,9)]:List (Nat×TypeId)),∃tf,T f.2=some tf∧aq_ cod T n f.2 ((avs.drop f.1).take tf.size))
    obtain ⟨a0,a1,a2,a3,rfl⟩:=Bh_ hl
    obtain ⟨t0,ht0,g0⟩:=hf (0,3) (by simp)
    obtain rfl:=Option.some.inj ht0
    obtain ⟨x0,e0,w0⟩:=sh3 (show aq_ cod T n 3 [a0] from g0)
    simp only [List.cons.injEq,and_true] at e0
    obtain ⟨t1,ht1,g1⟩:=hf (1,3) (by simp)
    obtain rfl:=Option.some.inj ht1
    obtain ⟨x1,e1,w1⟩:=sh3 (show aq_ cod T n 3 [a1] from g1)
    simp only [List.cons.injEq,and_true] at e1
    obtain ⟨t2,ht2,g2⟩:=hf (2,3) (by simp)
    obtain rfl:=Option.some.inj ht2
    obtain ⟨x2,e2,w2⟩:=sh3 (show aq_ cod T n 3 [a2] from g2)
    simp only [List.cons.injEq,and_true] at e2
    obtain ⟨t3,ht3,g3⟩:=hf (3,9) (by simp)
    obtain rfl:=Option.some.inj ht3
    obtain ⟨x3,e3,w3⟩:=sh9 (show aq_ cod T n 9 [a3] from g3)
    simp only [List.cons.injEq,and_true] at e3
    obtain rfl:=e0
    obtain rfl:=e1
    obtain rfl:=e2
    obtain rfl:=e3
    exact ⟨⟨x0,x1,x2,x3⟩,rfl,w0,w1,w2,w3⟩
theorem Fl_ {n:Nat} {avs:List V} (h:aq_ cod T n 71 avs):∃x:aT_,avs=[.lit (.int .i64 x.Kind), .lit (.int .i64 x.A), .lit (.int .i64 x.B), .lit (.int .i64 x.C), .lit (.string x.Text)]∧A1_ x:=by
  cases n with
  | zero=>exact h.elim
  | succ n=>
    obtain ⟨hl,hf⟩:=(h:avs.length=5∧∀f∈([(0,3),(1,3),(2,3),(3,3),(4,9)]:List (Nat×TypeId)),∃tf,T f.2=some tf∧aq_ cod T n f.2 ((avs.drop f.1).take tf.size))
    obtain ⟨a0,a1,a2,a3,a4,rfl⟩:=E0_ hl
    obtain ⟨t0,ht0,g0⟩:=hf (0,3) (by simp)
    obtain rfl:=Option.some.inj ht0
    obtain ⟨x0,e0,w0⟩:=sh3 (show aq_ cod T n 3 [a0] from g0)
    simp only [List.cons.injEq,and_true] at e0
    obtain ⟨t1,ht1,g1⟩:=hf (1,3) (by simp)
    obtain rfl:=Option.some.inj ht1
    obtain ⟨x1,e1,w1⟩:=sh3 (show aq_ cod T n 3 [a1] from g1)
    simp only [List.cons.injEq,and_true] at e1
    obtain ⟨t2,ht2,g2⟩:=hf (2,3) (by simp)
    obtain rfl:=Option.some.inj ht2
    obtain ⟨x2,e2,w2⟩:=sh3 (show aq_ cod T n 3 [a2] from g2)
    simp only [List.cons.injEq,and_true] at e2
    obtain ⟨t3,ht3,g3⟩:=hf (3,3) (by simp)
    obtain rfl:=Option.some.inj ht3
    obtain ⟨x3,e3,w3⟩:=sh3 (show aq_ cod T n 3 [a3] from g3)
    simp only [List.cons.injEq,and_true] at e3
    obtain ⟨t4,ht4,g4⟩:=hf (4,9) (by simp)
    obtain rfl:=Option.some.inj ht4
    obtain ⟨x4,e4,w4⟩:=sh9 (show aq_ cod T n 9 [a4] from g4)
    simp only [List.cons.injEq,and_true] at e4
    obtain rfl:=e0
    obtain rfl:=e1
    obtain rfl:=e2
    obtain rfl:=e3
    obtain rfl:=e4
    exact ⟨⟨x0,x1,x2,x3,x4⟩,rfl,w0,w1,w2,w3,w4⟩
theorem ES_ {n:Nat} {avs:List V} (h:aq_ cod T n 198 avs):∃x:aJ_,avs=[.lit (.int .i64 x.to), .lit (.string x.bytes), .lit (.int .i64 x.n)]∧xD_ x:=by
  cases n with
  | zero=>exact h.elim
  | succ n=>
    obtain ⟨hl,hf⟩:=(h:avs.length=3∧∀f∈([(0,3),(1,9),(2,3)]:List (Nat×TypeId)),∃tf,T f.2=some tf∧aq_ cod T n f.2 ((avs.drop f.1).take tf.size))
    obtain ⟨a0,a1,a2,rfl⟩:=Ba_ hl
    obtain ⟨t0,ht0,g0⟩:=hf (0,3) (by simp)
    obtain rfl:=Option.some.inj ht0
    obtain ⟨x0,e0,w0⟩:=sh3 (show aq_ cod T n 3 [a0] from g0)
    simp only [List.cons.injEq,and_true] at e0
    obtain ⟨t1,ht1,g1⟩:=hf (1,9) (by simp)
    obtain rfl:=Option.some.inj ht1
    obtain ⟨x1,e1,w1⟩:=sh9 (show aq_ cod T n 9 [a1] from g1)
    simp only [List.cons.injEq,and_true] at e1
    obtain ⟨t2,ht2,g2⟩:=hf (2,3) (by simp)
    obtain rfl:=Option.some.inj ht2
    obtain ⟨x2,e2,w2⟩:=sh3 (show aq_ cod T n 3 [a2] from g2)
    simp only [List.cons.injEq,and_true] at e2
    obtain rfl:=e0
    obtain rfl:=e1
    obtain rfl:=e2
    exact ⟨⟨x0,x1,x2⟩,rfl,w0,w1,w2⟩
def BL_ (e:Nat×TI K TyK):Prop:=∀e2 s n avs,e.2.shp= .slice e2 s→cod.bor s=false→aq_ cod T n e2 avs→∃x,cod.enc s x=avs
theorem Bj_:∀e∈tbl,BL_ e:=
  all_cons (fun e s n avs h hb=>by cases h) (
  all_cons (fun e s n avs h hb=>by cases h) (
  all_cons (fun e s n avs h hb=>by cases h) (
  all_cons (fun e s n avs h hb=>by cases h) (
  all_cons (fun e s n avs h hb=>by cases h) (
  all_cons (fun e s n avs h hb=>by cases h) (
  all_cons (fun e s n avs h hb=>by cases h) (
  all_cons (fun e s n avs h hb hs=>by cases h;obtain ⟨x,hx,_⟩:=Ev_ hs;exact ⟨x,hx.symm⟩) (
  all_cons (fun e s n avs h hb=>by cases h) (
  all_cons (fun e s n avs h hb hs=>by cases h;obtain ⟨x,hx,_⟩:=ER_ hs;exact ⟨x,hx.symm⟩) (
  all_cons (fun e s n avs h hb hs=>by cases h;obtain ⟨x,hx,_⟩:=sh9 hs;exact ⟨x,hx.symm⟩) (
  all_cons (fun e s n avs h hb=>by cases h) (
  all_cons (fun e s n avs h hb=>by cases h) (
  all_cons (fun e s n avs h hb=>by cases h) (
  all_cons (fun e s n avs h hb hs=>by cases h;obtain ⟨x,hx,_⟩:=DU_ hs;exact ⟨x,hx.symm⟩) (
  all_cons (fun e s n avs h hb=>by cases h) (
  all_cons (fun e s n avs h hb hs=>by cases h;obtain ⟨x,hx,_⟩:=C5_ hs;exact ⟨x,hx.symm⟩) (
  all_cons (fun e s n avs h hb=>by cases h) (
  all_cons (fun e s n avs h hb=>by cases h) (
  all_cons (fun e s n avs h hb hs=>by cases h;obtain ⟨x,hx,_⟩:=Fm_ hs;exact ⟨x,hx.symm⟩) (
  all_cons (fun e s n avs h hb=>by cases h) (
  all_cons (fun e s n avs h hb=>by cases h) (
  all_cons (fun e s n avs h hb hs=>by cases h;obtain ⟨x,hx,_⟩:=sh5 hs;exact ⟨x,hx.symm⟩) (
  all_cons (fun e s n avs h hb hs=>by cases h;obtain ⟨x,hx,_⟩:=Fz_ hs;exact ⟨x,hx.symm⟩) (
  all_cons (fun e s n avs h hb hs=>by cases h;obtain ⟨x,hx,_⟩:=FE_ hs;exact ⟨x,hx.symm⟩) (
  all_cons (fun e s n avs h hb hs=>by cases h;obtain ⟨x,hx,_⟩:=FB_ hs;exact ⟨x,hx.symm⟩) (
  all_cons (fun e s n avs h hb=>by cases h) (
  all_cons (fun e s n avs h hb=>by cases h) (
  all_cons (fun e s n avs h hb=>by cases h) (
  all_cons (fun e s n avs h hb=>by cases h) (
  all_cons (fun e s n avs h hb hs=>by cases h;obtain ⟨x,hx,_⟩:=Fl_ hs;exact ⟨x,hx.symm⟩) (
  all_cons (fun e s n avs h hb=>by cases h) (
  all_cons (fun e s n avs h hb=>by cases h) (
  all_cons (fun e s n avs h hb=>by cases h) (
  all_cons (fun e s n avs h hb=>by cases h) (
  all_cons (fun e s n avs h hb=>by cases h) (
  all_cons (fun e s n avs h hb=>by cases h) (
  all_cons (fun e s n avs h hb=>by cases h;cases hb) (
  all_cons (fun e s n avs h hb=>by cases h) (
  all_cons (fun e s n avs h hb=>by cases h) (
  all_cons (fun e s n avs h hb hs=>by cases h;obtain ⟨x,hx,_⟩:=sh3 hs;exact ⟨x,hx.symm⟩) (
  all_cons (fun e s n avs h hb=>by cases h) (
  all_cons (fun e s n avs h hb=>by cases h) (
  all_cons (fun e s n avs h hb=>by cases h) (
  all_cons (fun e s n avs h hb hs=>by cases h;obtain ⟨x,hx,_⟩:=ES_ hs;exact ⟨x,hx.symm⟩) (
  all_cons (fun e s n avs h hb=>by cases h) (
  all_cons (fun e s n avs h hb=>by cases h) (
  all_cons (fun e s n avs h hb=>by cases h) (
  all_cons (fun e s n avs h hb=>by cases h) (
  all_cons (fun e s n avs h hb=>by cases h) (
  all_cons (fun e s n avs h hb hs=>by cases h;obtain ⟨x,hx,_⟩:=El_ hs;exact ⟨x,hx.symm⟩) (
  all_cons (fun e s n avs h hb=>by cases h) (
  all_cons (fun e s n avs h hb=>by cases h) (
  all_cons (fun e s n avs h hb=>by cases h) (
  all_cons (fun e s n avs h hb=>by cases h) (
  all_cons (fun e s n avs h hb=>by cases h) (
  all_cons (fun e s n avs h hb=>by cases h) (ac_)))))))))))))))))))))))))))))))))))))))))))))))))))))))))
theorem fullC:FullC cod T:=FullC.of (by kernel_rfl) (fun e he=>Bj_ e he) (fun s=>by cases s<;>decide) trivial
end Km.X
