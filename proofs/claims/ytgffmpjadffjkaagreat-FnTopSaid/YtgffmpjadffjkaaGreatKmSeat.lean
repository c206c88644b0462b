/- A part of the proof of FnTop: the program's types as data. There is no condition. -/
import Derived.Test.YtgffmpjadffjkaaGreatKxDef1
import Derived.Test.YtgffmpjadffjkaaGreatKmAm3
import Derived.Test.YtgffmpjadffjkaaGreatProg
namespace Km.X
open Go Km
set_option linter.unusedVariables false
inductive K | byte | int | str | end | parcel | record | event | item | held | packet | pair | lstr | l7count | key | lrecord | part
abbrev TyK:K→Type
  | .byte=>Int
  | .int=>Int
  | .str=>ByteArray
  | .end=>an_
  | .parcel=>ad_
  | .record=>aa_
  | .event=>as_
  | .item=>ag_
  | .held=>ak_
  | .packet=>ae_
  | .pair=>DPair
  | .lstr=>List ByteArray
  | .l7count=>sZ_
  | .key=>DKey
  | .lrecord=>List aa_
  | .part=>aA_
abbrev V:=AV K TyK
def kno:K→Nat
  | .byte=>0
  | .int=>1
  | .str=>2
  | .end=>3
  | .parcel=>4
  | .record=>5
  | .event=>6
  | .item=>7
  | .held=>8
  | .packet=>9
  | .pair=>10
  | .lstr=>11
  | .l7count=>12
  | .key=>13
  | .lrecord=>14
  | .part=>15
def Dt_:(s t:K)→List (TyK s)→Option (List (TyK t))
  | .byte, .byte,xs=>some xs
  | .int, .int,xs=>some xs
  | .str, .str,xs=>some xs
  | .end, .end,xs=>some xs
  | .parcel, .parcel,xs=>some xs
  | .record, .record,xs=>some xs
  | .event, .event,xs=>some xs
  | .item, .item,xs=>some xs
  | .held, .held,xs=>some xs
  | .packet, .packet,xs=>some xs
  | .pair, .pair,xs=>some xs
  | .lstr, .lstr,xs=>some xs
  | .l7count, .l7count,xs=>some xs
  | .key, .key,xs=>some xs
  | .lrecord, .lrecord,xs=>some xs
  | .part, .part,xs=>some xs
  | _,_,_=>none
def ksz:K→Nat
  | .byte=>1
  | .int=>1
  | .str=>1
  | .end=>12
  | .parcel=>3
  | .record=>4
  | .event=>5
  | .item=>4
  | .held=>3
  | .packet=>9
  | .pair=>3
  | .lstr=>1
  | .l7count=>3
  | .key=>2
  | .lrecord=>1
  | .part=>2
def kby:K→Nat
  | .byte=>1
  | .int=>8
  | .str=>16
  | .end=>152
  | .parcel=>40
  | .record=>40
  | .event=>48
  | .item=>40
  | .held=>32
  | .packet=>80
  | .pair=>8
  | .lstr=>8
  | .l7count=>32
  | .key=>8
  | .lrecord=>24
  | .part=>24
def BG_:(t:K)→TyK t→List V
  | .byte,x=>[.lit (.int .u8 x)]
  | .int,x=>[.lit (.int .i64 x)]
  | .str,x=>[.lit (.string x)]
  | .end,x=>[.lit (.int .i64 x.Number), .lit (.bool x.Up), .lit (.int .i64 x.Life), .lit (.int .i64 x.Peer), .lit (.int .i64 x.Since), .lit (.bool x.Owes), .lit (.int .i64 x.Send.Base), .inl false .item x.Send.Items, .lit (.int .i64 x.Take.Next), .inl false .held x.Take.Held, .lit (.string x.Take.Open), .inl false .str x.Take.Ready]
  | .parcel,x=>[.lit (.int .i64 x.To), .lit (.string x.Sent), .lit (.string x.Bytes)]
  | .record,x=>[.lit (.int .i64 x.From), .lit (.int .i64 x.A), .lit (.int .i64 x.B), .lit (.string x.Text)]
  | .event,x=>[.lit (.int .i64 x.Kind), .lit (.int .i64 x.A), .lit (.int .i64 x.B), .lit (.int .i64 x.C), .lit (.string x.Text)]
  | .item,x=>[.lit (.string x.Part.Text), .lit (.bool x.Part.Last), .lit (.bool x.Has), .lit (.int .i64 x.Since)]
  | .held,x=>[.lit (.int .i64 x.Seq), .lit (.string x.Part.Text), .lit (.bool x.Part.Last)]
  | .packet,x=>[.lit (.int .i64 x.Kind), .lit (.int .i64 x.From), .lit (.int .i64 x.Mine), .lit (.int .i64 x.Yours), .lit (.int .i64 x.Next), .lit (.int .i64 x.Mask), .lit (.int .i64 x.Seq), .lit (.bool x.Last), .lit (.string x.Part)]
  | .pair,x=>[.lit (.int .i64 x.f), .lit (.int .i64 x.a), .lit (.int .i64 x.b)]
  | .lstr,x=>[.inl false .str x]
  | .l7count,x=>[.lit (.int .i64 x.to), .lit (.string x.bytes), .lit (.int .i64 x.n)]
  | .key,x=>[.lit (.int .i64 x.to), .lit (.string x.bytes)]
  | .lrecord,x=>[.inl true .record x]
  | .part,x=>[.lit (.string x.Text), .lit (.bool x.Last)]
def FV_:(t:K)→List V→Option (TyK t)
  | .byte,[.lit (.int .u8 v1)]=>some v1
  | .int,[.lit (.int .i64 v1)]=>some v1
  | .str,[.lit (.string v1)]=>some v1
  | .end,[.lit (.int .i64 v1), .lit (.bool v2), .lit (.int .i64 v3), .lit (.int .i64 v4), .lit (.int .i64 v5), .lit (.bool v6), .lit (.int .i64 v7), .inl false .item v8, .lit (.int .i64 v9), .inl false .held v10, .lit (.string v11), .inl false .str v12]=>some ⟨v1,v2,v3,v4,v5,v6,⟨v7,v8⟩,⟨v9,v10,v11,v12⟩⟩
  | .parcel,[.lit (.int .i64 v1), .lit (.string v2), .lit (.string v3)]=>some ⟨v1,v2,v3⟩
  | .record,[.lit (.int .i64 v1), .lit (.int .i64 v2), .lit (.int .i64 v3), .lit (.string v4)]=>some ⟨v1,v2,v3,v4⟩
  | .event,[.lit (.int .i64 v1), .lit (.int .i64 v2), .lit (.int .i64 v3), .lit (.int .i64 v4), .lit (.string v5)]=>some ⟨v1,v2,v3,v4,v5⟩
  | .item,[.lit (.string v1), .lit (.bool v2), .lit (.bool v3), .lit (.int .i64 v4)]=>some ⟨⟨v1,v2⟩,v3,v4⟩
  | .held,[.lit (.int .i64 v1), .lit (.string v2), .lit (.bool v3)]=>some ⟨v1,⟨v2,v3⟩⟩
  | .packet,[.lit (.int .i64 v1), .lit (.int .i64 v2), .lit (.int .i64 v3), .lit (.int .i64 v4), .lit (.int .i64 v5), .lit (.int .i64 v6), .lit (.int .i64 v7), .lit (.bool v8), .lit (.string v9)]=>some ⟨v1,v2,v3,v4,v5,v6,v7,v8,v9⟩
  | .pair,[.lit (.int .i64 v1), .lit (.int .i64 v2), .lit (.int .i64 v3)]=>some ⟨v1,v2,v3⟩
  | .lstr,[.inl false .str v1]=>some v1
  | .l7count,[.lit (.int .i64 v1), .lit (.string v2), .lit (.int .i64 v3)]=>some ⟨v1,v2,v3⟩
  | .key,[.lit (.int .i64 v1), .lit (.string v2)]=>some ⟨v1,v2⟩
  | .lrecord,[.inl true .record v1]=>some v1
  | .part,[.lit (.string v1), .lit (.bool v2)]=>some ⟨v1,v2⟩
  | _,_=>none
def Ah_:(t:K)→List (TyK t)→Option (List Int)
  | .byte,xs=>some xs
  | _,_=>none
def Fx_:(t:K)→ByteArray→Option (List (TyK t))
  | .byte,b=>some (bY_ b)
  | _,_=>none
def Fq_:(k:K)→TyK k→TyK k→Bool
  | .pair,x,y=>a7_ x y
  | .key,x,y=>eT_ x y
  | _,_,_=>false
def AA_:(k v k' v':K)→List (TyK k×TyK v)→Option (List (TyK k'×TyK v'))
  | .key, .int, .key, .int,xs=>some xs
  | .pair, .int, .pair, .int,xs=>some xs
  | .pair, .lstr, .pair, .lstr,xs=>some xs
  | _,_,_,_,_=>none
def Gy_:K→Bool
  | .lrecord=>true
  | _=>false
def cod:Cod K TyK where
  same s t:=Nat.beq (kno s) (kno t)
  cast:=Dt_
  sz:=ksz
  by':=kby
  bor:=Gy_
  enc:=BG_
  dec:=FV_
  bytes:=Ah_
  ofb:=Fx_
  keq:=Fq_
  mcast:=AA_
theorem codOk:a4_ cod where
  same s t h:=by have:=Nat.eq_of_beq_eq_true h;cases s<;>cases t<;>first | rfl | (simp [kno] at this)
  len t x:=by cases t<;>rfl
  dec t cs x h:=by
    change FV_ t cs=some x at h
    unfold FV_ at h
    split at h<;>first | (cases h;rfl) | cases h
  deep t x c h:=by
    change c∈BG_ t x at h
    cases t<;>simp only [BG_,List.mem_cons,List.not_mem_nil,or_false] at h<;>(repeat' (rcases h with h | h))<;>first | exact .inl ⟨_,rfl⟩ | exact .inr ⟨_,_,rfl,fun e=>by cases e⟩
  cast s t xs ys h:=by
    change Dt_ s t xs=some ys at h
    unfold Dt_ at h
    split at h
    all_goals first | (cases h;exact ⟨rfl,rfl⟩) | cases h
  ofb t b xs h:=by
    change Fx_ t b=some xs at h
    unfold Fx_ at h
    split at h
    ·cases h
     refine ⟨by unfold bY_;rw [List.length_map,Array.length_toList];rfl,fun i x hx=> ?_,rfl⟩
     simp only [bY_,List.getElem?_map,Option.map_eq_some_iff] at hx
     obtain ⟨c,hc,rfl⟩:=hx
     exact ⟨c,by simpa using hc,rfl⟩
    ·cases h
  keq k x y h:=by
    change Fq_ k x y=true at h
    unfold Fq_ at h
    split at h
    all_goals first | cases h | (first | exact mf_ h | exact o0_ h)
  mcast k v k' v' xs ys h:=by
    change AA_ k v k' v' xs=some ys at h
    unfold AA_ at h
    split at h
    all_goals first | (cases h;exact ⟨rfl,rfl,rfl⟩) | cases h
  bytes t xs bs h:=by
    change Ah_ t xs=some bs at h
    unfold Ah_ at h
    split at h
    ·cases h;exact ⟨rfl,fun i x b h1 h2=>by rw [h1] at h2;cases h2;rfl⟩
    ·cases h
end Km.X
namespace Km.X
open Go Km Go.Proofs
set_option linter.unusedVariables false
set_option maxRecDepth 100000
def tbl:List (Nat×TI K TyK):=[
  (2,⟨1,8, .int .i64,[.lit (.int .i64 0)]⟩),
  (3,⟨1,8, .int .i64,[.lit (.int .i64 0)]⟩),
  (4,⟨1,1, .bool,[.lit (.bool false)]⟩),
  (5,⟨1,1, .int .u8,[.lit (.int .u8 0)]⟩),
  (9,⟨1,16, .str,[.lit (.string ⟨#[]⟩)]⟩),
  (12,⟨1,8, .int .u64,[.lit (.int .u64 0)]⟩),
  (21,⟨1,4, .int .i32,[.lit (.int .i32 0)]⟩),
  (22,⟨1,24, .slice 5 .byte,[.nil .byte]⟩),
  (25,⟨1,24, .slice 65 .end,[.nil .end]⟩),
  (26,⟨1,24, .slice 73 .parcel,[.nil .parcel]⟩),
  (27,⟨1,24, .slice 87 .record,[.nil .record]⟩),
  (29,⟨7,136, .struct [(0,9),(1,3),(2,25),(3,26),(4,9),(5,27),(6,27)],[.lit (.string ⟨#[]⟩), .lit (.int .i64 0), .nil .end, .nil .parcel, .lit (.string ⟨#[]⟩), .nil .record, .nil .record]⟩),
  (31,⟨1,24, .slice 35 .event,[.nil .event]⟩),
  (35,⟨5,48, .struct [(0,3),(1,3),(2,3),(3,3),(4,9)],[.lit (.int .i64 0), .lit (.int .i64 0), .lit (.int .i64 0), .lit (.int .i64 0), .lit (.string ⟨#[]⟩)]⟩),
  (41,⟨1,24, .slice 144 .end,[.nil .end]⟩),
  (42,⟨1,24, .slice 146 .parcel,[.nil .parcel]⟩),
  (43,⟨1,24, .slice 148 .record,[.nil .record]⟩),
  (45,⟨7,136, .struct [(0,9),(1,3),(2,41),(3,42),(4,9),(5,43),(6,43)],[.lit (.string ⟨#[]⟩), .lit (.int .i64 0), .nil .end, .nil .parcel, .lit (.string ⟨#[]⟩), .nil .record, .nil .record]⟩),
  (51,⟨5,48, .struct [(0,3),(1,3),(2,3),(3,3),(4,9)],[.lit (.int .i64 0), .lit (.int .i64 0), .lit (.int .i64 0), .lit (.int .i64 0), .lit (.string ⟨#[]⟩)]⟩),
  (57,⟨1,24, .slice 171 .item,[.nil .item]⟩),
  (59,⟨2,32, .struct [(0,3),(1,57)],[.lit (.int .i64 0), .nil .item]⟩),
  (60,⟨1,24, .slice 182 .held,[.nil .held]⟩),
  (61,⟨1,24, .slice 9 .str,[.nil .str]⟩),
  (63,⟨4,72, .struct [(0,3),(1,60),(2,9),(3,61)],[.lit (.int .i64 0), .nil .held, .lit (.string ⟨#[]⟩), .nil .str]⟩),
  (65,⟨12,152, .struct [(0,3),(1,4),(2,3),(3,3),(4,3),(5,4),(6,59),(8,63)],[.lit (.int .i64 0), .lit (.bool false), .lit (.int .i64 0), .lit (.int .i64 0), .lit (.int .i64 0), .lit (.bool false), .lit (.int .i64 0), .nil .item, .lit (.int .i64 0), .nil .held, .lit (.string ⟨#[]⟩), .nil .str]⟩),
  (68,⟨1,8, .other,[.lit (.pointer none)]⟩),
  (73,⟨3,40, .struct [(0,3),(1,9),(2,9)],[.lit (.int .i64 0), .lit (.string ⟨#[]⟩), .lit (.string ⟨#[]⟩)]⟩),
  (75,⟨9,80, .struct [(0,3),(1,3),(2,3),(3,3),(4,3),(5,3),(6,3),(7,4),(8,9)],[.lit (.int .i64 0), .lit (.int .i64 0), .lit (.int .i64 0), .lit (.int .i64 0), .lit (.int .i64 0), .lit (.int .i64 0), .lit (.int .i64 0), .lit (.bool false), .lit (.string ⟨#[]⟩)]⟩),
  (82,⟨1,24, .slice 75 .packet,[.nil .packet]⟩),
  (84,⟨15,200, .struct [(0,3),(1,65),(13,82),(14,9)],[.lit (.int .i64 0), .lit (.int .i64 0), .lit (.bool false), .lit (.int .i64 0), .lit (.int .i64 0), .lit (.int .i64 0), .lit (.bool false), .lit (.int .i64 0), .nil .item, .lit (.int .i64 0), .nil .held, .lit (.string ⟨#[]⟩), .nil .str, .nil .packet, .lit (.string ⟨#[]⟩)]⟩),
  (87,⟨4,40, .struct [(0,3),(1,3),(2,3),(3,9)],[.lit (.int .i64 0), .lit (.int .i64 0), .lit (.int .i64 0), .lit (.string ⟨#[]⟩)]⟩),
  (93,⟨1,8, .map 95 61 .pair .lstr,[.lit (.map none)]⟩),
  (95,⟨3,24, .struct [(0,3),(1,3),(2,3)],[.lit (.int .i64 0), .lit (.int .i64 0), .lit (.int .i64 0)]⟩),
  (96,⟨1,8, .map 95 3 .pair .int,[.lit (.map none)]⟩),
  (102,⟨1,24, .slice 150 .l7count,[.nil .l7count]⟩),
  (110,⟨1,8, .map 112 3 .key .int,[.lit (.map none)]⟩),
  (112,⟨2,24, .struct [(0,3),(1,9)],[.lit (.int .i64 0), .lit (.string ⟨#[]⟩)]⟩),
  (120,⟨1,24, .slice 3 .int,[.nil .int]⟩),
  (123,⟨2,32, .struct [(0,22),(1,3)],[.nil .byte, .lit (.int .i64 0)]⟩),
  (126,⟨1,24, .slice 27 .lrecord,[.nil .lrecord]⟩),
  (127,⟨1,8, .other,[.lit (.pointer none)]⟩),
  (137,⟨1,24, .slice 204 .item,[.nil .item]⟩),
  (139,⟨2,32, .struct [(0,3),(1,137)],[.lit (.int .i64 0), .nil .item]⟩),
  (140,⟨1,24, .slice 207 .held,[.nil .held]⟩),
  (142,⟨4,72, .struct [(0,3),(1,140),(2,9),(3,61)],[.lit (.int .i64 0), .nil .held, .lit (.string ⟨#[]⟩), .nil .str]⟩),
  (144,⟨12,152, .struct [(0,3),(1,4),(2,3),(3,3),(4,3),(5,4),(6,139),(8,142)],[.lit (.int .i64 0), .lit (.bool false), .lit (.int .i64 0), .lit (.int .i64 0), .lit (.int .i64 0), .lit (.bool false), .lit (.int .i64 0), .nil .item, .lit (.int .i64 0), .nil .held, .lit (.string ⟨#[]⟩), .nil .str]⟩),
  (146,⟨3,40, .struct [(0,3),(1,9),(2,9)],[.lit (.int .i64 0), .lit (.string ⟨#[]⟩), .lit (.string ⟨#[]⟩)]⟩),
  (148,⟨4,40, .struct [(0,3),(1,3),(2,3),(3,9)],[.lit (.int .i64 0), .lit (.int .i64 0), .lit (.int .i64 0), .lit (.string ⟨#[]⟩)]⟩),
  (150,⟨3,32, .struct [(0,3),(1,9),(2,3)],[.lit (.int .i64 0), .lit (.string ⟨#[]⟩), .lit (.int .i64 0)]⟩),
  (165,⟨1,8, .other,[.lit (.pointer none)]⟩),
  (169,⟨2,24, .struct [(0,9),(1,4)],[.lit (.string ⟨#[]⟩), .lit (.bool false)]⟩),
  (171,⟨4,40, .struct [(0,169),(2,4),(3,3)],[.lit (.string ⟨#[]⟩), .lit (.bool false), .lit (.bool false), .lit (.int .i64 0)]⟩),
  (177,⟨1,24, .slice 169 .part,[.nil .part]⟩),
  (182,⟨3,32, .struct [(0,3),(1,169)],[.lit (.int .i64 0), .lit (.string ⟨#[]⟩), .lit (.bool false)]⟩),
  (189,⟨1,8, .int .u64,[.lit (.int .u64 0)]⟩),
  (190,⟨1,8, .other,[.lit (.pointer none)]⟩),
  (191,⟨1,8, .int .u64,[.lit (.int .u64 0)]⟩),
  (192,⟨8,8, .arr 8 5 .byte,[.lit (.int .u8 0), .lit (.int .u8 0), .lit (.int .u8 0), .lit (.int .u8 0), .lit (.int .u8 0), .lit (.int .u8 0), .lit (.int .u8 0), .lit (.int .u8 0)]⟩),
  (202,⟨2,24, .struct [(0,9),(1,4)],[.lit (.string ⟨#[]⟩), .lit (.bool false)]⟩),
  (204,⟨4,40, .struct [(0,202),(2,4),(3,3)],[.lit (.string ⟨#[]⟩), .lit (.bool false), .lit (.bool false), .lit (.int .i64 0)]⟩),
  (207,⟨3,32, .struct [(0,3),(1,202)],[.lit (.int .i64 0), .lit (.string ⟨#[]⟩), .lit (.bool false)]⟩),
  (222,⟨1,4, .int .u32,[.lit (.int .u32 0)]⟩),
  (226,⟨1,8, .other,[.lit (.pointer none)]⟩)]
abbrev T:=av_ tbl
theorem Gu_:bh_ Tryz.prog cod T 2 ⟨1,8, .int .i64,[.lit (.int .i64 0)]⟩:=⟨_,_,_,Tryz.type2,rfl,rfl,rfl,by kernel_rfl,by kernel_rfl,Tryz.underlying2,by kernel_rfl,rfl⟩
theorem Ge_:bh_ Tryz.prog cod T 3 ⟨1,8, .int .i64,[.lit (.int .i64 0)]⟩:=⟨_,_,_,Tryz.type3,rfl,rfl,rfl,by kernel_rfl,by kernel_rfl,Tryz.underlying3,by kernel_rfl,rfl⟩
theorem Gs_:bh_ Tryz.prog cod T 4 ⟨1,1, .bool,[.lit (.bool false)]⟩:=⟨_,_,_,Tryz.type4,rfl,rfl,rfl,by kernel_rfl,by kernel_rfl,Tryz.underlying4,by kernel_rfl,rfl⟩
theorem Gt_:bh_ Tryz.prog cod T 5 ⟨1,1, .int .u8,[.lit (.int .u8 0)]⟩:=⟨_,_,_,Tryz.type5,rfl,rfl,rfl,by kernel_rfl,by kernel_rfl,Tryz.underlying5,by kernel_rfl,rfl⟩
theorem Gi_:bh_ Tryz.prog cod T 9 ⟨1,16, .str,[.lit (.string ⟨#[]⟩)]⟩:=⟨_,_,_,Tryz.type9,rfl,rfl,rfl,by kernel_rfl,by kernel_rfl,Tryz.underlying9,by kernel_rfl,rfl⟩
theorem FY_:bh_ Tryz.prog cod T 12 ⟨1,8, .int .u64,[.lit (.int .u64 0)]⟩:=⟨_,_,_,Tryz.type12,rfl,rfl,rfl,by kernel_rfl,by kernel_rfl,Tryz.underlying12,by kernel_rfl,rfl⟩
theorem Fw_:bh_ Tryz.prog cod T 21 ⟨1,4, .int .i32,[.lit (.int .i32 0)]⟩:=⟨_,_,_,Tryz.type21,rfl,rfl,rfl,by kernel_rfl,by kernel_rfl,Tryz.underlying21,by kernel_rfl,rfl⟩
theorem FK_:bh_ Tryz.prog cod T 22 ⟨1,24, .slice 5 .byte,[.nil .byte]⟩:=⟨_,_,_,Tryz.type22,rfl,rfl,rfl,by kernel_rfl,by kernel_rfl,Tryz.underlying22,by kernel_rfl,⟨⟨rfl,_,Tryz.type5,by kernel_rfl,by kernel_rfl⟩,_,_,Tryz.type5,rfl,by kernel_rfl,by kernel_rfl,by decide⟩⟩
theorem E0_:bh_ Tryz.prog cod T 25 ⟨1,24, .slice 65 .end,[.nil .end]⟩:=⟨_,_,_,Tryz.type25,rfl,rfl,rfl,by kernel_rfl,by kernel_rfl,Tryz.underlying25,by kernel_rfl,⟨⟨rfl,_,Tryz.type65,by kernel_rfl,by kernel_rfl⟩,_,_,Tryz.type65,rfl,by kernel_rfl,by kernel_rfl,by decide⟩⟩
theorem FL_:bh_ Tryz.prog cod T 26 ⟨1,24, .slice 73 .parcel,[.nil .parcel]⟩:=⟨_,_,_,Tryz.type26,rfl,rfl,rfl,by kernel_rfl,by kernel_rfl,Tryz.underlying26,by kernel_rfl,⟨⟨rfl,_,Tryz.type73,by kernel_rfl,by kernel_rfl⟩,_,_,Tryz.type73,rfl,by kernel_rfl,by kernel_rfl,by decide⟩⟩
theorem FN_:bh_ Tryz.prog cod T 27 ⟨1,24, .slice 87 .record,[.nil .record]⟩:=⟨_,_,_,Tryz.type27,rfl,rfl,rfl,by kernel_rfl,by kernel_rfl,Tryz.underlying27,by kernel_rfl,⟨⟨rfl,_,Tryz.type87,by kernel_rfl,by kernel_rfl⟩,_,_,Tryz.type87,rfl,by kernel_rfl,by kernel_rfl,by decide⟩⟩
theorem Fn_:bh_ Tryz.prog cod T 29 ⟨7,136, .struct [(0,9),(1,3),(2,25),(3,26),(4,9),(5,27),(6,27)],[.lit (.string ⟨#[]⟩), .lit (.int .i64 0), .nil .end, .nil .parcel, .lit (.string ⟨#[]⟩), .nil .record, .nil .record]⟩:=⟨_,_,_,Tryz.type29,rfl,rfl,rfl,by kernel_rfl,by kernel_rfl,Tryz.underlying29,by kernel_rfl,⟨_,rfl,by kernel_rfl,by kernel_rfl,by kernel_rfl,by kernel_rfl,by kernel_rfl⟩⟩
theorem Fa_:bh_ Tryz.prog cod T 31 ⟨1,24, .slice 35 .event,[.nil .event]⟩:=⟨_,_,_,Tryz.type31,rfl,rfl,rfl,by kernel_rfl,by kernel_rfl,Tryz.underlying31,by kernel_rfl,⟨⟨rfl,_,Tryz.type35,by kernel_rfl,by kernel_rfl⟩,_,_,Tryz.type35,rfl,by kernel_rfl,by kernel_rfl,by decide⟩⟩
theorem Fd_:bh_ Tryz.prog cod T 35 ⟨5,48, .struct [(0,3),(1,3),(2,3),(3,3),(4,9)],[.lit (.int .i64 0), .lit (.int .i64 0), .lit (.int .i64 0), .lit (.int .i64 0), .lit (.string ⟨#[]⟩)]⟩:=⟨_,_,_,Tryz.type35,rfl,rfl,rfl,by kernel_rfl,by kernel_rfl,Tryz.underlying35,by kernel_rfl,⟨_,rfl,by kernel_rfl,by kernel_rfl,by kernel_rfl,by kernel_rfl,by kernel_rfl⟩⟩
theorem Ft_:bh_ Tryz.prog cod T 41 ⟨1,24, .slice 144 .end,[.nil .end]⟩:=⟨_,_,_,Tryz.type41,rfl,rfl,rfl,by kernel_rfl,by kernel_rfl,Tryz.underlying41,by kernel_rfl,⟨⟨rfl,_,Tryz.type144,by kernel_rfl,by kernel_rfl⟩,_,_,Tryz.type144,rfl,by kernel_rfl,by kernel_rfl,by decide⟩⟩
theorem Fj_:bh_ Tryz.prog cod T 42 ⟨1,24, .slice 146 .parcel,[.nil .parcel]⟩:=⟨_,_,_,Tryz.type42,rfl,rfl,rfl,by kernel_rfl,by kernel_rfl,Tryz.underlying42,by kernel_rfl,⟨⟨rfl,_,Tryz.type146,by kernel_rfl,by kernel_rfl⟩,_,_,Tryz.type146,rfl,by kernel_rfl,by kernel_rfl,by decide⟩⟩
theorem Fe_:bh_ Tryz.prog cod T 43 ⟨1,24, .slice 148 .record,[.nil .record]⟩:=⟨_,_,_,Tryz.type43,rfl,rfl,rfl,by kernel_rfl,by kernel_rfl,Tryz.underlying43,by kernel_rfl,⟨⟨rfl,_,Tryz.type148,by kernel_rfl,by kernel_rfl⟩,_,_,Tryz.type148,rfl,by kernel_rfl,by kernel_rfl,by decide⟩⟩
theorem FW_:bh_ Tryz.prog cod T 45 ⟨7,136, .struct [(0,9),(1,3),(2,41),(3,42),(4,9),(5,43),(6,43)],[.lit (.string ⟨#[]⟩), .lit (.int .i64 0), .nil .end, .nil .parcel, .lit (.string ⟨#[]⟩), .nil .record, .nil .record]⟩:=⟨_,_,_,Tryz.type45,rfl,rfl,rfl,by kernel_rfl,by kernel_rfl,Tryz.underlying45,by kernel_rfl,⟨_,rfl,by kernel_rfl,by kernel_rfl,by kernel_rfl,by kernel_rfl,by kernel_rfl⟩⟩
theorem E1_:bh_ Tryz.prog cod T 51 ⟨5,48, .struct [(0,3),(1,3),(2,3),(3,3),(4,9)],[.lit (.int .i64 0), .lit (.int .i64 0), .lit (.int .i64 0), .lit (.int .i64 0), .lit (.string ⟨#[]⟩)]⟩:=⟨_,_,_,Tryz.type51,rfl,rfl,rfl,by kernel_rfl,by kernel_rfl,Tryz.underlying51,by kernel_rfl,⟨_,rfl,by kernel_rfl,by kernel_rfl,by kernel_rfl,by kernel_rfl,by kernel_rfl⟩⟩
theorem E8_:bh_ Tryz.prog cod T 57 ⟨1,24, .slice 171 .item,[.nil .item]⟩:=⟨_,_,_,Tryz.type57,rfl,rfl,rfl,by kernel_rfl,by kernel_rfl,Tryz.underlying57,by kernel_rfl,⟨⟨rfl,_,Tryz.type171,by kernel_rfl,by kernel_rfl⟩,_,_,Tryz.type171,rfl,by kernel_rfl,by kernel_rfl,by decide⟩⟩
theorem FU_:bh_ Tryz.prog cod T 59 ⟨2,32, .struct [(0,3),(1,57)],[.lit (.int .i64 0), .nil .item]⟩:=⟨_,_,_,Tryz.type59,rfl,rfl,rfl,by kernel_rfl,by kernel_rfl,Tryz.underlying59,by kernel_rfl,⟨_,rfl,by kernel_rfl,by kernel_rfl,by kernel_rfl,by kernel_rfl,by kernel_rfl⟩⟩
theorem E6_:bh_ Tryz.prog cod T 60 ⟨1,24, .slice 182 .held,[.nil .held]⟩:=⟨_,_,_,Tryz.type60,rfl,rfl,rfl,by kernel_rfl,by kernel_rfl,Tryz.underlying60,by kernel_rfl,⟨⟨rfl,_,Tryz.type182,by kernel_rfl,by kernel_rfl⟩,_,_,Tryz.type182,rfl,by kernel_rfl,by kernel_rfl,by decide⟩⟩
theorem FS_:bh_ Tryz.prog cod T 61 ⟨1,24, .slice 9 .str,[.nil .str]⟩:=⟨_,_,_,Tryz.type61,rfl,rfl,rfl,by kernel_rfl,by kernel_rfl,Tryz.underlying61,by kernel_rfl,⟨⟨rfl,_,Tryz.type9,by kernel_rfl,by kernel_rfl⟩,_,_,Tryz.type9,rfl,by kernel_rfl,by kernel_rfl,by decide⟩⟩
theorem EZ_:bh_ Tryz.prog cod T 63 ⟨4,72, .struct [(0,3),(1,60),(2,9),(3,61)],[.lit (.int .i64 0), .nil .held, .lit (.string ⟨#[]⟩), .nil .str]⟩:=⟨_,_,_,Tryz.type63,rfl,rfl,rfl,by kernel_rfl,by kernel_rfl,Tryz.underlying63,by kernel_rfl,⟨_,rfl,by kernel_rfl,by kernel_rfl,by kernel_rfl,by kernel_rfl,by kernel_rfl⟩⟩
theorem Fc_:bh_ Tryz.prog cod T 65 ⟨12,152, .struct [(0,3),(1,4),(2,3),(3,3),(4,3),(5,4),(6,59),(8,63)],[.lit (.int .i64 0), .lit (.bool false), .lit (.int .i64 0), .lit (.int .i64 0), .lit (.int .i64 0), .lit (.bool false), .lit (.int .i64 0), .nil .item, .lit (.int .i64 0), .nil .held, .lit (.string ⟨#[]⟩), .nil .str]⟩:=⟨_,_,_,Tryz.type65,rfl,rfl,rfl,by kernel_rfl,by kernel_rfl,Tryz.underlying65,by kernel_rfl,⟨_,rfl,by kernel_rfl,by kernel_rfl,by kernel_rfl,by kernel_rfl,by kernel_rfl⟩⟩
theorem FA_:bh_ Tryz.prog cod T 68 ⟨1,8, .other,[.lit (.pointer none)]⟩:=⟨_,_,_,Tryz.type68,rfl,rfl,rfl,by kernel_rfl,by kernel_rfl,Tryz.underlying68,by kernel_rfl,trivial⟩
theorem FG_:bh_ Tryz.prog cod T 73 ⟨3,40, .struct [(0,3),(1,9),(2,9)],[.lit (.int .i64 0), .lit (.string ⟨#[]⟩), .lit (.string ⟨#[]⟩)]⟩:=⟨_,_,_,Tryz.type73,rfl,rfl,rfl,by kernel_rfl,by kernel_rfl,Tryz.underlying73,by kernel_rfl,⟨_,rfl,by kernel_rfl,by kernel_rfl,by kernel_rfl,by kernel_rfl,by kernel_rfl⟩⟩
theorem Fi_:bh_ Tryz.prog cod T 75 ⟨9,80, .struct [(0,3),(1,3),(2,3),(3,3),(4,3),(5,3),(6,3),(7,4),(8,9)],[.lit (.int .i64 0), .lit (.int .i64 0), .lit (.int .i64 0), .lit (.int .i64 0), .lit (.int .i64 0), .lit (.int .i64 0), .lit (.int .i64 0), .lit (.bool false), .lit (.string ⟨#[]⟩)]⟩:=⟨_,_,_,Tryz.type75,rfl,rfl,rfl,by kernel_rfl,by kernel_rfl,Tryz.underlying75,by kernel_rfl,⟨_,rfl,by kernel_rfl,by kernel_rfl,by kernel_rfl,by kernel_rfl,by kernel_rfl⟩⟩
theorem Fb_:bh_ Tryz.prog cod T 82 ⟨1,24, .slice 75 .packet,[.nil .packet]⟩:=⟨_,_,_,Tryz.type82,rfl,rfl,rfl,by kernel_rfl,by kernel_rfl,Tryz.underlying82,by kernel_rfl,⟨⟨rfl,_,Tryz.type75,by kernel_rfl,by kernel_rfl⟩,_,_,Tryz.type75,rfl,by kernel_rfl,by kernel_rfl,by decide⟩⟩
theorem FI_:bh_ Tryz.prog cod T 84 ⟨15,200, .struct [(0,3),(1,65),(13,82),(14,9)],[.lit (.int .i64 0), .lit (.int .i64 0), .lit (.bool false), .lit (.int .i64 0), .lit (.int .i64 0), .lit (.int .i64 0), .lit (.bool false), .lit (.int .i64 0), .nil .item, .lit (.int .i64 0), .nil .held, .lit (.string ⟨#[]⟩), .nil .str, .nil .packet, .lit (.string ⟨#[]⟩)]⟩:=⟨_,_,_,Tryz.type84,rfl,rfl,rfl,by kernel_rfl,by kernel_rfl,Tryz.underlying84,by kernel_rfl,⟨_,rfl,by kernel_rfl,by kernel_rfl,by kernel_rfl,by kernel_rfl,by kernel_rfl⟩⟩
theorem E4_:bh_ Tryz.prog cod T 87 ⟨4,40, .struct [(0,3),(1,3),(2,3),(3,9)],[.lit (.int .i64 0), .lit (.int .i64 0), .lit (.int .i64 0), .lit (.string ⟨#[]⟩)]⟩:=⟨_,_,_,Tryz.type87,rfl,rfl,rfl,by kernel_rfl,by kernel_rfl,Tryz.underlying87,by kernel_rfl,⟨_,rfl,by kernel_rfl,by kernel_rfl,by kernel_rfl,by kernel_rfl,by kernel_rfl⟩⟩
theorem Fl_:bh_ Tryz.prog cod T 93 ⟨1,8, .map 95 61 .pair .lstr,[.lit (.map none)]⟩:=⟨_,_,_,Tryz.type93,rfl,rfl,rfl,by kernel_rfl,by kernel_rfl,Tryz.underlying93,by kernel_rfl,⟨rfl,fun _ _=>by kernel_rfl,⟨_,_,rfl,rfl,by kernel_rfl⟩,fun _=>rfl,_,_,Tryz.type61,rfl,by kernel_rfl⟩⟩
theorem Fy_:bh_ Tryz.prog cod T 95 ⟨3,24, .struct [(0,3),(1,3),(2,3)],[.lit (.int .i64 0), .lit (.int .i64 0), .lit (.int .i64 0)]⟩:=⟨_,_,_,Tryz.type95,rfl,rfl,rfl,by kernel_rfl,by kernel_rfl,Tryz.underlying95,by kernel_rfl,⟨_,rfl,by kernel_rfl,by kernel_rfl,by kernel_rfl,by kernel_rfl,by kernel_rfl⟩⟩
theorem Fr_:bh_ Tryz.prog cod T 96 ⟨1,8, .map 95 3 .pair .int,[.lit (.map none)]⟩:=⟨_,_,_,Tryz.type96,rfl,rfl,rfl,by kernel_rfl,by kernel_rfl,Tryz.underlying96,by kernel_rfl,⟨rfl,fun _ _=>by kernel_rfl,⟨_,_,rfl,rfl,by kernel_rfl⟩,fun _=>rfl,_,_,Tryz.type3,rfl,by kernel_rfl⟩⟩
theorem Ei_:bh_ Tryz.prog cod T 102 ⟨1,24, .slice 150 .l7count,[.nil .l7count]⟩:=⟨_,_,_,Tryz.type102,rfl,rfl,rfl,by kernel_rfl,by kernel_rfl,Tryz.underlying102,by kernel_rfl,⟨⟨rfl,_,Tryz.type150,by kernel_rfl,by kernel_rfl⟩,_,_,Tryz.type150,rfl,by kernel_rfl,by kernel_rfl,by decide⟩⟩
theorem EI_:bh_ Tryz.prog cod T 110 ⟨1,8, .map 112 3 .key .int,[.lit (.map none)]⟩:=⟨_,_,_,Tryz.type110,rfl,rfl,rfl,by kernel_rfl,by kernel_rfl,Tryz.underlying110,by kernel_rfl,⟨rfl,fun _ _=>by kernel_rfl,⟨_,_,rfl,rfl,by kernel_rfl⟩,fun _=>rfl,_,_,Tryz.type3,rfl,by kernel_rfl⟩⟩
theorem DO_:bh_ Tryz.prog cod T 112 ⟨2,24, .struct [(0,3),(1,9)],[.lit (.int .i64 0), .lit (.string ⟨#[]⟩)]⟩:=⟨_,_,_,Tryz.type112,rfl,rfl,rfl,by kernel_rfl,by kernel_rfl,Tryz.underlying112,by kernel_rfl,⟨_,rfl,by kernel_rfl,by kernel_rfl,by kernel_rfl,by kernel_rfl,by kernel_rfl⟩⟩
theorem DF_:bh_ Tryz.prog cod T 120 ⟨1,24, .slice 3 .int,[.nil .int]⟩:=⟨_,_,_,Tryz.type120,rfl,rfl,rfl,by kernel_rfl,by kernel_rfl,Tryz.underlying120,by kernel_rfl,⟨⟨rfl,_,Tryz.type3,by kernel_rfl,by kernel_rfl⟩,_,_,Tryz.type3,rfl,by kernel_rfl,by kernel_rfl,by decide⟩⟩
theorem Ex_:bh_ Tryz.prog cod T 123 ⟨2,32, .struct [(0,22),(1,3)],[.nil .byte, .lit (.int .i64 0)]⟩:=⟨_,_,_,Tryz.type123,rfl,rfl,rfl,by kernel_rfl,by kernel_rfl,Tryz.underlying123,by kernel_rfl,⟨_,rfl,by kernel_rfl,by kernel_rfl,by kernel_rfl,by kernel_rfl,by kernel_rfl⟩⟩
theorem Es_:bh_ Tryz.prog cod T 126 ⟨1,24, .slice 27 .lrecord,[.nil .lrecord]⟩:=⟨_,_,_,Tryz.type126,rfl,rfl,rfl,by kernel_rfl,by kernel_rfl,Tryz.underlying126,by kernel_rfl,⟨⟨rfl,_,Tryz.type27,by kernel_rfl,by kernel_rfl⟩,_,_,Tryz.type27,rfl,by kernel_rfl,by kernel_rfl,by decide⟩⟩
theorem Er_:bh_ Tryz.prog cod T 127 ⟨1,8, .other,[.lit (.pointer none)]⟩:=⟨_,_,_,Tryz.type127,rfl,rfl,rfl,by kernel_rfl,by kernel_rfl,Tryz.underlying127,by kernel_rfl,trivial⟩
theorem DM_:bh_ Tryz.prog cod T 137 ⟨1,24, .slice 204 .item,[.nil .item]⟩:=⟨_,_,_,Tryz.type137,rfl,rfl,rfl,by kernel_rfl,by kernel_rfl,Tryz.underlying137,by kernel_rfl,⟨⟨rfl,_,Tryz.type204,by kernel_rfl,by kernel_rfl⟩,_,_,Tryz.type204,rfl,by kernel_rfl,by kernel_rfl,by decide⟩⟩
theorem DQ_:bh_ Tryz.prog cod T 139 ⟨2,32, .struct [(0,3),(1,137)],[.lit (.int .i64 0), .nil .item]⟩:=⟨_,_,_,Tryz.type139,rfl,rfl,rfl,by kernel_rfl,by kernel_rfl,Tryz.underlying139,by kernel_rfl,⟨_,rfl,by kernel_rfl,by kernel_rfl,by kernel_rfl,by kernel_rfl,by kernel_rfl⟩⟩
theorem Ez_:bh_ Tryz.prog cod T 140 ⟨1,24, .slice 207 .held,[.nil .held]⟩:=⟨_,_,_,Tryz.type140,rfl,rfl,rfl,by kernel_rfl,by kernel_rfl,Tryz.underlying140,by kernel_rfl,⟨⟨rfl,_,Tryz.type207,by kernel_rfl,by kernel_rfl⟩,_,_,Tryz.type207,rfl,by kernel_rfl,by kernel_rfl,by decide⟩⟩
theorem D8_:bh_ Tryz.prog cod T 142 ⟨4,72, .struct [(0,3),(1,140),(2,9),(3,61)],[.lit (.int .i64 0), .nil .held, .lit (.string ⟨#[]⟩), .nil .str]⟩:=⟨_,_,_,Tryz.type142,rfl,rfl,rfl,by kernel_rfl,by kernel_rfl,Tryz.underlying142,by kernel_rfl,⟨_,rfl,by kernel_rfl,by kernel_rfl,by kernel_rfl,by kernel_rfl,by kernel_rfl⟩⟩
theorem DN_:bh_ Tryz.prog cod T 144 ⟨12,152, .struct [(0,3),(1,4),(2,3),(3,3),(4,3),(5,4),(6,139),(8,142)],[.lit (.int .i64 0), .lit (.bool false), .lit (.int .i64 0), .lit (.int .i64 0), .lit (.int .i64 0), .lit (.bool false), .lit (.int .i64 0), .nil .item, .lit (.int .i64 0), .nil .held, .lit (.string ⟨#[]⟩), .nil .str]⟩:=⟨_,_,_,Tryz.type144,rfl,rfl,rfl,by kernel_rfl,by kernel_rfl,Tryz.underlying144,by kernel_rfl,⟨_,rfl,by kernel_rfl,by kernel_rfl,by kernel_rfl,by kernel_rfl,by kernel_rfl⟩⟩
theorem D7_:bh_ Tryz.prog cod T 146 ⟨3,40, .struct [(0,3),(1,9),(2,9)],[.lit (.int .i64 0), .lit (.string ⟨#[]⟩), .lit (.string ⟨#[]⟩)]⟩:=⟨_,_,_,Tryz.type146,rfl,rfl,rfl,by kernel_rfl,by kernel_rfl,Tryz.underlying146,by kernel_rfl,⟨_,rfl,by kernel_rfl,by kernel_rfl,by kernel_rfl,by kernel_rfl,by kernel_rfl⟩⟩
theorem D9_:bh_ Tryz.prog cod T 148 ⟨4,40, .struct [(0,3),(1,3),(2,3),(3,9)],[.lit (.int .i64 0), .lit (.int .i64 0), .lit (.int .i64 0), .lit (.string ⟨#[]⟩)]⟩:=⟨_,_,_,Tryz.type148,rfl,rfl,rfl,by kernel_rfl,by kernel_rfl,Tryz.underlying148,by kernel_rfl,⟨_,rfl,by kernel_rfl,by kernel_rfl,by kernel_rfl,by kernel_rfl,by kernel_rfl⟩⟩
theorem DR_:bh_ Tryz.prog cod T 150 ⟨3,32, .struct [(0,3),(1,9),(2,3)],[.lit (.int .i64 0), .lit (.string ⟨#[]⟩), .lit (.int .i64 0)]⟩:=⟨_,_,_,Tryz.type150,rfl,rfl,rfl,by kernel_rfl,by kernel_rfl,Tryz.underlying150,by kernel_rfl,⟨_,rfl,by kernel_rfl,by kernel_rfl,by kernel_rfl,by kernel_rfl,by kernel_rfl⟩⟩
theorem Eo_:bh_ Tryz.prog cod T 165 ⟨1,8, .other,[.lit (.pointer none)]⟩:=⟨_,_,_,Tryz.type165,rfl,rfl,rfl,by kernel_rfl,by kernel_rfl,Tryz.underlying165,by kernel_rfl,trivial⟩
theorem EN_:bh_ Tryz.prog cod T 169 ⟨2,24, .struct [(0,9),(1,4)],[.lit (.string ⟨#[]⟩), .lit (.bool false)]⟩:=⟨_,_,_,Tryz.type169,rfl,rfl,rfl,by kernel_rfl,by kernel_rfl,Tryz.underlying169,by kernel_rfl,⟨_,rfl,by kernel_rfl,by kernel_rfl,by kernel_rfl,by kernel_rfl,by kernel_rfl⟩⟩
theorem DZ_:bh_ Tryz.prog cod T 171 ⟨4,40, .struct [(0,169),(2,4),(3,3)],[.lit (.string ⟨#[]⟩), .lit (.bool false), .lit (.bool false), .lit (.int .i64 0)]⟩:=⟨_,_,_,Tryz.type171,rfl,rfl,rfl,by kernel_rfl,by kernel_rfl,Tryz.underlying171,by kernel_rfl,⟨_,rfl,by kernel_rfl,by kernel_rfl,by kernel_rfl,by kernel_rfl,by kernel_rfl⟩⟩
theorem Ef_:bh_ Tryz.prog cod T 177 ⟨1,24, .slice 169 .part,[.nil .part]⟩:=⟨_,_,_,Tryz.type177,rfl,rfl,rfl,by kernel_rfl,by kernel_rfl,Tryz.underlying177,by kernel_rfl,⟨⟨rfl,_,Tryz.type169,by kernel_rfl,by kernel_rfl⟩,_,_,Tryz.type169,rfl,by kernel_rfl,by kernel_rfl,by decide⟩⟩
theorem Eb_:bh_ Tryz.prog cod T 182 ⟨3,32, .struct [(0,3),(1,169)],[.lit (.int .i64 0), .lit (.string ⟨#[]⟩), .lit (.bool false)]⟩:=⟨_,_,_,Tryz.type182,rfl,rfl,rfl,by kernel_rfl,by kernel_rfl,Tryz.underlying182,by kernel_rfl,⟨_,rfl,by kernel_rfl,by kernel_rfl,by kernel_rfl,by kernel_rfl,by kernel_rfl⟩⟩
theorem DY_:bh_ Tryz.prog cod T 189 ⟨1,8, .int .u64,[.lit (.int .u64 0)]⟩:=⟨_,_,_,Tryz.type189,rfl,rfl,rfl,by kernel_rfl,by kernel_rfl,Tryz.underlying189,by kernel_rfl,rfl⟩
theorem Ep_:bh_ Tryz.prog cod T 190 ⟨1,8, .other,[.lit (.pointer none)]⟩:=⟨_,_,_,Tryz.type190,rfl,rfl,rfl,by kernel_rfl,by kernel_rfl,Tryz.underlying190,by kernel_rfl,trivial⟩
theorem Ey_:bh_ Tryz.prog cod T 191 ⟨1,8, .int .u64,[.lit (.int .u64 0)]⟩:=⟨_,_,_,Tryz.type191,rfl,rfl,rfl,by kernel_rfl,by kernel_rfl,Tryz.underlying191,by kernel_rfl,rfl⟩
theorem EL_:bh_ Tryz.prog cod T 192 ⟨8,8, .arr 8 5 .byte,[.lit (.int .u8 0), .lit (.int .u8 0), .lit (.int .u8 0), .lit (.int .u8 0), .lit (.int .u8 0), .lit (.int .u8 0), .lit (.int .u8 0), .lit (.int .u8 0)]⟩:=⟨_,_,_,Tryz.type192,rfl,rfl,rfl,by kernel_rfl,by kernel_rfl,Tryz.underlying192,by kernel_rfl,⟨rfl,⟨_,Tryz.type5,by kernel_rfl,by kernel_rfl⟩,_,rfl,by kernel_rfl,by kernel_rfl⟩⟩
theorem D0_:bh_ Tryz.prog cod T 202 ⟨2,24, .struct [(0,9),(1,4)],[.lit (.string ⟨#[]⟩), .lit (.bool false)]⟩:=⟨_,_,_,Tryz.type202,rfl,rfl,rfl,by kernel_rfl,by kernel_rfl,Tryz.underlying202,by kernel_rfl,⟨_,rfl,by kernel_rfl,by kernel_rfl,by kernel_rfl,by kernel_rfl,by kernel_rfl⟩⟩
theorem EA_:bh_ Tryz.prog cod T 204 ⟨4,40, .struct [(0,202),(2,4),(3,3)],[.lit (.string ⟨#[]⟩), .lit (.bool false), .lit (.bool false), .lit (.int .i64 0)]⟩:=⟨_,_,_,Tryz.type204,rfl,rfl,rfl,by kernel_rfl,by kernel_rfl,Tryz.underlying204,by kernel_rfl,⟨_,rfl,by kernel_rfl,by kernel_rfl,by kernel_rfl,by kernel_rfl,by kernel_rfl⟩⟩
theorem DG_:bh_ Tryz.prog cod T 207 ⟨3,32, .struct [(0,3),(1,202)],[.lit (.int .i64 0), .lit (.string ⟨#[]⟩), .lit (.bool false)]⟩:=⟨_,_,_,Tryz.type207,rfl,rfl,rfl,by kernel_rfl,by kernel_rfl,Tryz.underlying207,by kernel_rfl,⟨_,rfl,by kernel_rfl,by kernel_rfl,by kernel_rfl,by kernel_rfl,by kernel_rfl⟩⟩
theorem EB_:bh_ Tryz.prog cod T 222 ⟨1,4, .int .u32,[.lit (.int .u32 0)]⟩:=⟨_,_,_,Tryz.type222,rfl,rfl,rfl,by kernel_rfl,by kernel_rfl,Tryz.underlying222,by kernel_rfl,rfl⟩
theorem El_:bh_ Tryz.prog cod T 226 ⟨1,8, .other,[.lit (.pointer none)]⟩:=⟨_,_,_,Tryz.type226,rfl,rfl,rfl,by kernel_rfl,by kernel_rfl,Tryz.underlying226,by kernel_rfl,trivial⟩
theorem rows:∀e∈tbl,bh_ Tryz.prog cod T e.1 e.2:=
  all_cons Gu_ (all_cons Ge_ (all_cons Gs_ (all_cons Gt_ (all_cons Gi_ (all_cons FY_ (all_cons Fw_ (all_cons FK_ (all_cons E0_ (all_cons FL_ (all_cons FN_ (all_cons Fn_ (all_cons Fa_ (all_cons Fd_ (all_cons Ft_ (all_cons Fj_ (all_cons Fe_ (all_cons FW_ (all_cons E1_ (all_cons E8_ (all_cons FU_ (all_cons E6_ (all_cons FS_ (all_cons EZ_ (all_cons Fc_ (all_cons FA_ (all_cons FG_ (all_cons Fi_ (all_cons Fb_ (all_cons FI_ (all_cons E4_ (all_cons Fl_ (all_cons Fy_ (all_cons Fr_ (all_cons Ei_ (all_cons EI_ (all_cons DO_ (all_cons DF_ (all_cons Ex_ (all_cons Es_ (all_cons Er_ (all_cons DM_ (all_cons DQ_ (all_cons Ez_ (all_cons D8_ (all_cons DN_ (all_cons D7_ (all_cons D9_ (all_cons DR_ (all_cons Eo_ (all_cons EN_ (all_cons DZ_ (all_cons Ef_ (all_cons Eb_ (all_cons DY_ (all_cons Ep_ (all_cons Ey_ (all_cons EL_ (all_cons D0_ (all_cons EA_ (all_cons DG_ (all_cons EB_ (all_cons El_ (ab_)))))))))))))))))))))))))))))))))))))))))))))))))))))))))))))))
theorem tok:TOk Tryz.prog cod T:=TOk.of rows
theorem eok:EOk Tryz.prog cod T:=EOk.of rows
theorem aG_:Tryz.prog.follows .mixedOrders=true:=by kernel_rfl
end Km.X
namespace Km.X
open Go Km Go.Proofs
set_option linter.unusedVariables false
set_option linter.unusedSimpArgs false
set_option maxRecDepth 100000
theorem wR_ (x y:ag_) (h:x.Part.Text=y.Part.Text∧x.Part.Last=y.Part.Last∧x.Has=y.Has∧x.Since=y.Since):x=y:=by
  obtain ⟨⟨_,_⟩,_,_⟩:=x
  obtain ⟨⟨_,_⟩,_,_⟩:=y
  simp_all
theorem wY_ (x y:ak_) (h:x.Seq=y.Seq∧x.Part.Text=y.Part.Text∧x.Part.Last=y.Part.Last):x=y:=by
  obtain ⟨_,⟨_,_⟩⟩:=x
  obtain ⟨_,⟨_,_⟩⟩:=y
  simp_all
theorem BM_ {α:Type} {l:List α} (h:l.length=2):∃a0 a1,l=[a0,a1]:=by
  match l,h with
  | [a0,a1],_=>exact ⟨a0,a1,rfl⟩
theorem zu_ {α:Type} {l:List α} (h:l.length=3):∃a0 a1 a2,l=[a0,a1,a2]:=by
  match l,h with
  | [a0,a1,a2],_=>exact ⟨a0,a1,a2,rfl⟩
theorem xX_ {α:Type} {l:List α} (h:l.length=4):∃a0 a1 a2 a3,l=[a0,a1,a2,a3]:=by
  match l,h with
  | [a0,a1,a2,a3],_=>exact ⟨a0,a1,a2,a3,rfl⟩
theorem FB_ {α:Type} {l:List α} (h:l.length=5):∃a0 a1 a2 a3 a4,l=[a0,a1,a2,a3,a4]:=by
  match l,h with
  | [a0,a1,a2,a3,a4],_=>exact ⟨a0,a1,a2,a3,a4,rfl⟩
theorem Fp_ {α:Type} {l:List α} (h:l.length=9):∃a0 a1 a2 a3 a4 a5 a6 a7 a8,l=[a0,a1,a2,a3,a4,a5,a6,a7,a8]:=by
  match l,h with
  | [a0,a1,a2,a3,a4,a5,a6,a7,a8],_=>exact ⟨a0,a1,a2,a3,a4,a5,a6,a7,a8,rfl⟩
theorem Cr_ {α:Type} {l:List α} (h:l.length=12):∃a0 a1 a2 a3 a4 a5 a6 a7 a8 a9 a10 a11,l=[a0,a1,a2,a3,a4,a5,a6,a7,a8,a9,a10,a11]:=by
  match l,h with
  | [a0,a1,a2,a3,a4,a5,a6,a7,a8,a9,a10,a11],_=>exact ⟨a0,a1,a2,a3,a4,a5,a6,a7,a8,a9,a10,a11,rfl⟩
theorem sh3 {n:Nat} {avs:List V} (h:am_ cod T n 3 avs):∃x:Int,avs=[.lit (.int .i64 x)]∧(Lit.int .i64 x).wf=true:=by
  cases n with
  | zero=>exact h.elim
  | succ n=>
    exact h
theorem sh4 {n:Nat} {avs:List V} (h:am_ cod T n 4 avs):∃x:Bool,avs=[.lit (.bool x)]∧True:=by
  cases n with
  | zero=>exact h.elim
  | succ n=>
    obtain ⟨b,h⟩:=(h:∃b,avs=[.lit (.bool b)])
    exact ⟨b,h,trivial⟩
theorem sh5 {n:Nat} {avs:List V} (h:am_ cod T n 5 avs):∃x:Int,avs=[.lit (.int .u8 x)]∧(Lit.int .u8 x).wf=true:=by
  cases n with
  | zero=>exact h.elim
  | succ n=>
    exact h
theorem sh9 {n:Nat} {avs:List V} (h:am_ cod T n 9 avs):∃x:ByteArray,avs=[.lit (.string x)]∧x.size≤maxLen:=by
  cases n with
  | zero=>exact h.elim
  | succ n=>
    exact h
theorem sh22 {n:Nat} {avs:List V} (h:am_ cod T n 22 avs):∃x:List Int,avs=[.inl false .byte x]∧(x.length≤maxLen∧∀y∈x,jA_ y):=by
  cases n with
  | zero=>exact h.elim
  | succ n=>
    obtain ⟨xs,h1,h2,h3⟩:=(h:∃xs:List (TyK .byte),avs=[.inl false .byte xs]∧xs.length≤maxLen∧∀x∈xs,am_ cod T n 5 (BG_ .byte x))
    refine ⟨xs,h1,h2,fun y hy=> ?_⟩
    obtain ⟨z,hz,hw⟩:=sh5 (h3 y hy)
    have hz:([.lit (.int .u8 y)]:List V)=[.lit (.int .u8 z)]:=hz
    have:y=z:=by
      simp only [List.cons.injEq,AV.lit.injEq,AV.inl.injEq,Value.int.injEq,Value.string.injEq,Value.bool.injEq,true_and,and_true,heq_eq_eq] at hz
      exact hz
    subst this
    exact hw
theorem Da_ {n:Nat} {avs:List V} (h:am_ cod T n 169 avs):∃x:aA_,avs=[.lit (.string x.Text), .lit (.bool x.Last)]∧st_ x:=by
  cases n with
  | zero=>exact h.elim
  | succ n=>
    obtain ⟨hl,hf⟩:=(h:avs.length=2∧∀f∈([(0,9),(1,4)]:List (Nat×TypeId)),∃tf,T f.2=some tf∧am_ cod T n f.2 ((avs.drop f.1).take tf.size))
    obtain ⟨a0,a1,rfl⟩:=BM_ hl
    obtain ⟨t0,ht0,g0⟩:=hf (0,9) (by simp)
    obtain rfl:=Option.some.inj ht0
    obtain ⟨x0,e0,w0⟩:=sh9 (show am_ cod T n 9 [a0] from g0)
    simp only [List.cons.injEq,and_true] at e0
    obtain ⟨t1,ht1,g1⟩:=hf (1,4) (by simp)
    obtain rfl:=Option.some.inj ht1
    obtain ⟨x1,e1,w1⟩:=sh4 (show am_ cod T n 4 [a1] from g1)
    simp only [List.cons.injEq,and_true] at e1
    obtain rfl:=e0
    obtain rfl:=e1
    exact ⟨⟨x0,x1⟩,rfl,w0,w1⟩
theorem EO_ {n:Nat} {avs:List V} (h:am_ cod T n 171 avs):∃x:ag_,avs=[.lit (.string x.Part.Text), .lit (.bool x.Part.Last), .lit (.bool x.Has), .lit (.int .i64 x.Since)]∧vD_ x:=by
  cases n with
  | zero=>exact h.elim
  | succ n=>
    obtain ⟨hl,hf⟩:=(h:avs.length=4∧∀f∈([(0,169),(2,4),(3,3)]:List (Nat×TypeId)),∃tf,T f.2=some tf∧am_ cod T n f.2 ((avs.drop f.1).take tf.size))
    obtain ⟨a0,a1,a2,a3,rfl⟩:=xX_ hl
    obtain ⟨t0,ht0,g0⟩:=hf (0,169) (by simp)
    obtain rfl:=Option.some.inj ht0
    obtain ⟨x0,e0,w0⟩:=Da_ (show am_ cod T n 169 [a0,a1] from g0)
    simp only [List.cons.injEq,and_true] at e0
    obtain ⟨t1,ht1,g1⟩:=hf (2,4) (by simp)
    obtain rfl:=Option.some.inj ht1
    obtain ⟨x1,e1,w1⟩:=sh4 (show am_ cod T n 4 [a2] from g1)
    simp only [List.cons.injEq,and_true] at e1
    obtain ⟨t2,ht2,g2⟩:=hf (3,3) (by simp)
    obtain rfl:=Option.some.inj ht2
    obtain ⟨x2,e2,w2⟩:=sh3 (show am_ cod T n 3 [a3] from g2)
    simp only [List.cons.injEq,and_true] at e2
    obtain ⟨rfl,rfl⟩:=e0
    obtain rfl:=e1
    obtain rfl:=e2
    exact ⟨⟨x0,x1,x2⟩,rfl,w0,w1,w2⟩
theorem Gn_ {n:Nat} {avs:List V} (h:am_ cod T n 57 avs):∃x:List ag_,avs=[.inl false .item x]∧(x.length≤maxLen∧∀y∈x,vZ_ y):=by
  cases n with
  | zero=>exact h.elim
  | succ n=>
    obtain ⟨xs,h1,h2,h3⟩:=(h:∃xs:List (TyK .item),avs=[.inl false .item xs]∧xs.length≤maxLen∧∀x∈xs,am_ cod T n 171 (BG_ .item x))
    refine ⟨xs,h1,h2,fun y hy=> ?_⟩
    obtain ⟨z,hz,hw⟩:=EO_ (h3 y hy)
    have hz:([.lit (.string y.Part.Text), .lit (.bool y.Part.Last), .lit (.bool y.Has), .lit (.int .i64 y.Since)]:List V)=[.lit (.string z.Part.Text), .lit (.bool z.Part.Last), .lit (.bool z.Has), .lit (.int .i64 z.Since)]:=hz
    have:y=z:=by
      simp only [List.cons.injEq,AV.lit.injEq,AV.inl.injEq,Value.int.injEq,Value.string.injEq,Value.bool.injEq,true_and,and_true,heq_eq_eq] at hz
      exact wR_ y z hz
    subst this
    exact hw
theorem Gq_ {n:Nat} {avs:List V} (h:am_ cod T n 59 avs):∃x:aj_,avs=[.lit (.int .i64 x.Base), .inl false .item x.Items]∧wF_ x:=by
  cases n with
  | zero=>exact h.elim
  | succ n=>
    obtain ⟨hl,hf⟩:=(h:avs.length=2∧∀f∈([(0,3),(1,57)]:List (Nat×TypeId)),∃tf,T f.2=some tf∧am_ cod T n f.2 ((avs.drop f.1).take tf.size))
    obtain ⟨a0,a1,rfl⟩:=BM_ hl
    obtain ⟨t0,ht0,g0⟩:=hf (0,3) (by simp)
    obtain rfl:=Option.some.inj ht0
    obtain ⟨x0,e0,w0⟩:=sh3 (show am_ cod T n 3 [a0] from g0)
    simp only [List.cons.injEq,and_true] at e0
    obtain ⟨t1,ht1,g1⟩:=hf (1,57) (by simp)
    obtain rfl:=Option.some.inj ht1
    obtain ⟨x1,e1,w1⟩:=Gn_ (show am_ cod T n 57 [a1] from g1)
    simp only [List.cons.injEq,and_true] at e1
    obtain rfl:=e0
    obtain rfl:=e1
    exact ⟨⟨x0,x1⟩,rfl,w0,w1⟩
theorem D4_ {n:Nat} {avs:List V} (h:am_ cod T n 182 avs):∃x:ak_,avs=[.lit (.int .i64 x.Seq), .lit (.string x.Part.Text), .lit (.bool x.Part.Last)]∧vY_ x:=by
  cases n with
  | zero=>exact h.elim
  | succ n=>
    obtain ⟨hl,hf⟩:=(h:avs.length=3∧∀f∈([(0,3),(1,169)]:List (Nat×TypeId)),∃tf,T f.2=some tf∧am_ cod T n f.2 ((avs.drop f.1).take tf.size))
    obtain ⟨a0,a1,a2,rfl⟩:=zu_ hl
    obtain ⟨t0,ht0,g0⟩:=hf (0,3) (by simp)
    obtain rfl:=Option.some.inj ht0
    obtain ⟨x0,e0,w0⟩:=sh3 (show am_ cod T n 3 [a0] from g0)
    simp only [List.cons.injEq,and_true] at e0
    obtain ⟨t1,ht1,g1⟩:=hf (1,169) (by simp)
    obtain rfl:=Option.some.inj ht1
    obtain ⟨x1,e1,w1⟩:=Da_ (show am_ cod T n 169 [a1,a2] from g1)
    simp only [List.cons.injEq,and_true] at e1
    obtain rfl:=e0
    obtain ⟨rfl,rfl⟩:=e1
    exact ⟨⟨x0,x1⟩,rfl,w0,w1⟩
theorem Gl_ {n:Nat} {avs:List V} (h:am_ cod T n 60 avs):∃x:List ak_,avs=[.inl false .held x]∧(x.length≤maxLen∧∀y∈x,wG_ y):=by
  cases n with
  | zero=>exact h.elim
  | succ n=>
    obtain ⟨xs,h1,h2,h3⟩:=(h:∃xs:List (TyK .held),avs=[.inl false .held xs]∧xs.length≤maxLen∧∀x∈xs,am_ cod T n 182 (BG_ .held x))
    refine ⟨xs,h1,h2,fun y hy=> ?_⟩
    obtain ⟨z,hz,hw⟩:=D4_ (h3 y hy)
    have hz:([.lit (.int .i64 y.Seq), .lit (.string y.Part.Text), .lit (.bool y.Part.Last)]:List V)=[.lit (.int .i64 z.Seq), .lit (.string z.Part.Text), .lit (.bool z.Part.Last)]:=hz
    have:y=z:=by
      simp only [List.cons.injEq,AV.lit.injEq,AV.inl.injEq,Value.int.injEq,Value.string.injEq,Value.bool.injEq,true_and,and_true,heq_eq_eq] at hz
      exact wY_ y z hz
    subst this
    exact hw
theorem F4_ {n:Nat} {avs:List V} (h:am_ cod T n 61 avs):∃x:List ByteArray,avs=[.inl false .str x]∧(x.length≤maxLen∧∀y∈x,Cg_ y):=by
  cases n with
  | zero=>exact h.elim
  | succ n=>
    obtain ⟨xs,h1,h2,h3⟩:=(h:∃xs:List (TyK .str),avs=[.inl false .str xs]∧xs.length≤maxLen∧∀x∈xs,am_ cod T n 9 (BG_ .str x))
    refine ⟨xs,h1,h2,fun y hy=> ?_⟩
    obtain ⟨z,hz,hw⟩:=sh9 (h3 y hy)
    have hz:([.lit (.string y)]:List V)=[.lit (.string z)]:=hz
    have:y=z:=by
      simp only [List.cons.injEq,AV.lit.injEq,AV.inl.injEq,Value.int.injEq,Value.string.injEq,Value.bool.injEq,true_and,and_true,heq_eq_eq] at hz
      exact hz
    subst this
    exact hw
theorem Gk_ {n:Nat} {avs:List V} (h:am_ cod T n 63 avs):∃x:ai_,avs=[.lit (.int .i64 x.Next), .inl false .held x.Held, .lit (.string x.Open), .inl false .str x.Ready]∧vU_ x:=by
  cases n with
  | zero=>exact h.elim
  | succ n=>
    obtain ⟨hl,hf⟩:=(h:avs.length=4∧∀f∈([(0,3),(1,60),(2,9),(3,61)]:List (Nat×TypeId)),∃tf,T f.2=some tf∧am_ cod T n f.2 ((avs.drop f.1).take tf.size))
    obtain ⟨a0,a1,a2,a3,rfl⟩:=xX_ hl
    obtain ⟨t0,ht0,g0⟩:=hf (0,3) (by simp)
    obtain rfl:=Option.some.inj ht0
    obtain ⟨x0,e0,w0⟩:=sh3 (show am_ cod T n 3 [a0] from g0)
    simp only [List.cons.injEq,and_true] at e0
    obtain ⟨t1,ht1,g1⟩:=hf (1,60) (by simp)
    obtain rfl:=Option.some.inj ht1
    obtain ⟨x1,e1,w1⟩:=Gl_ (show am_ cod T n 60 [a1] from g1)
    simp only [List.cons.injEq,and_true] at e1
    obtain ⟨t2,ht2,g2⟩:=hf (2,9) (by simp)
    obtain rfl:=Option.some.inj ht2
    obtain ⟨x2,e2,w2⟩:=sh9 (show am_ cod T n 9 [a2] from g2)
    simp only [List.cons.injEq,and_true] at e2
    obtain ⟨t3,ht3,g3⟩:=hf (3,61) (by simp)
    obtain rfl:=Option.some.inj ht3
    obtain ⟨x3,e3,w3⟩:=F4_ (show am_ cod T n 61 [a3] from g3)
    simp only [List.cons.injEq,and_true] at e3
    obtain rfl:=e0
    obtain rfl:=e1
    obtain rfl:=e2
    obtain rfl:=e3
    exact ⟨⟨x0,x1,x2,x3⟩,rfl,w0,w1,w2,w3⟩
theorem Gw_ {n:Nat} {avs:List V} (h:am_ cod T n 65 avs):∃x:an_,avs=[.lit (.int .i64 x.Number), .lit (.bool x.Up), .lit (.int .i64 x.Life), .lit (.int .i64 x.Peer), .lit (.int .i64 x.Since), .lit (.bool x.Owes), .lit (.int .i64 x.Send.Base), .inl false .item x.Send.Items, .lit (.int .i64 x.Take.Next), .inl false .held x.Take.Held, .lit (.string x.Take.Open), .inl false .str x.Take.Ready]∧Ch_ x:=by
  cases n with
  | zero=>exact h.elim
  | succ n=>
    obtain ⟨hl,hf⟩:=(h:avs.length=12∧∀f∈([(0,3),(1,4),(2,3),(3,3),(4,3),(5,4),(6,59),(8,63)]:List (Nat×TypeId)),∃tf,T f.2=some tf∧am_ cod T n f.2 ((avs.drop f.1).take tf.size))
    obtain ⟨a0,a1,a2,a3,a4,a5,a6,a7,a8,a9,a10,a11,rfl⟩:=Cr_ hl
    obtain ⟨t0,ht0,g0⟩:=hf (0,3) (by simp)
    obtain rfl:=Option.some.inj ht0
    obtain ⟨x0,e0,w0⟩:=sh3 (show am_ cod T n 3 [a0] from g0)
    simp only [List.cons.injEq,and_true] at e0
    obtain ⟨t1,ht1,g1⟩:=hf (1,4) (by simp)
    obtain rfl:=Option.some.inj ht1
    obtain ⟨x1,e1,w1⟩:=sh4 (show am_ cod T n 4 [a1] from g1)
    simp only [List.cons.injEq,and_true] at e1
    obtain ⟨t2,ht2,g2⟩:=hf (2,3) (by simp)
    obtain rfl:=Option.some.inj ht2
    obtain ⟨x2,e2,w2⟩:=sh3 (show am_ cod T n 3 [a2] from g2)
    simp only [List.cons.injEq,and_true] at e2
    obtain ⟨t3,ht3,g3⟩:=hf (3,3) (by simp)
    obtain rfl:=Option.some.inj ht3
    obtain ⟨x3,e3,w3⟩:=sh3 (show am_ cod T n 3 [a3] from g3)
    simp only [List.cons.injEq,and_true] at e3
    obtain ⟨t4,ht4,g4⟩:=hf (4,3) (by simp)
    obtain rfl:=Option.some.inj ht4
    obtain ⟨x4,e4,w4⟩:=sh3 (show am_ cod T n 3 [a4] from g4)
    simp only [List.cons.injEq,and_true] at e4
    obtain ⟨t5,ht5,g5⟩:=hf (5,4) (by simp)
    obtain rfl:=Option.some.inj ht5
    obtain ⟨x5,e5,w5⟩:=sh4 (show am_ cod T n 4 [a5] from g5)
    simp only [List.cons.injEq,and_true] at e5
    obtain ⟨t6,ht6,g6⟩:=hf (6,59) (by simp)
    obtain rfl:=Option.some.inj ht6
    obtain ⟨x6,e6,w6⟩:=Gq_ (show am_ cod T n 59 [a6,a7] from g6)
    simp only [List.cons.injEq,and_true] at e6
    obtain ⟨t7,ht7,g7⟩:=hf (8,63) (by simp)
    obtain rfl:=Option.some.inj ht7
    obtain ⟨x7,e7,w7⟩:=Gk_ (show am_ cod T n 63 [a8,a9,a10,a11] from g7)
    simp only [List.cons.injEq,and_true] at e7
    obtain rfl:=e0
    obtain rfl:=e1
    obtain rfl:=e2
    obtain rfl:=e3
    obtain rfl:=e4
    obtain rfl:=e5
    obtain ⟨rfl,rfl⟩:=e6
    obtain ⟨rfl,rfl,rfl,rfl⟩:=e7
    exact ⟨⟨x0,x1,x2,x3,x4,x5,x6,x7⟩,rfl,w0,w1,w2,w3,w4,w5,w6,w7⟩
theorem Gh_ {n:Nat} {avs:List V} (h:am_ cod T n 73 avs):∃x:ad_,avs=[.lit (.int .i64 x.To), .lit (.string x.Sent), .lit (.string x.Bytes)]∧uV_ x:=by
  cases n with
  | zero=>exact h.elim
  | succ n=>
    obtain ⟨hl,hf⟩:=(h:avs.length=3∧∀f∈([(0,3),(1,9),(2,9)]:List (Nat×TypeId)),∃tf,T f.2=some tf∧am_ cod T n f.2 ((avs.drop f.1).take tf.size))
    obtain ⟨a0,a1,a2,rfl⟩:=zu_ hl
    obtain ⟨t0,ht0,g0⟩:=hf (0,3) (by simp)
    obtain rfl:=Option.some.inj ht0
    obtain ⟨x0,e0,w0⟩:=sh3 (show am_ cod T n 3 [a0] from g0)
    simp only [List.cons.injEq,and_true] at e0
    obtain ⟨t1,ht1,g1⟩:=hf (1,9) (by simp)
    obtain rfl:=Option.some.inj ht1
    obtain ⟨x1,e1,w1⟩:=sh9 (show am_ cod T n 9 [a1] from g1)
    simp only [List.cons.injEq,and_true] at e1
    obtain ⟨t2,ht2,g2⟩:=hf (2,9) (by simp)
    obtain rfl:=Option.some.inj ht2
    obtain ⟨x2,e2,w2⟩:=sh9 (show am_ cod T n 9 [a2] from g2)
    simp only [List.cons.injEq,and_true] at e2
    obtain rfl:=e0
    obtain rfl:=e1
    obtain rfl:=e2
    exact ⟨⟨x0,x1,x2⟩,rfl,w0,w1,w2⟩
theorem Gm_ {n:Nat} {avs:List V} (h:am_ cod T n 87 avs):∃x:aa_,avs=[.lit (.int .i64 x.From), .lit (.int .i64 x.A), .lit (.int .i64 x.B), .lit (.string x.Text)]∧uJ_ x:=by
  cases n with
  | zero=>exact h.elim
  | succ n=>
    obtain ⟨hl,hf⟩:=(h:avs.length=4∧∀f∈([(0,3),(1,3),(2,3),(3,9)]:List (Nat×TypeId)),∃tf,T f.2=some tf∧am_ cod T n f.2 ((avs.drop f.1).take tf.size))
    obtain ⟨a0,a1,a2,a3,rfl⟩:=xX_ hl
    obtain ⟨t0,ht0,g0⟩:=hf (0,3) (by simp)
    obtain rfl:=Option.some.inj ht0
    obtain ⟨x0,e0,w0⟩:=sh3 (show am_ cod T n 3 [a0] from g0)
    simp only [List.cons.injEq,and_true] at e0
    obtain ⟨t1,ht1,g1⟩:=hf (1,3) (by simp)
    obtain rfl:=Option.some.inj ht1
    obtain ⟨x1,e1,w1⟩:=sh3 (show am_ cod T n 3 [a1] from g1)
    simp only [List.cons.injEq,and_true] at e1
    obtain ⟨t2,ht2,g2⟩:=hf (2,3) (by simp)
    obtain rfl:=Option.some.inj ht2
    obtain ⟨x2,e2,w2⟩:=sh3 (show am_ cod T n 3 [a2] from g2)
    simp only [List.cons.injEq,and_true] at e2
    obtain ⟨t3,ht3,g3⟩:=hf (3,9) (by simp)
    obtain rfl:=Option.some.inj ht3
    obtain ⟨x3,e3,w3⟩:=sh9 (show am_ cod T n 9 [a3] from g3)
    simp only [List.cons.injEq,and_true] at e3
    obtain rfl:=e0
    obtain rfl:=e1
    obtain rfl:=e2
    obtain rfl:=e3
    exact ⟨⟨x0,x1,x2,x3⟩,rfl,w0,w1,w2,w3⟩
theorem Gj_ {n:Nat} {avs:List V} (h:am_ cod T n 35 avs):∃x:as_,avs=[.lit (.int .i64 x.Kind), .lit (.int .i64 x.A), .lit (.int .i64 x.B), .lit (.int .i64 x.C), .lit (.string x.Text)]∧Bk_ x:=by
  cases n with
  | zero=>exact h.elim
  | succ n=>
    obtain ⟨hl,hf⟩:=(h:avs.length=5∧∀f∈([(0,3),(1,3),(2,3),(3,3),(4,9)]:List (Nat×TypeId)),∃tf,T f.2=some tf∧am_ cod T n f.2 ((avs.drop f.1).take tf.size))
    obtain ⟨a0,a1,a2,a3,a4,rfl⟩:=FB_ hl
    obtain ⟨t0,ht0,g0⟩:=hf (0,3) (by simp)
    obtain rfl:=Option.some.inj ht0
    obtain ⟨x0,e0,w0⟩:=sh3 (show am_ cod T n 3 [a0] from g0)
    simp only [List.cons.injEq,and_true] at e0
    obtain ⟨t1,ht1,g1⟩:=hf (1,3) (by simp)
    obtain rfl:=Option.some.inj ht1
    obtain ⟨x1,e1,w1⟩:=sh3 (show am_ cod T n 3 [a1] from g1)
    simp only [List.cons.injEq,and_true] at e1
    obtain ⟨t2,ht2,g2⟩:=hf (2,3) (by simp)
    obtain rfl:=Option.some.inj ht2
    obtain ⟨x2,e2,w2⟩:=sh3 (show am_ cod T n 3 [a2] from g2)
    simp only [List.cons.injEq,and_true] at e2
    obtain ⟨t3,ht3,g3⟩:=hf (3,3) (by simp)
    obtain rfl:=Option.some.inj ht3
    obtain ⟨x3,e3,w3⟩:=sh3 (show am_ cod T n 3 [a3] from g3)
    simp only [List.cons.injEq,and_true] at e3
    obtain ⟨t4,ht4,g4⟩:=hf (4,9) (by simp)
    obtain rfl:=Option.some.inj ht4
    obtain ⟨x4,e4,w4⟩:=sh9 (show am_ cod T n 9 [a4] from g4)
    simp only [List.cons.injEq,and_true] at e4
    obtain rfl:=e0
    obtain rfl:=e1
    obtain rfl:=e2
    obtain rfl:=e3
    obtain rfl:=e4
    exact ⟨⟨x0,x1,x2,x3,x4⟩,rfl,w0,w1,w2,w3,w4⟩
theorem EC_ {n:Nat} {avs:List V} (h:am_ cod T n 202 avs):∃x:aA_,avs=[.lit (.string x.Text), .lit (.bool x.Last)]∧st_ x:=by
  cases n with
  | zero=>exact h.elim
  | succ n=>
    obtain ⟨hl,hf⟩:=(h:avs.length=2∧∀f∈([(0,9),(1,4)]:List (Nat×TypeId)),∃tf,T f.2=some tf∧am_ cod T n f.2 ((avs.drop f.1).take tf.size))
    obtain ⟨a0,a1,rfl⟩:=BM_ hl
    obtain ⟨t0,ht0,g0⟩:=hf (0,9) (by simp)
    obtain rfl:=Option.some.inj ht0
    obtain ⟨x0,e0,w0⟩:=sh9 (show am_ cod T n 9 [a0] from g0)
    simp only [List.cons.injEq,and_true] at e0
    obtain ⟨t1,ht1,g1⟩:=hf (1,4) (by simp)
    obtain rfl:=Option.some.inj ht1
    obtain ⟨x1,e1,w1⟩:=sh4 (show am_ cod T n 4 [a1] from g1)
    simp only [List.cons.injEq,and_true] at e1
    obtain rfl:=e0
    obtain rfl:=e1
    exact ⟨⟨x0,x1⟩,rfl,w0,w1⟩
theorem DL_ {n:Nat} {avs:List V} (h:am_ cod T n 204 avs):∃x:ag_,avs=[.lit (.string x.Part.Text), .lit (.bool x.Part.Last), .lit (.bool x.Has), .lit (.int .i64 x.Since)]∧vD_ x:=by
  cases n with
  | zero=>exact h.elim
  | succ n=>
    obtain ⟨hl,hf⟩:=(h:avs.length=4∧∀f∈([(0,202),(2,4),(3,3)]:List (Nat×TypeId)),∃tf,T f.2=some tf∧am_ cod T n f.2 ((avs.drop f.1).take tf.size))
    obtain ⟨a0,a1,a2,a3,rfl⟩:=xX_ hl
    obtain ⟨t0,ht0,g0⟩:=hf (0,202) (by simp)
    obtain rfl:=Option.some.inj ht0
    obtain ⟨x0,e0,w0⟩:=EC_ (show am_ cod T n 202 [a0,a1] from g0)
    simp only [List.cons.injEq,and_true] at e0
    obtain ⟨t1,ht1,g1⟩:=hf (2,4) (by simp)
    obtain rfl:=Option.some.inj ht1
    obtain ⟨x1,e1,w1⟩:=sh4 (show am_ cod T n 4 [a2] from g1)
    simp only [List.cons.injEq,and_true] at e1
    obtain ⟨t2,ht2,g2⟩:=hf (3,3) (by simp)
    obtain rfl:=Option.some.inj ht2
    obtain ⟨x2,e2,w2⟩:=sh3 (show am_ cod T n 3 [a3] from g2)
    simp only [List.cons.injEq,and_true] at e2
    obtain ⟨rfl,rfl⟩:=e0
    obtain rfl:=e1
    obtain rfl:=e2
    exact ⟨⟨x0,x1,x2⟩,rfl,w0,w1,w2⟩
theorem FE_ {n:Nat} {avs:List V} (h:am_ cod T n 137 avs):∃x:List ag_,avs=[.inl false .item x]∧(x.length≤maxLen∧∀y∈x,vZ_ y):=by
  cases n with
  | zero=>exact h.elim
  | succ n=>
    obtain ⟨xs,h1,h2,h3⟩:=(h:∃xs:List (TyK .item),avs=[.inl false .item xs]∧xs.length≤maxLen∧∀x∈xs,am_ cod T n 204 (BG_ .item x))
    refine ⟨xs,h1,h2,fun y hy=> ?_⟩
    obtain ⟨z,hz,hw⟩:=DL_ (h3 y hy)
    have hz:([.lit (.string y.Part.Text), .lit (.bool y.Part.Last), .lit (.bool y.Has), .lit (.int .i64 y.Since)]:List V)=[.lit (.string z.Part.Text), .lit (.bool z.Part.Last), .lit (.bool z.Has), .lit (.int .i64 z.Since)]:=hz
    have:y=z:=by
      simp only [List.cons.injEq,AV.lit.injEq,AV.inl.injEq,Value.int.injEq,Value.string.injEq,Value.bool.injEq,true_and,and_true,heq_eq_eq] at hz
      exact wR_ y z hz
    subst this
    exact hw
theorem Fh_ {n:Nat} {avs:List V} (h:am_ cod T n 139 avs):∃x:aj_,avs=[.lit (.int .i64 x.Base), .inl false .item x.Items]∧wF_ x:=by
  cases n with
  | zero=>exact h.elim
  | succ n=>
    obtain ⟨hl,hf⟩:=(h:avs.length=2∧∀f∈([(0,3),(1,137)]:List (Nat×TypeId)),∃tf,T f.2=some tf∧am_ cod T n f.2 ((avs.drop f.1).take tf.size))
    obtain ⟨a0,a1,rfl⟩:=BM_ hl
    obtain ⟨t0,ht0,g0⟩:=hf (0,3) (by simp)
    obtain rfl:=Option.some.inj ht0
    obtain ⟨x0,e0,w0⟩:=sh3 (show am_ cod T n 3 [a0] from g0)
    simp only [List.cons.injEq,and_true] at e0
    obtain ⟨t1,ht1,g1⟩:=hf (1,137) (by simp)
    obtain rfl:=Option.some.inj ht1
    obtain ⟨x1,e1,w1⟩:=FE_ (show am_ cod T n 137 [a1] from g1)
    simp only [List.cons.injEq,and_true] at e1
    obtain rfl:=e0
    obtain rfl:=e1
    exact ⟨⟨x0,x1⟩,rfl,w0,w1⟩
theorem DK_ {n:Nat} {avs:List V} (h:am_ cod T n 207 avs):∃x:ak_,avs=[.lit (.int .i64 x.Seq), .lit (.string x.Part.Text), .lit (.bool x.Part.Last)]∧vY_ x:=by
  cases n with
  | zero=>exact h.elim
  | succ n=>
    obtain ⟨hl,hf⟩:=(h:avs.length=3∧∀f∈([(0,3),(1,202)]:List (Nat×TypeId)),∃tf,T f.2=some tf∧am_ cod T n f.2 ((avs.drop f.1).take tf.size))
    obtain ⟨a0,a1,a2,rfl⟩:=zu_ hl
    obtain ⟨t0,ht0,g0⟩:=hf (0,3) (by simp)
    obtain rfl:=Option.some.inj ht0
    obtain ⟨x0,e0,w0⟩:=sh3 (show am_ cod T n 3 [a0] from g0)
    simp only [List.cons.injEq,and_true] at e0
    obtain ⟨t1,ht1,g1⟩:=hf (1,202) (by simp)
    obtain rfl:=Option.some.inj ht1
    obtain ⟨x1,e1,w1⟩:=EC_ (show am_ cod T n 202 [a1,a2] from g1)
    simp only [List.cons.injEq,and_true] at e1
    obtain rfl:=e0
    obtain ⟨rfl,rfl⟩:=e1
    exact ⟨⟨x0,x1⟩,rfl,w0,w1⟩
theorem FM_ {n:Nat} {avs:List V} (h:am_ cod T n 140 avs):∃x:List ak_,avs=[.inl false .held x]∧(x.length≤maxLen∧∀y∈x,wG_ y):=by
  cases n with
  | zero=>exact h.elim
  | succ n=>
    obtain ⟨xs,h1,h2,h3⟩:=(h:∃xs:List (TyK .held),avs=[.inl false .held xs]∧xs.length≤maxLen∧∀x∈xs,am_ cod T n 207 (BG_ .held x))
    refine ⟨xs,h1,h2,fun y hy=> ?_⟩
    obtain ⟨z,hz,hw⟩:=DK_ (h3 y hy)
    have hz:([.lit (.int .i64 y.Seq), .lit (.string y.Part.Text), .lit (.bool y.Part.Last)]:List V)=[.lit (.int .i64 z.Seq), .lit (.string z.Part.Text), .lit (.bool z.Part.Last)]:=hz
    have:y=z:=by
      simp only [List.cons.injEq,AV.lit.injEq,AV.inl.injEq,Value.int.injEq,Value.string.injEq,Value.bool.injEq,true_and,and_true,heq_eq_eq] at hz
      exact wY_ y z hz
    subst this
    exact hw
theorem FC_ {n:Nat} {avs:List V} (h:am_ cod T n 142 avs):∃x:ai_,avs=[.lit (.int .i64 x.Next), .inl false .held x.Held, .lit (.string x.Open), .inl false .str x.Ready]∧vU_ x:=by
  cases n with
  | zero=>exact h.elim
  | succ n=>
    obtain ⟨hl,hf⟩:=(h:avs.length=4∧∀f∈([(0,3),(1,140),(2,9),(3,61)]:List (Nat×TypeId)),∃tf,T f.2=some tf∧am_ cod T n f.2 ((avs.drop f.1).take tf.size))
    obtain ⟨a0,a1,a2,a3,rfl⟩:=xX_ hl
    obtain ⟨t0,ht0,g0⟩:=hf (0,3) (by simp)
    obtain rfl:=Option.some.inj ht0
    obtain ⟨x0,e0,w0⟩:=sh3 (show am_ cod T n 3 [a0] from g0)
    simp only [List.cons.injEq,and_true] at e0
    obtain ⟨t1,ht1,g1⟩:=hf (1,140) (by simp)
    obtain rfl:=Option.some.inj ht1
    obtain ⟨x1,e1,w1⟩:=FM_ (show am_ cod T n 140 [a1] from g1)
    simp only [List.cons.injEq,and_true] at e1
    obtain ⟨t2,ht2,g2⟩:=hf (2,9) (by simp)
    obtain rfl:=Option.some.inj ht2
    obtain ⟨x2,e2,w2⟩:=sh9 (show am_ cod T n 9 [a2] from g2)
    simp only [List.cons.injEq,and_true] at e2
    obtain ⟨t3,ht3,g3⟩:=hf (3,61) (by simp)
    obtain rfl:=Option.some.inj ht3
    obtain ⟨x3,e3,w3⟩:=F4_ (show am_ cod T n 61 [a3] from g3)
    simp only [List.cons.injEq,and_true] at e3
    obtain rfl:=e0
    obtain rfl:=e1
    obtain rfl:=e2
    obtain rfl:=e3
    exact ⟨⟨x0,x1,x2,x3⟩,rfl,w0,w1,w2,w3⟩
theorem FD_ {n:Nat} {avs:List V} (h:am_ cod T n 144 avs):∃x:an_,avs=[.lit (.int .i64 x.Number), .lit (.bool x.Up), .lit (.int .i64 x.Life), .lit (.int .i64 x.Peer), .lit (.int .i64 x.Since), .lit (.bool x.Owes), .lit (.int .i64 x.Send.Base), .inl false .item x.Send.Items, .lit (.int .i64 x.Take.Next), .inl false .held x.Take.Held, .lit (.string x.Take.Open), .inl false .str x.Take.Ready]∧Ch_ x:=by
  cases n with
  | zero=>exact h.elim
  | succ n=>
    obtain ⟨hl,hf⟩:=(h:avs.length=12∧∀f∈([(0,3),(1,4),(2,3),(3,3),(4,3),(5,4),(6,139),(8,142)]:List (Nat×TypeId)),∃tf,T f.2=some tf∧am_ cod T n f.2 ((avs.drop f.1).take tf.size))
    obtain ⟨a0,a1,a2,a3,a4,a5,a6,a7,a8,a9,a10,a11,rfl⟩:=Cr_ hl
    obtain ⟨t0,ht0,g0⟩:=hf (0,3) (by simp)
    obtain rfl:=Option.some.inj ht0
    obtain ⟨x0,e0,w0⟩:=sh3 (show am_ cod T n 3 [a0] from g0)
    simp only [List.cons.injEq,and_true] at e0
    obtain ⟨t1,ht1,g1⟩:=hf (1,4) (by simp)
    obtain rfl:=Option.some.inj ht1
    obtain ⟨x1,e1,w1⟩:=sh4 (show am_ cod T n 4 [a1] from g1)
    simp only [List.cons.injEq,and_true] at e1
    obtain ⟨t2,ht2,g2⟩:=hf (2,3) (by simp)
    obtain rfl:=Option.some.inj ht2
    obtain ⟨x2,e2,w2⟩:=sh3 (show am_ cod T n 3 [a2] from g2)
    simp only [List.cons.injEq,and_true] at e2
    obtain ⟨t3,ht3,g3⟩:=hf (3,3) (by simp)
    obtain rfl:=Option.some.inj ht3
    obtain ⟨x3,e3,w3⟩:=sh3 (show am_ cod T n 3 [a3] from g3)
    simp only [List.cons.injEq,and_true] at e3
    obtain ⟨t4,ht4,g4⟩:=hf (4,3) (by simp)
    obtain rfl:=Option.some.inj ht4
    obtain ⟨x4,e4,w4⟩:=sh3 (show am_ cod T n 3 [a4] from g4)
    simp only [List.cons.injEq,and_true] at e4
    obtain ⟨t5,ht5,g5⟩:=hf (5,4) (by simp)
    obtain rfl:=Option.some.inj ht5
    obtain ⟨x5,e5,w5⟩:=sh4 (show am_ cod T n 4 [a5] from g5)
    simp only [List.cons.injEq,and_true] at e5
    obtain ⟨t6,ht6,g6⟩:=hf (6,139) (by simp)
    obtain rfl:=Option.some.inj ht6
    obtain ⟨x6,e6,w6⟩:=Fh_ (show am_ cod T n 139 [a6,a7] from g6)
    simp only [List.cons.injEq,and_true] at e6
    obtain ⟨t7,ht7,g7⟩:=hf (8,142) (by simp)
    obtain rfl:=Option.some.inj ht7
    obtain ⟨x7,e7,w7⟩:=FC_ (show am_ cod T n 142 [a8,a9,a10,a11] from g7)
    simp only [List.cons.injEq,and_true] at e7
    obtain rfl:=e0
    obtain rfl:=e1
    obtain rfl:=e2
    obtain rfl:=e3
    obtain rfl:=e4
    obtain rfl:=e5
    obtain ⟨rfl,rfl⟩:=e6
    obtain ⟨rfl,rfl,rfl,rfl⟩:=e7
    exact ⟨⟨x0,x1,x2,x3,x4,x5,x6,x7⟩,rfl,w0,w1,w2,w3,w4,w5,w6,w7⟩
theorem E7_ {n:Nat} {avs:List V} (h:am_ cod T n 146 avs):∃x:ad_,avs=[.lit (.int .i64 x.To), .lit (.string x.Sent), .lit (.string x.Bytes)]∧uV_ x:=by
  cases n with
  | zero=>exact h.elim
  | succ n=>
    obtain ⟨hl,hf⟩:=(h:avs.length=3∧∀f∈([(0,3),(1,9),(2,9)]:List (Nat×TypeId)),∃tf,T f.2=some tf∧am_ cod T n f.2 ((avs.drop f.1).take tf.size))
    obtain ⟨a0,a1,a2,rfl⟩:=zu_ hl
    obtain ⟨t0,ht0,g0⟩:=hf (0,3) (by simp)
    obtain rfl:=Option.some.inj ht0
    obtain ⟨x0,e0,w0⟩:=sh3 (show am_ cod T n 3 [a0] from g0)
    simp only [List.cons.injEq,and_true] at e0
    obtain ⟨t1,ht1,g1⟩:=hf (1,9) (by simp)
    obtain rfl:=Option.some.inj ht1
    obtain ⟨x1,e1,w1⟩:=sh9 (show am_ cod T n 9 [a1] from g1)
    simp only [List.cons.injEq,and_true] at e1
    obtain ⟨t2,ht2,g2⟩:=hf (2,9) (by simp)
    obtain rfl:=Option.some.inj ht2
    obtain ⟨x2,e2,w2⟩:=sh9 (show am_ cod T n 9 [a2] from g2)
    simp only [List.cons.injEq,and_true] at e2
    obtain rfl:=e0
    obtain rfl:=e1
    obtain rfl:=e2
    exact ⟨⟨x0,x1,x2⟩,rfl,w0,w1,w2⟩
theorem E9_ {n:Nat} {avs:List V} (h:am_ cod T n 148 avs):∃x:aa_,avs=[.lit (.int .i64 x.From), .lit (.int .i64 x.A), .lit (.int .i64 x.B), .lit (.string x.Text)]∧uJ_ x:=by
  cases n with
  | zero=>exact h.elim
  | succ n=>
    obtain ⟨hl,hf⟩:=(h:avs.length=4∧∀f∈([(0,3),(1,3),(2,3),(3,9)]:List (Nat×TypeId)),∃tf,T f.2=some tf∧am_ cod T n f.2 ((avs.drop f.1).take tf.size))
    obtain ⟨a0,a1,a2,a3,rfl⟩:=xX_ hl
    obtain ⟨t0,ht0,g0⟩:=hf (0,3) (by simp)
    obtain rfl:=Option.some.inj ht0
    obtain ⟨x0,e0,w0⟩:=sh3 (show am_ cod T n 3 [a0] from g0)
    simp only [List.cons.injEq,and_true] at e0
    obtain ⟨t1,ht1,g1⟩:=hf (1,3) (by simp)
    obtain rfl:=Option.some.inj ht1
    obtain ⟨x1,e1,w1⟩:=sh3 (show am_ cod T n 3 [a1] from g1)
    simp only [List.cons.injEq,and_true] at e1
    obtain ⟨t2,ht2,g2⟩:=hf (2,3) (by simp)
    obtain rfl:=Option.some.inj ht2
    obtain ⟨x2,e2,w2⟩:=sh3 (show am_ cod T n 3 [a2] from g2)
    simp only [List.cons.injEq,and_true] at e2
    obtain ⟨t3,ht3,g3⟩:=hf (3,9) (by simp)
    obtain rfl:=Option.some.inj ht3
    obtain ⟨x3,e3,w3⟩:=sh9 (show am_ cod T n 9 [a3] from g3)
    simp only [List.cons.injEq,and_true] at e3
    obtain rfl:=e0
    obtain rfl:=e1
    obtain rfl:=e2
    obtain rfl:=e3
    exact ⟨⟨x0,x1,x2,x3⟩,rfl,w0,w1,w2,w3⟩
theorem Gp_ {n:Nat} {avs:List V} (h:am_ cod T n 75 avs):∃x:ae_,avs=[.lit (.int .i64 x.Kind), .lit (.int .i64 x.From), .lit (.int .i64 x.Mine), .lit (.int .i64 x.Yours), .lit (.int .i64 x.Next), .lit (.int .i64 x.Mask), .lit (.int .i64 x.Seq), .lit (.bool x.Last), .lit (.string x.Part)]∧zH_ x:=by
  cases n with
  | zero=>exact h.elim
  | succ n=>
    obtain ⟨hl,hf⟩:=(h:avs.length=9∧∀f∈([(0,3),(1,3),(2,3),(3,3),(4,3),(5,3),(6,3),(7,4),(8,9)]:List (Nat×TypeId)),∃tf,T f.2=some tf∧am_ cod T n f.2 ((avs.drop f.1).take tf.size))
    obtain ⟨a0,a1,a2,a3,a4,a5,a6,a7,a8,rfl⟩:=Fp_ hl
    obtain ⟨t0,ht0,g0⟩:=hf (0,3) (by simp)
    obtain rfl:=Option.some.inj ht0
    obtain ⟨x0,e0,w0⟩:=sh3 (show am_ cod T n 3 [a0] from g0)
    simp only [List.cons.injEq,and_true] at e0
    obtain ⟨t1,ht1,g1⟩:=hf (1,3) (by simp)
    obtain rfl:=Option.some.inj ht1
    obtain ⟨x1,e1,w1⟩:=sh3 (show am_ cod T n 3 [a1] from g1)
    simp only [List.cons.injEq,and_true] at e1
    obtain ⟨t2,ht2,g2⟩:=hf (2,3) (by simp)
    obtain rfl:=Option.some.inj ht2
    obtain ⟨x2,e2,w2⟩:=sh3 (show am_ cod T n 3 [a2] from g2)
    simp only [List.cons.injEq,and_true] at e2
    obtain ⟨t3,ht3,g3⟩:=hf (3,3) (by simp)
    obtain rfl:=Option.some.inj ht3
    obtain ⟨x3,e3,w3⟩:=sh3 (show am_ cod T n 3 [a3] from g3)
    simp only [List.cons.injEq,and_true] at e3
    obtain ⟨t4,ht4,g4⟩:=hf (4,3) (by simp)
    obtain rfl:=Option.some.inj ht4
    obtain ⟨x4,e4,w4⟩:=sh3 (show am_ cod T n 3 [a4] from g4)
    simp only [List.cons.injEq,and_true] at e4
    obtain ⟨t5,ht5,g5⟩:=hf (5,3) (by simp)
    obtain rfl:=Option.some.inj ht5
    obtain ⟨x5,e5,w5⟩:=sh3 (show am_ cod T n 3 [a5] from g5)
    simp only [List.cons.injEq,and_true] at e5
    obtain ⟨t6,ht6,g6⟩:=hf (6,3) (by simp)
    obtain rfl:=Option.some.inj ht6
    obtain ⟨x6,e6,w6⟩:=sh3 (show am_ cod T n 3 [a6] from g6)
    simp only [List.cons.injEq,and_true] at e6
    obtain ⟨t7,ht7,g7⟩:=hf (7,4) (by simp)
    obtain rfl:=Option.some.inj ht7
    obtain ⟨x7,e7,w7⟩:=sh4 (show am_ cod T n 4 [a7] from g7)
    simp only [List.cons.injEq,and_true] at e7
    obtain ⟨t8,ht8,g8⟩:=hf (8,9) (by simp)
    obtain rfl:=Option.some.inj ht8
    obtain ⟨x8,e8,w8⟩:=sh9 (show am_ cod T n 9 [a8] from g8)
    simp only [List.cons.injEq,and_true] at e8
    obtain rfl:=e0
    obtain rfl:=e1
    obtain rfl:=e2
    obtain rfl:=e3
    obtain rfl:=e4
    obtain rfl:=e5
    obtain rfl:=e6
    obtain rfl:=e7
    obtain rfl:=e8
    exact ⟨⟨x0,x1,x2,x3,x4,x5,x6,x7,x8⟩,rfl,w0,w1,w2,w3,w4,w5,w6,w7,w8⟩
theorem FX_ {n:Nat} {avs:List V} (h:am_ cod T n 150 avs):∃x:sZ_,avs=[.lit (.int .i64 x.to), .lit (.string x.bytes), .lit (.int .i64 x.n)]∧yD_ x:=by
  cases n with
  | zero=>exact h.elim
  | succ n=>
    obtain ⟨hl,hf⟩:=(h:avs.length=3∧∀f∈([(0,3),(1,9),(2,3)]:List (Nat×TypeId)),∃tf,T f.2=some tf∧am_ cod T n f.2 ((avs.drop f.1).take tf.size))
    obtain ⟨a0,a1,a2,rfl⟩:=zu_ hl
    obtain ⟨t0,ht0,g0⟩:=hf (0,3) (by simp)
    obtain rfl:=Option.some.inj ht0
    obtain ⟨x0,e0,w0⟩:=sh3 (show am_ cod T n 3 [a0] from g0)
    simp only [List.cons.injEq,and_true] at e0
    obtain ⟨t1,ht1,g1⟩:=hf (1,9) (by simp)
    obtain rfl:=Option.some.inj ht1
    obtain ⟨x1,e1,w1⟩:=sh9 (show am_ cod T n 9 [a1] from g1)
    simp only [List.cons.injEq,and_true] at e1
    obtain ⟨t2,ht2,g2⟩:=hf (2,3) (by simp)
    obtain rfl:=Option.some.inj ht2
    obtain ⟨x2,e2,w2⟩:=sh3 (show am_ cod T n 3 [a2] from g2)
    simp only [List.cons.injEq,and_true] at e2
    obtain rfl:=e0
    obtain rfl:=e1
    obtain rfl:=e2
    exact ⟨⟨x0,x1,x2⟩,rfl,w0,w1,w2⟩
def CR_ (e:Nat×TI K TyK):Prop:=∀e2 s n avs,e.2.shp= .slice e2 s→cod.bor s=false→am_ cod T n e2 avs→∃x,cod.enc s x=avs
theorem A4_:∀e∈tbl,CR_ e:=
  all_cons (fun e s n avs h hb=>by cases h) (
  all_cons (fun e s n avs h hb=>by cases h) (
  all_cons (fun e s n avs h hb=>by cases h) (
  all_cons (fun e s n avs h hb=>by cases h) (
  all_cons (fun e s n avs h hb=>by cases h) (
  all_cons (fun e s n avs h hb=>by cases h) (
  all_cons (fun e s n avs h hb=>by cases h) (
  all_cons (fun e s n avs h hb hs=>by cases h;obtain ⟨x,hx,_⟩:=sh5 hs;exact ⟨x,hx.symm⟩) (
  all_cons (fun e s n avs h hb hs=>by cases h;obtain ⟨x,hx,_⟩:=Gw_ hs;exact ⟨x,hx.symm⟩) (
  all_cons (fun e s n avs h hb hs=>by cases h;obtain ⟨x,hx,_⟩:=Gh_ hs;exact ⟨x,hx.symm⟩) (
  all_cons (fun e s n avs h hb hs=>by cases h;obtain ⟨x,hx,_⟩:=Gm_ hs;exact ⟨x,hx.symm⟩) (
  all_cons (fun e s n avs h hb=>by cases h) (
  all_cons (fun e s n avs h hb hs=>by cases h;obtain ⟨x,hx,_⟩:=Gj_ hs;exact ⟨x,hx.symm⟩) (
  all_cons (fun e s n avs h hb=>by cases h) (
  all_cons (fun e s n avs h hb hs=>by cases h;obtain ⟨x,hx,_⟩:=FD_ hs;exact ⟨x,hx.symm⟩) (
  all_cons (fun e s n avs h hb hs=>by cases h;obtain ⟨x,hx,_⟩:=E7_ hs;exact ⟨x,hx.symm⟩) (
  all_cons (fun e s n avs h hb hs=>by cases h;obtain ⟨x,hx,_⟩:=E9_ hs;exact ⟨x,hx.symm⟩) (
  all_cons (fun e s n avs h hb=>by cases h) (
  all_cons (fun e s n avs h hb=>by cases h) (
  all_cons (fun e s n avs h hb hs=>by cases h;obtain ⟨x,hx,_⟩:=EO_ hs;exact ⟨x,hx.symm⟩) (
  all_cons (fun e s n avs h hb=>by cases h) (
  all_cons (fun e s n avs h hb hs=>by cases h;obtain ⟨x,hx,_⟩:=D4_ hs;exact ⟨x,hx.symm⟩) (
  all_cons (fun e s n avs h hb hs=>by cases h;obtain ⟨x,hx,_⟩:=sh9 hs;exact ⟨x,hx.symm⟩) (
  all_cons (fun e s n avs h hb=>by cases h) (
  all_cons (fun e s n avs h hb=>by cases h) (
  all_cons (fun e s n avs h hb=>by cases h) (
  all_cons (fun e s n avs h hb=>by cases h) (
  all_cons (fun e s n avs h hb=>by cases h) (
  all_cons (fun e s n avs h hb hs=>by cases h;obtain ⟨x,hx,_⟩:=Gp_ hs;exact ⟨x,hx.symm⟩) (
  all_cons (fun e s n avs h hb=>by cases h) (
  all_cons (fun e s n avs h hb=>by cases h) (
  all_cons (fun e s n avs h hb=>by cases h) (
  all_cons (fun e s n avs h hb=>by cases h) (
  all_cons (fun e s n avs h hb=>by cases h) (
  all_cons (fun e s n avs h hb hs=>by cases h;obtain ⟨x,hx,_⟩:=FX_ hs;exact ⟨x,hx.symm⟩) (
  all_cons (fun e s n avs h hb=>by cases h) (
  all_cons (fun e s n avs h hb=>by cases h) (
  all_cons (fun e s n avs h hb hs=>by cases h;obtain ⟨x,hx,_⟩:=sh3 hs;exact ⟨x,hx.symm⟩) (
  all_cons (fun e s n avs h hb=>by cases h) (
  all_cons (fun e s n avs h hb=>by cases h;cases hb) (
  all_cons (fun e s n avs h hb=>by cases h) (
  all_cons (fun e s n avs h hb hs=>by cases h;obtain ⟨x,hx,_⟩:=DL_ hs;exact ⟨x,hx.symm⟩) (
  all_cons (fun e s n avs h hb=>by cases h) (
  all_cons (fun e s n avs h hb hs=>by cases h;obtain ⟨x,hx,_⟩:=DK_ hs;exact ⟨x,hx.symm⟩) (
  all_cons (fun e s n avs h hb=>by cases h) (
  all_cons (fun e s n avs h hb=>by cases h) (
  all_cons (fun e s n avs h hb=>by cases h) (
  all_cons (fun e s n avs h hb=>by cases h) (
  all_cons (fun e s n avs h hb=>by cases h) (
  all_cons (fun e s n avs h hb=>by cases h) (
  all_cons (fun e s n avs h hb=>by cases h) (
  all_cons (fun e s n avs h hb=>by cases h) (
  all_cons (fun e s n avs h hb hs=>by cases h;obtain ⟨x,hx,_⟩:=Da_ hs;exact ⟨x,hx.symm⟩) (
  all_cons (fun e s n avs h hb=>by cases h) (
  all_cons (fun e s n avs h hb=>by cases h) (
  all_cons (fun e s n avs h hb=>by cases h) (
  all_cons (fun e s n avs h hb=>by cases h) (
  all_cons (fun e s n avs h hb=>by cases h) (
  all_cons (fun e s n avs h hb=>by cases h) (
  all_cons (fun e s n avs h hb=>by cases h) (
  all_cons (fun e s n avs h hb=>by cases h) (
  all_cons (fun e s n avs h hb=>by cases h) (
  all_cons (fun e s n avs h hb=>by cases h) (ab_)))))))))))))))))))))))))))))))))))))))))))))))))))))))))))))))
theorem fullC:FullC cod T:=FullC.of (by kernel_rfl) (fun e he=>A4_ e he) (fun s=>by cases s<;>decide) trivial
end Km.X
