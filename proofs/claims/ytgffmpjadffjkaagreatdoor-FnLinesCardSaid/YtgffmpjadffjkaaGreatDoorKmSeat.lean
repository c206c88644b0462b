/- A part of the proof of FnLines: the program's types as data. There is no condition. -/
import Derived.Test.YtgffmpjadffjkaaGreatDoorKxDef1
import Derived.Test.YtgffmpjadffjkaaGreatDoorKmAm4
import Derived.Test.YtgffmpjadffjkaaGreatDoorKxDef2
import Derived.Test.YtgffmpjadffjkaaGreatDoorProg
import Derived.Shelf.Strings.Builder1
import Derived.Shelf.LaysM
import Derived.Shelf.LaysC
import Derived.Shelf.Strconv.Itoa3
import Derived.Shelf.Strconv.AtoiAll
import Derived.Shelf.Strings.Prefix
import Derived.Shelf.Strings.SplitShaped
import Derived.Lib.AppendIntMem
import Derived.Test.YtgffmpjadffjkaaGreatDoorTie
import Derived.ProofKit
import Derived.OpenShut
import Derived.LaidMore
import Derived.Lay
import Derived.SevenTiedAt
import Derived.Stop.Joined
import Derived.Laws.IdiomMaps
import Derived.StringKeys
import Derived.Lib.LaidTab
set_option linter.unusedVariables false
set_option linter.unusedSimpArgs false
namespace Km.X
open Go Km
inductive K | byte | int | str | end | parcel | record | item | held | packet | l7count | key | pair | lstr | part | lrecord | bbyte
abbrev TyK:K→Type
  | .byte=>Int
  | .int=>Int
  | .str=>ByteArray
  | .end=>aN
  | .parcel=>aE
  | .record=>aA
  | .item=>aQ
  | .held=>aR
  | .packet=>aF
  | .l7count=>bT
  | .key=>DKey
  | .pair=>DPair
  | .lstr=>List ByteArray
  | .part=>cA
  | .lrecord=>List aA
  | .bbyte=>Int
abbrev V:=AV K TyK
def kno:K→Nat
  | .byte=>0
  | .int=>1
  | .str=>2
  | .end=>3
  | .parcel=>4
  | .record=>5
  | .item=>6
  | .held=>7
  | .packet=>8
  | .l7count=>9
  | .key=>10
  | .pair=>11
  | .lstr=>12
  | .part=>13
  | .lrecord=>14
  | .bbyte=>15
def eW_:(s t:K)→List (TyK s)→Option (List (TyK t))
  | .byte, .byte,xs=>some xs
  | .int, .int,xs=>some xs
  | .str, .str,xs=>some xs
  | .end, .end,xs=>some xs
  | .parcel, .parcel,xs=>some xs
  | .record, .record,xs=>some xs
  | .item, .item,xs=>some xs
  | .held, .held,xs=>some xs
  | .packet, .packet,xs=>some xs
  | .l7count, .l7count,xs=>some xs
  | .key, .key,xs=>some xs
  | .pair, .pair,xs=>some xs
  | .lstr, .lstr,xs=>some xs
  | .part, .part,xs=>some xs
  | .lrecord, .lrecord,xs=>some xs
  | .bbyte, .bbyte,xs=>some xs
  | _,_,_=>none
def ksz:K→Nat
  | .byte=>1
  | .int=>1
  | .str=>1
  | .end=>12
  | .parcel=>3
  | .record=>4
  | .item=>4
  | .held=>3
  | .packet=>9
  | .l7count=>3
  | .key=>2
  | .pair=>3
  | .lstr=>1
  | .part=>2
  | .lrecord=>1
  | .bbyte=>1
def kby:K→Nat
  | .byte=>1
  | .int=>8
  | .str=>16
  | .end=>152
  | .parcel=>40
  | .record=>40
  | .item=>40
  | .held=>32
  | .packet=>80
  | .l7count=>32
  | .key=>8
  | .pair=>8
  | .lstr=>8
  | .part=>24
  | .lrecord=>24
  | .bbyte=>1
def fb_:(t:K)→TyK t→List V
  | .byte,x=>[.lit (.int .u8 x)]
  | .int,x=>[.lit (.int .i64 x)]
  | .str,x=>[.lit (.string x)]
  | .end,x=>[.lit (.int .i64 x.Number), .lit (.bool x.Up), .lit (.int .i64 x.Life), .lit (.int .i64 x.Peer), .lit (.int .i64 x.Since), .lit (.bool x.Owes), .lit (.int .i64 x.Send.Base), .inl false .item x.Send.Items, .lit (.int .i64 x.Take.Next), .inl false .held x.Take.Held, .lit (.string x.Take.Open), .inl false .str x.Take.Ready]
  | .parcel,x=>[.lit (.int .i64 x.To), .lit (.string x.Sent), .lit (.string x.Bytes)]
  | .record,x=>[.lit (.int .i64 x.From), .lit (.int .i64 x.A), .lit (.int .i64 x.B), .lit (.string x.Text)]
  | .item,x=>[.lit (.string x.Part.Text), .lit (.bool x.Part.Last), .lit (.bool x.Has), .lit (.int .i64 x.Since)]
  | .held,x=>[.lit (.int .i64 x.Seq), .lit (.string x.Part.Text), .lit (.bool x.Part.Last)]
  | .packet,x=>[.lit (.int .i64 x.Kind), .lit (.int .i64 x.From), .lit (.int .i64 x.Mine), .lit (.int .i64 x.Yours), .lit (.int .i64 x.Next), .lit (.int .i64 x.Mask), .lit (.int .i64 x.Seq), .lit (.bool x.Last), .lit (.string x.Part)]
  | .l7count,x=>[.lit (.int .i64 x.to), .lit (.string x.bytes), .lit (.int .i64 x.n)]
  | .key,x=>[.lit (.int .i64 x.to), .lit (.string x.bytes)]
  | .pair,x=>[.lit (.int .i64 x.f), .lit (.int .i64 x.a), .lit (.int .i64 x.b)]
  | .lstr,x=>[.inl false .str x]
  | .part,x=>[.lit (.string x.Text), .lit (.bool x.Last)]
  | .lrecord,x=>[.inl true .record x]
  | .bbyte,x=>[.lit (.int .u8 x)]
def hc_:(t:K)→List V→Option (TyK t)
  | .byte,[.lit (.int .u8 v1)]=>some v1
  | .int,[.lit (.int .i64 v1)]=>some v1
  | .str,[.lit (.string v1)]=>some v1
  | .end,[.lit (.int .i64 v1), .lit (.bool v2), .lit (.int .i64 v3), .lit (.int .i64 v4), .lit (.int .i64 v5), .lit (.bool v6), .lit (.int .i64 v7), .inl false .item v8, .lit (.int .i64 v9), .inl false .held v10, .lit (.string v11), .inl false .str v12]=>some ⟨v1,v2,v3,v4,v5,v6,⟨v7,v8⟩,⟨v9,v10,v11,v12⟩⟩
  | .parcel,[.lit (.int .i64 v1), .lit (.string v2), .lit (.string v3)]=>some ⟨v1,v2,v3⟩
  | .record,[.lit (.int .i64 v1), .lit (.int .i64 v2), .lit (.int .i64 v3), .lit (.string v4)]=>some ⟨v1,v2,v3,v4⟩
  | .item,[.lit (.string v1), .lit (.bool v2), .lit (.bool v3), .lit (.int .i64 v4)]=>some ⟨⟨v1,v2⟩,v3,v4⟩
  | .held,[.lit (.int .i64 v1), .lit (.string v2), .lit (.bool v3)]=>some ⟨v1,⟨v2,v3⟩⟩
  | .packet,[.lit (.int .i64 v1), .lit (.int .i64 v2), .lit (.int .i64 v3), .lit (.int .i64 v4), .lit (.int .i64 v5), .lit (.int .i64 v6), .lit (.int .i64 v7), .lit (.bool v8), .lit (.string v9)]=>some ⟨v1,v2,v3,v4,v5,v6,v7,v8,v9⟩
  | .l7count,[.lit (.int .i64 v1), .lit (.string v2), .lit (.int .i64 v3)]=>some ⟨v1,v2,v3⟩
  | .key,[.lit (.int .i64 v1), .lit (.string v2)]=>some ⟨v1,v2⟩
  | .pair,[.lit (.int .i64 v1), .lit (.int .i64 v2), .lit (.int .i64 v3)]=>some ⟨v1,v2,v3⟩
  | .lstr,[.inl false .str v1]=>some v1
  | .part,[.lit (.string v1), .lit (.bool v2)]=>some ⟨v1,v2⟩
  | .lrecord,[.inl true .record v1]=>some v1
  | .bbyte,[.lit (.int .u8 v1)]=>some v1
  | _,_=>none
def cu_:(t:K)→List (TyK t)→Option (List Int)
  | .byte,xs=>some xs
  | _,_=>none
def gW_:(t:K)→ByteArray→Option (List (TyK t))
  | .byte,b=>some (bC b)
  | .bbyte,b=>some (bC b)
  | _,_=>none
def g7_:(k:K)→TyK k→TyK k→Bool
  | .key,x,y=>lI x y
  | .pair,x,y=>cJ x y
  | _,_,_=>false
def aV_:(k v k' v':K)→List (TyK k×TyK v)→Option (List (TyK k'×TyK v'))
  | .key, .int, .key, .int,xs=>some xs
  | .pair, .int, .pair, .int,xs=>some xs
  | .pair, .lstr, .pair, .lstr,xs=>some xs
  | _,_,_,_,_=>none
def hG_:K→Bool
  | .lrecord=>true
  | _=>false
def hP_:K→Bool:=fun _=>false
def kup:(s:K)→List (TyK s)→Option ((t:K)×List (TyK t)):=fun _ _=>none
def kdn:(s:K)→List (TyK s)→Option ((t:K)×List (TyK t)):=fun _ _=>none
class Glob where
  W:Go.World
  B:Nat
def gbs [Glob] (b:Nat):Prop:=b=0∨b=1∨b=6∨b=Glob.B
def cod [Glob]:Cod K TyK where
  xcl:=hP_
  up:=kup
  dn:=kdn
  same s t:=Nat.beq (kno s) (kno t)
  cast:=eW_
  sz:=ksz
  by':=kby
  bor:=hG_
  enc:=fb_
  dec:=hc_
  bytes:=cu_
  ofb:=gW_
  keq:=g7_
  mcast:=aV_
  gb:=gbs
  bt:=40
  sht:=5
  shk s:=match s with | .bbyte=>true | _=>false
  gp w:=∀b,gbs b→w.heap[b]? =Glob.W.heap[b]?
  gl _:= .map (some Glob.B)
  gv t g:=match Nat.beq t 86&&Nat.beq g 0 with | true=>some 0 | false=>none
  gm t g:=match Nat.beq t 86&&Nat.beq g 0 with | true=>some impl_kinds | false=>none
theorem codOk [Glob]:bH cod where
  gst w w' h _ hs b hb:=(hs b hb).trans (h b hb)
  up s xs t ys h:=by cases h
  dn s xs t ys h:=by cases h
  xbor t h:=by cases t<;>first | rfl | cases h
  xin t x b s xs h hm:=by
    change .inl b s xs∈fb_ t x at hm
    cases t<;>first | (cases h;done) | (simp only [fb_,List.mem_cons,List.not_mem_nil,or_false] at hm;(repeat' (rcases hm with hm | hm))<;>first | rfl | (cases hm;rfl) | cases hm)
  same s t h:=by have:=Nat.eq_of_beq_eq_true h;cases s<;>cases t<;>first | rfl | (simp [kno] at this)
  len t x:=by cases t<;>rfl
  dec t cs x h:=by
    change hc_ t cs=some x at h
    unfold hc_ at h
    split at h<;>first | (cases h;rfl) | cases h
  deep t x c h:=by
    change c∈fb_ t x at h
    cases t<;>simp only [fb_,List.mem_cons,List.not_mem_nil,or_false] at h<;>(repeat' (rcases h with h | h))<;>first | exact .inl ⟨_,rfl⟩ | exact .inr ⟨_,_,rfl,fun e=>by cases e⟩
  cast s t xs ys h:=by
    change eW_ s t xs=some ys at h
    unfold eW_ at h
    split at h
    all_goals first | (cases h;exact ⟨rfl,rfl⟩) | cases h
  ofb t b xs h:=by
    change gW_ t b=some xs at h
    unfold gW_ at h
    split at h
    all_goals first
      | (cases h;done)
      | (cases h
         refine ⟨by unfold bC;rw [List.length_map,Array.length_toList];rfl,fun i x hx=> ?_,rfl⟩
         simp only [bC,List.getElem?_map,Option.map_eq_some_iff] at hx
         obtain ⟨c,hc,rfl⟩:=hx
         exact ⟨c,by simpa using hc,rfl⟩)
  keq k x y h:=by
    change g7_ k x y=true at h
    unfold g7_ at h
    split at h
    all_goals first | cases h | (first | exact K7 h | exact DP h)
  mcast k v k' v' xs ys h:=by
    change aV_ k v k' v' xs=some ys at h
    unfold aV_ at h
    split at h
    all_goals first | (cases h;exact ⟨rfl,rfl,rfl⟩) | cases h
  bytes t xs bs h:=by
    change cu_ t xs=some bs at h
    unfold cu_ at h
    split at h
    ·cases h;exact ⟨rfl,fun i x b h1 h2=>by rw [h1] at h2;cases h2;rfl⟩
    ·cases h
open Go Km Go.Proofs
set_option maxRecDepth 100000
theorem mixed:Tryz.prog.follows .mixedOrders=true:=by kernel_rfl
variable [Glob]
def tbl:List (Nat×TI K TyK):=[
  (2,⟨1,8, .int .i64,[.lit (.int .i64 0)]⟩),
  (3,⟨1,8, .int .i64,[.lit (.int .i64 0)]⟩),
  (4,⟨1,1, .bool,[.lit (.bool false)]⟩),
  (5,⟨1,1, .int .u8,[.lit (.int .u8 0)]⟩),
  (9,⟨1,16, .str,[.lit (.string ⟨#[]⟩)]⟩),
  (12,⟨1,8, .int .u64,[.lit (.int .u64 0)]⟩),
  (21,⟨1,4, .int .i32,[.lit (.int .i32 0)]⟩),
  (24,⟨1,24, .slice 5 .byte,[.nil .byte]⟩),
  (27,⟨1,24, .slice 9 .str,[.nil .str]⟩),
  (29,⟨1,24, .slice 61 .end,[.nil .end]⟩),
  (30,⟨1,24, .slice 100 .parcel,[.nil .parcel]⟩),
  (31,⟨1,24, .slice 112 .record,[.nil .record]⟩),
  (33,⟨7,136, .struct [(0,9),(1,3),(2,29),(3,30),(4,9),(5,31),(6,31)],[.lit (.string ⟨#[]⟩), .lit (.int .i64 0), .nil .end, .nil .parcel, .lit (.string ⟨#[]⟩), .nil .record, .nil .record]⟩),
  (38,⟨1,8, .other,[.lit (.pointer none)]⟩),
  (40,⟨2,32, .struct [(0,38),(1,24)],[.lit (.pointer none), .nil .bbyte]⟩),
  (46,⟨1,8, .other,[.lit (.pointer none)]⟩),
  (54,⟨1,24, .slice 146 .item,[.nil .item]⟩),
  (56,⟨2,32, .struct [(0,3),(1,54)],[.lit (.int .i64 0), .nil .item]⟩),
  (57,⟨1,24, .slice 166 .held,[.nil .held]⟩),
  (59,⟨4,72, .struct [(0,3),(1,57),(2,9),(3,27)],[.lit (.int .i64 0), .nil .held, .lit (.string ⟨#[]⟩), .nil .str]⟩),
  (61,⟨12,152, .struct [(0,3),(1,4),(2,3),(3,3),(4,3),(5,4),(6,56),(8,59)],[.lit (.int .i64 0), .lit (.bool false), .lit (.int .i64 0), .lit (.int .i64 0), .lit (.int .i64 0), .lit (.bool false), .lit (.int .i64 0), .nil .item, .lit (.int .i64 0), .nil .held, .lit (.string ⟨#[]⟩), .nil .str]⟩),
  (65,⟨1,24, .slice 3 .int,[.nil .int]⟩),
  (74,⟨5,48, .struct [(0,3),(1,3),(2,3),(3,3),(4,9)],[.lit (.int .i64 0), .lit (.int .i64 0), .lit (.int .i64 0), .lit (.int .i64 0), .lit (.string ⟨#[]⟩)]⟩),
  (80,⟨1,24, .slice 128 .packet,[.nil .packet]⟩),
  (82,⟨15,200, .struct [(0,3),(1,61),(13,80),(14,9)],[.lit (.int .i64 0), .lit (.int .i64 0), .lit (.bool false), .lit (.int .i64 0), .lit (.int .i64 0), .lit (.int .i64 0), .lit (.bool false), .lit (.int .i64 0), .nil .item, .lit (.int .i64 0), .nil .held, .lit (.string ⟨#[]⟩), .nil .str, .nil .packet, .lit (.string ⟨#[]⟩)]⟩),
  (84,⟨2,16, .arr 2 3 .int,[.lit (.int .i64 0), .lit (.int .i64 0)]⟩),
  (90,⟨1,8, .other,[.lit (.pointer none)]⟩),
  (92,⟨2,32, .struct [(0,24),(1,3)],[.nil .byte, .lit (.int .i64 0)]⟩),
  (94,⟨1,8, .int .u64,[.lit (.int .u64 0)]⟩),
  (96,⟨1,24, .slice 130 .l7count,[.nil .l7count]⟩),
  (100,⟨3,40, .struct [(0,3),(1,9),(2,9)],[.lit (.int .i64 0), .lit (.string ⟨#[]⟩), .lit (.string ⟨#[]⟩)]⟩),
  (112,⟨4,40, .struct [(0,3),(1,3),(2,3),(3,9)],[.lit (.int .i64 0), .lit (.int .i64 0), .lit (.int .i64 0), .lit (.string ⟨#[]⟩)]⟩),
  (116,⟨1,8, .map 118 3 .key .int,[.lit (.map none)]⟩),
  (118,⟨2,24, .struct [(0,3),(1,9)],[.lit (.int .i64 0), .lit (.string ⟨#[]⟩)]⟩),
  (119,⟨1,8, .map 121 27 .pair .lstr,[.lit (.map none)]⟩),
  (121,⟨3,24, .struct [(0,3),(1,3),(2,3)],[.lit (.int .i64 0), .lit (.int .i64 0), .lit (.int .i64 0)]⟩),
  (122,⟨1,8, .map 121 3 .pair .int,[.lit (.map none)]⟩),
  (128,⟨9,80, .struct [(0,3),(1,3),(2,3),(3,3),(4,3),(5,3),(6,3),(7,4),(8,9)],[.lit (.int .i64 0), .lit (.int .i64 0), .lit (.int .i64 0), .lit (.int .i64 0), .lit (.int .i64 0), .lit (.int .i64 0), .lit (.int .i64 0), .lit (.bool false), .lit (.string ⟨#[]⟩)]⟩),
  (130,⟨3,32, .struct [(0,3),(1,9),(2,3)],[.lit (.int .i64 0), .lit (.string ⟨#[]⟩), .lit (.int .i64 0)]⟩),
  (140,⟨1,24, .slice 144 .part,[.nil .part]⟩),
  (144,⟨2,24, .struct [(0,9),(1,4)],[.lit (.string ⟨#[]⟩), .lit (.bool false)]⟩),
  (146,⟨4,40, .struct [(0,144),(2,4),(3,3)],[.lit (.string ⟨#[]⟩), .lit (.bool false), .lit (.bool false), .lit (.int .i64 0)]⟩),
  (148,⟨1,24, .slice 31 .lrecord,[.nil .lrecord]⟩),
  (149,⟨1,8, .other,[.lit (.pointer none)]⟩),
  (159,⟨1,8, .int .i64,[.lit (.int .i64 0)]⟩),
  (162,⟨1,8, .other,[.lit (.pointer none)]⟩),
  (166,⟨3,32, .struct [(0,3),(1,144)],[.lit (.int .i64 0), .lit (.string ⟨#[]⟩), .lit (.bool false)]⟩),
  (168,⟨1,8, .other,[.lit (.pointer none)]⟩),
  (171,⟨1,8, .int .u64,[.lit (.int .u64 0)]⟩),
  (182,⟨1,4, .int .u32,[.lit (.int .u32 0)]⟩),
  (190,⟨1,8, .other,[.lit (.pointer none)]⟩),
  (191,⟨8,8, .arr 8 5 .byte,[.lit (.int .u8 0), .lit (.int .u8 0), .lit (.int .u8 0), .lit (.int .u8 0), .lit (.int .u8 0), .lit (.int .u8 0), .lit (.int .u8 0), .lit (.int .u8 0)]⟩),
  (198,⟨1,8, .other,[.lit (.pointer none)]⟩),
  (200,⟨1,16, .struct [(0,9)],[.lit (.string ⟨#[]⟩)]⟩)]
abbrev T:=aU tbl
theorem hO_:cP Tryz.prog cod T 2 ⟨1,8, .int .i64,[.lit (.int .i64 0)]⟩:=⟨_,_,_,Tryz.type2,rfl,rfl,rfl,by kernel_rfl,by kernel_rfl,Tryz.underlying2,by kernel_rfl,rfl⟩
theorem hR_:cP Tryz.prog cod T 3 ⟨1,8, .int .i64,[.lit (.int .i64 0)]⟩:=⟨_,_,_,Tryz.type3,rfl,rfl,rfl,by kernel_rfl,by kernel_rfl,Tryz.underlying3,by kernel_rfl,rfl⟩
theorem hV_:cP Tryz.prog cod T 4 ⟨1,1, .bool,[.lit (.bool false)]⟩:=⟨_,_,_,Tryz.type4,rfl,rfl,rfl,by kernel_rfl,by kernel_rfl,Tryz.underlying4,by kernel_rfl,rfl⟩
theorem hN_:cP Tryz.prog cod T 5 ⟨1,1, .int .u8,[.lit (.int .u8 0)]⟩:=⟨_,_,_,Tryz.type5,rfl,rfl,rfl,by kernel_rfl,by kernel_rfl,Tryz.underlying5,by kernel_rfl,rfl⟩
theorem hJ_:cP Tryz.prog cod T 9 ⟨1,16, .str,[.lit (.string ⟨#[]⟩)]⟩:=⟨_,_,_,Tryz.type9,rfl,rfl,rfl,by kernel_rfl,by kernel_rfl,Tryz.underlying9,by kernel_rfl,rfl⟩
theorem gx_:cP Tryz.prog cod T 12 ⟨1,8, .int .u64,[.lit (.int .u64 0)]⟩:=⟨_,_,_,Tryz.type12,rfl,rfl,rfl,by kernel_rfl,by kernel_rfl,Tryz.underlying12,by kernel_rfl,rfl⟩
theorem gH_:cP Tryz.prog cod T 21 ⟨1,4, .int .i32,[.lit (.int .i32 0)]⟩:=⟨_,_,_,Tryz.type21,rfl,rfl,rfl,by kernel_rfl,by kernel_rfl,Tryz.underlying21,by kernel_rfl,rfl⟩
theorem gw_:cP Tryz.prog cod T 24 ⟨1,24, .slice 5 .byte,[.nil .byte]⟩:=⟨_,_,_,Tryz.type24,rfl,rfl,rfl,by kernel_rfl,by kernel_rfl,Tryz.underlying24,by kernel_rfl,⟨⟨rfl,_,Tryz.type5,by kernel_rfl,by kernel_rfl⟩,_,_,Tryz.type5,rfl,by kernel_rfl,by kernel_rfl,Nat.le_of_ble_eq_true (by kernel_rfl)⟩⟩
theorem g4_:cP Tryz.prog cod T 27 ⟨1,24, .slice 9 .str,[.nil .str]⟩:=⟨_,_,_,Tryz.type27,rfl,rfl,rfl,by kernel_rfl,by kernel_rfl,Tryz.underlying27,by kernel_rfl,⟨⟨rfl,_,Tryz.type9,by kernel_rfl,by kernel_rfl⟩,_,_,Tryz.type9,rfl,by kernel_rfl,by kernel_rfl,Nat.le_of_ble_eq_true (by kernel_rfl)⟩⟩
theorem gR_:cP Tryz.prog cod T 29 ⟨1,24, .slice 61 .end,[.nil .end]⟩:=⟨_,_,_,Tryz.type29,rfl,rfl,rfl,by kernel_rfl,by kernel_rfl,Tryz.underlying29,by kernel_rfl,⟨⟨rfl,_,Tryz.type61,by kernel_rfl,by kernel_rfl⟩,_,_,Tryz.type61,rfl,by kernel_rfl,by kernel_rfl,Nat.le_of_ble_eq_true (by kernel_rfl)⟩⟩
theorem ho_:cP Tryz.prog cod T 30 ⟨1,24, .slice 100 .parcel,[.nil .parcel]⟩:=⟨_,_,_,Tryz.type30,rfl,rfl,rfl,by kernel_rfl,by kernel_rfl,Tryz.underlying30,by kernel_rfl,⟨⟨rfl,_,Tryz.type100,by kernel_rfl,by kernel_rfl⟩,_,_,Tryz.type100,rfl,by kernel_rfl,by kernel_rfl,Nat.le_of_ble_eq_true (by kernel_rfl)⟩⟩
theorem hh_:cP Tryz.prog cod T 31 ⟨1,24, .slice 112 .record,[.nil .record]⟩:=⟨_,_,_,Tryz.type31,rfl,rfl,rfl,by kernel_rfl,by kernel_rfl,Tryz.underlying31,by kernel_rfl,⟨⟨rfl,_,Tryz.type112,by kernel_rfl,by kernel_rfl⟩,_,_,Tryz.type112,rfl,by kernel_rfl,by kernel_rfl,Nat.le_of_ble_eq_true (by kernel_rfl)⟩⟩
theorem hl_:cP Tryz.prog cod T 33 ⟨7,136, .struct [(0,9),(1,3),(2,29),(3,30),(4,9),(5,31),(6,31)],[.lit (.string ⟨#[]⟩), .lit (.int .i64 0), .nil .end, .nil .parcel, .lit (.string ⟨#[]⟩), .nil .record, .nil .record]⟩:=⟨_,_,_,Tryz.type33,rfl,rfl,rfl,by kernel_rfl,by kernel_rfl,Tryz.underlying33,by kernel_rfl,⟨_,rfl,by kernel_rfl,by kernel_rfl,by kernel_rfl,by kernel_rfl,by kernel_rfl⟩⟩
theorem hi_:cP Tryz.prog cod T 38 ⟨1,8, .other,[.lit (.pointer none)]⟩:=⟨_,_,_,Tryz.type38,rfl,rfl,rfl,by kernel_rfl,by kernel_rfl,Tryz.underlying38,by kernel_rfl,trivial⟩
theorem gZ_:cP Tryz.prog cod T 40 ⟨2,32, .struct [(0,38),(1,24)],[.lit (.pointer none), .nil .bbyte]⟩:=⟨_,_,_,Tryz.type40,rfl,rfl,rfl,by kernel_rfl,by kernel_rfl,Tryz.underlying40,by kernel_rfl,⟨_,rfl,by kernel_rfl,by kernel_rfl,by kernel_rfl,by kernel_rfl,by kernel_rfl⟩⟩
theorem g6_:cP Tryz.prog cod T 46 ⟨1,8, .other,[.lit (.pointer none)]⟩:=⟨_,_,_,Tryz.type46,rfl,rfl,rfl,by kernel_rfl,by kernel_rfl,Tryz.underlying46,by kernel_rfl,trivial⟩
theorem he_:cP Tryz.prog cod T 54 ⟨1,24, .slice 146 .item,[.nil .item]⟩:=⟨_,_,_,Tryz.type54,rfl,rfl,rfl,by kernel_rfl,by kernel_rfl,Tryz.underlying54,by kernel_rfl,⟨⟨rfl,_,Tryz.type146,by kernel_rfl,by kernel_rfl⟩,_,_,Tryz.type146,rfl,by kernel_rfl,by kernel_rfl,Nat.le_of_ble_eq_true (by kernel_rfl)⟩⟩
theorem gP_:cP Tryz.prog cod T 56 ⟨2,32, .struct [(0,3),(1,54)],[.lit (.int .i64 0), .nil .item]⟩:=⟨_,_,_,Tryz.type56,rfl,rfl,rfl,by kernel_rfl,by kernel_rfl,Tryz.underlying56,by kernel_rfl,⟨_,rfl,by kernel_rfl,by kernel_rfl,by kernel_rfl,by kernel_rfl,by kernel_rfl⟩⟩
theorem gG_:cP Tryz.prog cod T 57 ⟨1,24, .slice 166 .held,[.nil .held]⟩:=⟨_,_,_,Tryz.type57,rfl,rfl,rfl,by kernel_rfl,by kernel_rfl,Tryz.underlying57,by kernel_rfl,⟨⟨rfl,_,Tryz.type166,by kernel_rfl,by kernel_rfl⟩,_,_,Tryz.type166,rfl,by kernel_rfl,by kernel_rfl,Nat.le_of_ble_eq_true (by kernel_rfl)⟩⟩
theorem hf_:cP Tryz.prog cod T 59 ⟨4,72, .struct [(0,3),(1,57),(2,9),(3,27)],[.lit (.int .i64 0), .nil .held, .lit (.string ⟨#[]⟩), .nil .str]⟩:=⟨_,_,_,Tryz.type59,rfl,rfl,rfl,by kernel_rfl,by kernel_rfl,Tryz.underlying59,by kernel_rfl,⟨_,rfl,by kernel_rfl,by kernel_rfl,by kernel_rfl,by kernel_rfl,by kernel_rfl⟩⟩
theorem gN_:cP Tryz.prog cod T 61 ⟨12,152, .struct [(0,3),(1,4),(2,3),(3,3),(4,3),(5,4),(6,56),(8,59)],[.lit (.int .i64 0), .lit (.bool false), .lit (.int .i64 0), .lit (.int .i64 0), .lit (.int .i64 0), .lit (.bool false), .lit (.int .i64 0), .nil .item, .lit (.int .i64 0), .nil .held, .lit (.string ⟨#[]⟩), .nil .str]⟩:=⟨_,_,_,Tryz.type61,rfl,rfl,rfl,by kernel_rfl,by kernel_rfl,Tryz.underlying61,by kernel_rfl,⟨_,rfl,by kernel_rfl,by kernel_rfl,by kernel_rfl,by kernel_rfl,by kernel_rfl⟩⟩
theorem hb_:cP Tryz.prog cod T 65 ⟨1,24, .slice 3 .int,[.nil .int]⟩:=⟨_,_,_,Tryz.type65,rfl,rfl,rfl,by kernel_rfl,by kernel_rfl,Tryz.underlying65,by kernel_rfl,⟨⟨rfl,_,Tryz.type3,by kernel_rfl,by kernel_rfl⟩,_,_,Tryz.type3,rfl,by kernel_rfl,by kernel_rfl,Nat.le_of_ble_eq_true (by kernel_rfl)⟩⟩
theorem gV_:cP Tryz.prog cod T 74 ⟨5,48, .struct [(0,3),(1,3),(2,3),(3,3),(4,9)],[.lit (.int .i64 0), .lit (.int .i64 0), .lit (.int .i64 0), .lit (.int .i64 0), .lit (.string ⟨#[]⟩)]⟩:=⟨_,_,_,Tryz.type74,rfl,rfl,rfl,by kernel_rfl,by kernel_rfl,Tryz.underlying74,by kernel_rfl,⟨_,rfl,by kernel_rfl,by kernel_rfl,by kernel_rfl,by kernel_rfl,by kernel_rfl⟩⟩
theorem gX_:cP Tryz.prog cod T 80 ⟨1,24, .slice 128 .packet,[.nil .packet]⟩:=⟨_,_,_,Tryz.type80,rfl,rfl,rfl,by kernel_rfl,by kernel_rfl,Tryz.underlying80,by kernel_rfl,⟨⟨rfl,_,Tryz.type128,by kernel_rfl,by kernel_rfl⟩,_,_,Tryz.type128,rfl,by kernel_rfl,by kernel_rfl,Nat.le_of_ble_eq_true (by kernel_rfl)⟩⟩
theorem gT_:cP Tryz.prog cod T 82 ⟨15,200, .struct [(0,3),(1,61),(13,80),(14,9)],[.lit (.int .i64 0), .lit (.int .i64 0), .lit (.bool false), .lit (.int .i64 0), .lit (.int .i64 0), .lit (.int .i64 0), .lit (.bool false), .lit (.int .i64 0), .nil .item, .lit (.int .i64 0), .nil .held, .lit (.string ⟨#[]⟩), .nil .str, .nil .packet, .lit (.string ⟨#[]⟩)]⟩:=⟨_,_,_,Tryz.type82,rfl,rfl,rfl,by kernel_rfl,by kernel_rfl,Tryz.underlying82,by kernel_rfl,⟨_,rfl,by kernel_rfl,by kernel_rfl,by kernel_rfl,by kernel_rfl,by kernel_rfl⟩⟩
theorem hd_:cP Tryz.prog cod T 84 ⟨2,16, .arr 2 3 .int,[.lit (.int .i64 0), .lit (.int .i64 0)]⟩:=⟨_,_,_,Tryz.type84,rfl,rfl,rfl,by kernel_rfl,by kernel_rfl,Tryz.underlying84,by kernel_rfl,⟨rfl,⟨_,Tryz.type3,by kernel_rfl,by kernel_rfl⟩,_,rfl,by kernel_rfl,by kernel_rfl⟩⟩
theorem g9_:cP Tryz.prog cod T 90 ⟨1,8, .other,[.lit (.pointer none)]⟩:=⟨_,_,_,Tryz.type90,rfl,rfl,rfl,by kernel_rfl,by kernel_rfl,Tryz.underlying90,by kernel_rfl,trivial⟩
theorem hg_:cP Tryz.prog cod T 92 ⟨2,32, .struct [(0,24),(1,3)],[.nil .byte, .lit (.int .i64 0)]⟩:=⟨_,_,_,Tryz.type92,rfl,rfl,rfl,by kernel_rfl,by kernel_rfl,Tryz.underlying92,by kernel_rfl,⟨_,rfl,by kernel_rfl,by kernel_rfl,by kernel_rfl,by kernel_rfl,by kernel_rfl⟩⟩
theorem hq_:cP Tryz.prog cod T 94 ⟨1,8, .int .u64,[.lit (.int .u64 0)]⟩:=⟨_,_,_,Tryz.type94,rfl,rfl,rfl,by kernel_rfl,by kernel_rfl,Tryz.underlying94,by kernel_rfl,rfl⟩
theorem gD_:cP Tryz.prog cod T 96 ⟨1,24, .slice 130 .l7count,[.nil .l7count]⟩:=⟨_,_,_,Tryz.type96,rfl,rfl,rfl,by kernel_rfl,by kernel_rfl,Tryz.underlying96,by kernel_rfl,⟨⟨rfl,_,Tryz.type130,by kernel_rfl,by kernel_rfl⟩,_,_,Tryz.type130,rfl,by kernel_rfl,by kernel_rfl,Nat.le_of_ble_eq_true (by kernel_rfl)⟩⟩
theorem fN_:cP Tryz.prog cod T 100 ⟨3,40, .struct [(0,3),(1,9),(2,9)],[.lit (.int .i64 0), .lit (.string ⟨#[]⟩), .lit (.string ⟨#[]⟩)]⟩:=⟨_,_,_,Tryz.type100,rfl,rfl,rfl,by kernel_rfl,by kernel_rfl,Tryz.underlying100,by kernel_rfl,⟨_,rfl,by kernel_rfl,by kernel_rfl,by kernel_rfl,by kernel_rfl,by kernel_rfl⟩⟩
theorem fA_:cP Tryz.prog cod T 112 ⟨4,40, .struct [(0,3),(1,3),(2,3),(3,9)],[.lit (.int .i64 0), .lit (.int .i64 0), .lit (.int .i64 0), .lit (.string ⟨#[]⟩)]⟩:=⟨_,_,_,Tryz.type112,rfl,rfl,rfl,by kernel_rfl,by kernel_rfl,Tryz.underlying112,by kernel_rfl,⟨_,rfl,by kernel_rfl,by kernel_rfl,by kernel_rfl,by kernel_rfl,by kernel_rfl⟩⟩
theorem fG_:cP Tryz.prog cod T 116 ⟨1,8, .map 118 3 .key .int,[.lit (.map none)]⟩:=⟨_,_,_,Tryz.type116,rfl,rfl,rfl,by kernel_rfl,by kernel_rfl,Tryz.underlying116,by kernel_rfl,⟨rfl,fun _ _=>by kernel_rfl,⟨_,_,rfl,rfl,by kernel_rfl⟩,fun _=>rfl,_,_,Tryz.type3,rfl,by kernel_rfl⟩⟩
theorem fw_:cP Tryz.prog cod T 118 ⟨2,24, .struct [(0,3),(1,9)],[.lit (.int .i64 0), .lit (.string ⟨#[]⟩)]⟩:=⟨_,_,_,Tryz.type118,rfl,rfl,rfl,by kernel_rfl,by kernel_rfl,Tryz.underlying118,by kernel_rfl,⟨_,rfl,by kernel_rfl,by kernel_rfl,by kernel_rfl,by kernel_rfl,by kernel_rfl⟩⟩
theorem f8_:cP Tryz.prog cod T 119 ⟨1,8, .map 121 27 .pair .lstr,[.lit (.map none)]⟩:=⟨_,_,_,Tryz.type119,rfl,rfl,rfl,by kernel_rfl,by kernel_rfl,Tryz.underlying119,by kernel_rfl,⟨rfl,fun _ _=>by kernel_rfl,⟨_,_,rfl,rfl,by kernel_rfl⟩,fun _=>rfl,_,_,Tryz.type27,rfl,by kernel_rfl⟩⟩
theorem fQ_:cP Tryz.prog cod T 121 ⟨3,24, .struct [(0,3),(1,3),(2,3)],[.lit (.int .i64 0), .lit (.int .i64 0), .lit (.int .i64 0)]⟩:=⟨_,_,_,Tryz.type121,rfl,rfl,rfl,by kernel_rfl,by kernel_rfl,Tryz.underlying121,by kernel_rfl,⟨_,rfl,by kernel_rfl,by kernel_rfl,by kernel_rfl,by kernel_rfl,by kernel_rfl⟩⟩
theorem fo_:cP Tryz.prog cod T 122 ⟨1,8, .map 121 3 .pair .int,[.lit (.map none)]⟩:=⟨_,_,_,Tryz.type122,rfl,rfl,rfl,by kernel_rfl,by kernel_rfl,Tryz.underlying122,by kernel_rfl,⟨rfl,fun _ _=>by kernel_rfl,⟨_,_,rfl,rfl,by kernel_rfl⟩,fun _=>rfl,_,_,Tryz.type3,rfl,by kernel_rfl⟩⟩
theorem fz_:cP Tryz.prog cod T 128 ⟨9,80, .struct [(0,3),(1,3),(2,3),(3,3),(4,3),(5,3),(6,3),(7,4),(8,9)],[.lit (.int .i64 0), .lit (.int .i64 0), .lit (.int .i64 0), .lit (.int .i64 0), .lit (.int .i64 0), .lit (.int .i64 0), .lit (.int .i64 0), .lit (.bool false), .lit (.string ⟨#[]⟩)]⟩:=⟨_,_,_,Tryz.type128,rfl,rfl,rfl,by kernel_rfl,by kernel_rfl,Tryz.underlying128,by kernel_rfl,⟨_,rfl,by kernel_rfl,by kernel_rfl,by kernel_rfl,by kernel_rfl,by kernel_rfl⟩⟩
theorem fU_:cP Tryz.prog cod T 130 ⟨3,32, .struct [(0,3),(1,9),(2,3)],[.lit (.int .i64 0), .lit (.string ⟨#[]⟩), .lit (.int .i64 0)]⟩:=⟨_,_,_,Tryz.type130,rfl,rfl,rfl,by kernel_rfl,by kernel_rfl,Tryz.underlying130,by kernel_rfl,⟨_,rfl,by kernel_rfl,by kernel_rfl,by kernel_rfl,by kernel_rfl,by kernel_rfl⟩⟩
theorem f7_:cP Tryz.prog cod T 140 ⟨1,24, .slice 144 .part,[.nil .part]⟩:=⟨_,_,_,Tryz.type140,rfl,rfl,rfl,by kernel_rfl,by kernel_rfl,Tryz.underlying140,by kernel_rfl,⟨⟨rfl,_,Tryz.type144,by kernel_rfl,by kernel_rfl⟩,_,_,Tryz.type144,rfl,by kernel_rfl,by kernel_rfl,Nat.le_of_ble_eq_true (by kernel_rfl)⟩⟩
theorem fx_:cP Tryz.prog cod T 144 ⟨2,24, .struct [(0,9),(1,4)],[.lit (.string ⟨#[]⟩), .lit (.bool false)]⟩:=⟨_,_,_,Tryz.type144,rfl,rfl,rfl,by kernel_rfl,by kernel_rfl,Tryz.underlying144,by kernel_rfl,⟨_,rfl,by kernel_rfl,by kernel_rfl,by kernel_rfl,by kernel_rfl,by kernel_rfl⟩⟩
theorem ge_:cP Tryz.prog cod T 146 ⟨4,40, .struct [(0,144),(2,4),(3,3)],[.lit (.string ⟨#[]⟩), .lit (.bool false), .lit (.bool false), .lit (.int .i64 0)]⟩:=⟨_,_,_,Tryz.type146,rfl,rfl,rfl,by kernel_rfl,by kernel_rfl,Tryz.underlying146,by kernel_rfl,⟨_,rfl,by kernel_rfl,by kernel_rfl,by kernel_rfl,by kernel_rfl,by kernel_rfl⟩⟩
theorem gf_:cP Tryz.prog cod T 148 ⟨1,24, .slice 31 .lrecord,[.nil .lrecord]⟩:=⟨_,_,_,Tryz.type148,rfl,rfl,rfl,by kernel_rfl,by kernel_rfl,Tryz.underlying148,by kernel_rfl,⟨⟨rfl,_,Tryz.type31,by kernel_rfl,by kernel_rfl⟩,_,_,Tryz.type31,rfl,by kernel_rfl,by kernel_rfl,Nat.le_of_ble_eq_true (by kernel_rfl)⟩⟩
theorem f0_:cP Tryz.prog cod T 149 ⟨1,8, .other,[.lit (.pointer none)]⟩:=⟨_,_,_,Tryz.type149,rfl,rfl,rfl,by kernel_rfl,by kernel_rfl,Tryz.underlying149,by kernel_rfl,trivial⟩
theorem fR_:cP Tryz.prog cod T 159 ⟨1,8, .int .i64,[.lit (.int .i64 0)]⟩:=⟨_,_,_,Tryz.type159,rfl,rfl,rfl,by kernel_rfl,by kernel_rfl,Tryz.underlying159,by kernel_rfl,rfl⟩
theorem f3_:cP Tryz.prog cod T 162 ⟨1,8, .other,[.lit (.pointer none)]⟩:=⟨_,_,_,Tryz.type162,rfl,rfl,rfl,by kernel_rfl,by kernel_rfl,Tryz.underlying162,by kernel_rfl,trivial⟩
theorem fq_:cP Tryz.prog cod T 166 ⟨3,32, .struct [(0,3),(1,144)],[.lit (.int .i64 0), .lit (.string ⟨#[]⟩), .lit (.bool false)]⟩:=⟨_,_,_,Tryz.type166,rfl,rfl,rfl,by kernel_rfl,by kernel_rfl,Tryz.underlying166,by kernel_rfl,⟨_,rfl,by kernel_rfl,by kernel_rfl,by kernel_rfl,by kernel_rfl,by kernel_rfl⟩⟩
theorem fV_:cP Tryz.prog cod T 168 ⟨1,8, .other,[.lit (.pointer none)]⟩:=⟨_,_,_,Tryz.type168,rfl,rfl,rfl,by kernel_rfl,by kernel_rfl,Tryz.underlying168,by kernel_rfl,trivial⟩
theorem gn_:cP Tryz.prog cod T 171 ⟨1,8, .int .u64,[.lit (.int .u64 0)]⟩:=⟨_,_,_,Tryz.type171,rfl,rfl,rfl,by kernel_rfl,by kernel_rfl,Tryz.underlying171,by kernel_rfl,rfl⟩
theorem f2_:cP Tryz.prog cod T 182 ⟨1,4, .int .u32,[.lit (.int .u32 0)]⟩:=⟨_,_,_,Tryz.type182,rfl,rfl,rfl,by kernel_rfl,by kernel_rfl,Tryz.underlying182,by kernel_rfl,rfl⟩
theorem ga_:cP Tryz.prog cod T 190 ⟨1,8, .other,[.lit (.pointer none)]⟩:=⟨_,_,_,Tryz.type190,rfl,rfl,rfl,by kernel_rfl,by kernel_rfl,Tryz.underlying190,by kernel_rfl,trivial⟩
theorem fl_:cP Tryz.prog cod T 191 ⟨8,8, .arr 8 5 .byte,[.lit (.int .u8 0), .lit (.int .u8 0), .lit (.int .u8 0), .lit (.int .u8 0), .lit (.int .u8 0), .lit (.int .u8 0), .lit (.int .u8 0), .lit (.int .u8 0)]⟩:=⟨_,_,_,Tryz.type191,rfl,rfl,rfl,by kernel_rfl,by kernel_rfl,Tryz.underlying191,by kernel_rfl,⟨rfl,⟨_,Tryz.type5,by kernel_rfl,by kernel_rfl⟩,_,rfl,by kernel_rfl,by kernel_rfl⟩⟩
theorem fy_:cP Tryz.prog cod T 198 ⟨1,8, .other,[.lit (.pointer none)]⟩:=⟨_,_,_,Tryz.type198,rfl,rfl,rfl,by kernel_rfl,by kernel_rfl,Tryz.underlying198,by kernel_rfl,trivial⟩
theorem fC_:cP Tryz.prog cod T 200 ⟨1,16, .struct [(0,9)],[.lit (.string ⟨#[]⟩)]⟩:=⟨_,_,_,Tryz.type200,rfl,rfl,rfl,by kernel_rfl,by kernel_rfl,Tryz.underlying200,by kernel_rfl,⟨_,rfl,by kernel_rfl,by kernel_rfl,by kernel_rfl,by kernel_rfl,by kernel_rfl⟩⟩
theorem rows:∀e∈tbl,cP Tryz.prog cod T e.1 e.2:=
  all_cons hO_ (all_cons hR_ (all_cons hV_ (all_cons hN_ (all_cons hJ_ (all_cons gx_ (all_cons gH_ (all_cons gw_ (all_cons g4_ (all_cons gR_ (all_cons ho_ (all_cons hh_ (all_cons hl_ (all_cons hi_ (all_cons gZ_ (all_cons g6_ (all_cons he_ (all_cons gP_ (all_cons gG_ (all_cons hf_ (all_cons gN_ (all_cons hb_ (all_cons gV_ (all_cons gX_ (all_cons gT_ (all_cons hd_ (all_cons g9_ (all_cons hg_ (all_cons hq_ (all_cons gD_ (all_cons fN_ (all_cons fA_ (all_cons fG_ (all_cons fw_ (all_cons f8_ (all_cons fQ_ (all_cons fo_ (all_cons fz_ (all_cons fU_ (all_cons f7_ (all_cons fx_ (all_cons ge_ (all_cons gf_ (all_cons f0_ (all_cons fR_ (all_cons f3_ (all_cons fq_ (all_cons fV_ (all_cons gn_ (all_cons f2_ (all_cons ga_ (all_cons fl_ (all_cons fy_ (all_cons fC_ (aB))))))))))))))))))))))))))))))))))))))))))))))))))))))
theorem tok:TOk Tryz.prog cod T:=TOk.of rows (by kernel_rfl)
theorem eok:EOk Tryz.prog cod T:=EOk.of rows
def hy_:List (Nat×TI K TyK):=[
  (3,⟨1,8, .int .i64,[.lit (.int .i64 0)]⟩),
  (5,⟨1,1, .int .u8,[.lit (.int .u8 0)]⟩),
  (9,⟨1,16, .str,[.lit (.string ⟨#[]⟩)]⟩),
  (24,⟨1,24, .slice 5 .bbyte,[.nil .bbyte]⟩),
  (38,⟨1,8, .other,[.lit (.pointer none)]⟩),
  (40,⟨2,32, .struct [(0,38),(1,24)],[.lit (.pointer none), .nil .bbyte]⟩)]
abbrev TB:=aU hy_
theorem gK_:cP Tryz.prog cod TB 3 ⟨1,8, .int .i64,[.lit (.int .i64 0)]⟩:=⟨_,_,_,Tryz.type3,rfl,rfl,rfl,by kernel_rfl,by kernel_rfl,Tryz.underlying3,by kernel_rfl,rfl⟩
theorem gM_:cP Tryz.prog cod TB 5 ⟨1,1, .int .u8,[.lit (.int .u8 0)]⟩:=⟨_,_,_,Tryz.type5,rfl,rfl,rfl,by kernel_rfl,by kernel_rfl,Tryz.underlying5,by kernel_rfl,rfl⟩
theorem hn_:cP Tryz.prog cod TB 9 ⟨1,16, .str,[.lit (.string ⟨#[]⟩)]⟩:=⟨_,_,_,Tryz.type9,rfl,rfl,rfl,by kernel_rfl,by kernel_rfl,Tryz.underlying9,by kernel_rfl,rfl⟩
theorem gm_:cP Tryz.prog cod TB 24 ⟨1,24, .slice 5 .bbyte,[.nil .bbyte]⟩:=⟨_,_,_,Tryz.type24,rfl,rfl,rfl,by kernel_rfl,by kernel_rfl,Tryz.underlying24,by kernel_rfl,⟨⟨rfl,_,Tryz.type5,by kernel_rfl,by kernel_rfl⟩,_,_,Tryz.type5,rfl,by kernel_rfl,by kernel_rfl,Nat.le_of_ble_eq_true (by kernel_rfl)⟩⟩
theorem gk_:cP Tryz.prog cod TB 38 ⟨1,8, .other,[.lit (.pointer none)]⟩:=⟨_,_,_,Tryz.type38,rfl,rfl,rfl,by kernel_rfl,by kernel_rfl,Tryz.underlying38,by kernel_rfl,trivial⟩
theorem f5_:cP Tryz.prog cod TB 40 ⟨2,32, .struct [(0,38),(1,24)],[.lit (.pointer none), .nil .bbyte]⟩:=⟨_,_,_,Tryz.type40,rfl,rfl,rfl,by kernel_rfl,by kernel_rfl,Tryz.underlying40,by kernel_rfl,⟨_,rfl,by kernel_rfl,by kernel_rfl,by kernel_rfl,by kernel_rfl,by kernel_rfl⟩⟩
theorem gh_:∀e∈hy_,cP Tryz.prog cod TB e.1 e.2:=
  all_cons gK_ (all_cons gM_ (all_cons hn_ (all_cons gm_ (all_cons gk_ (all_cons f5_ (aB))))))
theorem hK_:TOk Tryz.prog cod TB:=TOk.of gh_ (by kernel_rfl)
theorem hQ_:EOk Tryz.prog cod TB:=EOk.of gh_
end Km.X
namespace Go.Proofs
open Go.Shelf
def Tryz.laysM171_ren:Go.Shelf.Ren:=⟨fun | 171=>40 | 243=>78 | 246=>112 | 283=>149 | 284=>150 | 285=>151 | 286=>152 | 129=>163 | 317=>162 | 318=>164 | 319=>165 | 320=>166 | 337=>169 | 338=>170 | n=>n,fun | 3=>3 | 9=>9 | 2=>2 | 4=>4 | 171=>170 | 0=>0 | 53=>171 | 37=>24 | 5=>5 | 173=>174 | 212=>193 | 51=>182 | 20=>20 | 213=>194 | 46=>94 | 232=>202 | 233=>203 | n=>n,fun | 17=>6 | 18=>7 | 19=>8 | n=>n⟩
theorem Tryz.laysM171:Go.Proofs.LaysM.n171 Tryz.prog Tryz.laysM171_ren:={
  mixed:=by kernel_rfl
  f129:=Tryz.func163.trans (congrArg some (by kernel_rfl))
  f171:=Tryz.func40.trans (congrArg some (by kernel_rfl))
  f243:=Tryz.func78.trans (congrArg some (by kernel_rfl))
  f246:=Tryz.func112.trans (congrArg some (by kernel_rfl))
  f283:=Tryz.func149.trans (congrArg some (by kernel_rfl))
  f284:=Tryz.func150.trans (congrArg some (by kernel_rfl))
  f285:=Tryz.func151.trans (congrArg some (by kernel_rfl))
  f286:=Tryz.func152.trans (congrArg some (by kernel_rfl))
  f317:=Tryz.func162.trans (congrArg some (by kernel_rfl))
  f318:=Tryz.func164.trans (congrArg some (by kernel_rfl))
  f319:=Tryz.func165.trans (congrArg some (by kernel_rfl))
  f320:=Tryz.func166.trans (congrArg some (by kernel_rfl))
  f337:=Tryz.func169.trans (congrArg some (by kernel_rfl))
  f338:=Tryz.func170.trans (congrArg some (by kernel_rfl))
  t0:=Tryz.underlying0
  a0:=Tryz.isAgg0
  z0:=Tryz.sizeOf0
  v0:=Tryz.zeroValue0
  t2:=Tryz.underlying2
  a2:=Tryz.isAgg2
  z2:=Tryz.sizeOf2
  v2:=Tryz.zeroValue2
  t3:=Tryz.underlying3
  a3:=Tryz.isAgg3
  z3:=Tryz.sizeOf3
  v3:=Tryz.zeroValue3
  t4:=Tryz.underlying4
  a4:=Tryz.isAgg4
  z4:=Tryz.sizeOf4
  v4:=Tryz.zeroValue4
  t5:=Tryz.underlying5
  a5:=Tryz.isAgg5
  z5:=Tryz.sizeOf5
  v5:=Tryz.zeroValue5
  t9:=Tryz.underlying9
  a9:=Tryz.isAgg9
  z9:=Tryz.sizeOf9
  v9:=Tryz.zeroValue9
  t20:=Tryz.underlying20
  a20:=Tryz.isAgg20
  z20:=Tryz.sizeOf20
  v20:=Tryz.zeroValue20
  t37:=Tryz.underlying24
  a37:=Tryz.isAgg24
  z37:=Tryz.sizeOf24
  v37:=Tryz.zeroValue24
  t46:=Tryz.underlying94
  a46:=Tryz.isAgg94
  z46:=Tryz.sizeOf94
  v46:=Tryz.zeroValue94
  t51:=Tryz.underlying182
  a51:=Tryz.isAgg182
  z51:=Tryz.sizeOf182
  v51:=Tryz.zeroValue182
  t53:=Tryz.underlying171
  a53:=Tryz.isAgg171
  z53:=Tryz.sizeOf171
  v53:=Tryz.zeroValue171
  t171:=Tryz.underlying170
  a171:=Tryz.isAgg170
  z171:=Tryz.sizeOf170
  v171:=Tryz.zeroValue170
  t173:=Tryz.underlying174
  a173:=Tryz.isAgg174
  z173:=Tryz.sizeOf174
  v173:=Tryz.zeroValue174
  t212:=Tryz.underlying193
  a212:=Tryz.isAgg193
  z212:=Tryz.sizeOf193
  v212:=Tryz.zeroValue193
  t213:=Tryz.underlying194
  a213:=Tryz.isAgg194
  z213:=Tryz.sizeOf194
  t232:=Tryz.underlying202
  a232:=Tryz.isAgg202
  z232:=Tryz.sizeOf202
  v232:=Tryz.zeroValue202
  t233:=Tryz.underlying203
  a233:=Tryz.isAgg203
  z233:=Tryz.sizeOf203
  v233:=Tryz.zeroValue203
  g17:=by kernel_rfl
  g18:=by kernel_rfl
  g19:=by kernel_rfl
  i0:=by kernel_rfl
  i2:=by kernel_rfl
  i3:=by kernel_rfl
  i4:=by kernel_rfl
  i5:=by kernel_rfl
  i9:=by kernel_rfl
  i20:=by kernel_rfl
  i37:=by kernel_rfl
  i46:=by kernel_rfl
  i51:=by kernel_rfl
  i53:=by kernel_rfl
  i171:=by kernel_rfl
  i173:=by kernel_rfl
  i212:=by kernel_rfl
  i232:=by kernel_rfl
  i233:=by kernel_rfl
  m17:=by kernel_rfl
  m18:=by kernel_rfl
  m19:=by kernel_rfl}
open Go.RowKit Go.Sort Go.Lib in
theorem Tryz.strconv_Itoa (n : Int) (h0 : -9223372036854775808 ≤ n) (h1 : n ≤ 9223372036854775807) (w : World) (htab : Lib.TabIs Tryz.prog w "internal/strconv.uint64pow10" .u64 Lib.pow10Tab) :
    Calls Tryz.prog 40 #[.int .i64 n] w fun e w'=>e= .returned (.string ⟨(Lib.itoa n).toArray⟩)∧∃k os,w'=grow (w.drewN k) os:=Any.strconv_Itoa Tryz.laysM171 n h0 h1 w htab
def Tryz.laysC172_ren:Go.Shelf.Ren:=⟨fun | 172=>66 | 244=>98 | 245=>99 | 247=>135 | 279=>136 | 280=>137 | 281=>138 | 282=>139 | 287=>159 | 316=>160 | 171=>40 | 205=>161 | 321=>167 | 322=>168 | 243=>78 | 246=>112 | 283=>149 | 284=>150 | 285=>151 | 286=>152 | 129=>163 | 317=>162 | 318=>164 | 319=>165 | 320=>166 | 337=>169 | 338=>170 | n=>n,fun | 9=>9 | 3=>3 | 75=>42 | 76=>43 | 4=>4 | 5=>5 | 167=>159 | 37=>24 | 0=>0 | 85=>160 | 2=>2 | 168=>162 | 53=>171 | 175=>185 | 46=>94 | 210=>188 | 127=>90 | 145=>200 | 143=>198 | 21=>21 | 171=>170 | 173=>174 | 212=>193 | 51=>182 | 20=>20 | 213=>194 | 232=>202 | 233=>203 | 80=>45 | n=>n,fun | 15=>4 | 16=>5 | 17=>6 | 18=>7 | 19=>8 | n=>n⟩
theorem Tryz.laysC172:Go.Proofs.LaysC.n172 Tryz.prog Tryz.laysC172_ren:={
  mixed:=by kernel_rfl
  f129:=Tryz.func163.trans (congrArg some (by kernel_rfl))
  f171:=Tryz.func40.trans (congrArg some (by kernel_rfl))
  f172:=Tryz.func66.trans (congrArg some (by kernel_rfl))
  f205:=Tryz.func161.trans (congrArg some (by kernel_rfl))
  f243:=Tryz.func78.trans (congrArg some (by kernel_rfl))
  f244:=Tryz.func98.trans (congrArg some (by kernel_rfl))
  f245:=Tryz.func99.trans (congrArg some (by kernel_rfl))
  f246:=Tryz.func112.trans (congrArg some (by kernel_rfl))
  f247:=Tryz.func135.trans (congrArg some (by kernel_rfl))
  f279:=Tryz.func136.trans (congrArg some (by kernel_rfl))
  f280:=Tryz.func137.trans (congrArg some (by kernel_rfl))
  f281:=Tryz.func138.trans (congrArg some (by kernel_rfl))
  f282:=Tryz.func139.trans (congrArg some (by kernel_rfl))
  f283:=Tryz.func149.trans (congrArg some (by kernel_rfl))
  f284:=Tryz.func150.trans (congrArg some (by kernel_rfl))
  f285:=Tryz.func151.trans (congrArg some (by kernel_rfl))
  f286:=Tryz.func152.trans (congrArg some (by kernel_rfl))
  f287:=Tryz.func159.trans (congrArg some (by kernel_rfl))
  f316:=Tryz.func160.trans (congrArg some (by kernel_rfl))
  f317:=Tryz.func162.trans (congrArg some (by kernel_rfl))
  f318:=Tryz.func164.trans (congrArg some (by kernel_rfl))
  f319:=Tryz.func165.trans (congrArg some (by kernel_rfl))
  f320:=Tryz.func166.trans (congrArg some (by kernel_rfl))
  f321:=Tryz.func167.trans (congrArg some (by kernel_rfl))
  f322:=Tryz.func168.trans (congrArg some (by kernel_rfl))
  f337:=Tryz.func169.trans (congrArg some (by kernel_rfl))
  f338:=Tryz.func170.trans (congrArg some (by kernel_rfl))
  t0:=Tryz.underlying0
  a0:=Tryz.isAgg0
  z0:=Tryz.sizeOf0
  v0:=Tryz.zeroValue0
  t2:=Tryz.underlying2
  a2:=Tryz.isAgg2
  z2:=Tryz.sizeOf2
  v2:=Tryz.zeroValue2
  t3:=Tryz.underlying3
  a3:=Tryz.isAgg3
  z3:=Tryz.sizeOf3
  v3:=Tryz.zeroValue3
  t4:=Tryz.underlying4
  a4:=Tryz.isAgg4
  z4:=Tryz.sizeOf4
  v4:=Tryz.zeroValue4
  t5:=Tryz.underlying5
  a5:=Tryz.isAgg5
  z5:=Tryz.sizeOf5
  v5:=Tryz.zeroValue5
  t9:=Tryz.underlying9
  a9:=Tryz.isAgg9
  z9:=Tryz.sizeOf9
  v9:=Tryz.zeroValue9
  t20:=Tryz.underlying20
  a20:=Tryz.isAgg20
  z20:=Tryz.sizeOf20
  v20:=Tryz.zeroValue20
  t21:=Tryz.underlying21
  a21:=Tryz.isAgg21
  z21:=Tryz.sizeOf21
  v21:=Tryz.zeroValue21
  t37:=Tryz.underlying24
  a37:=Tryz.isAgg24
  z37:=Tryz.sizeOf24
  v37:=Tryz.zeroValue24
  t46:=Tryz.underlying94
  a46:=Tryz.isAgg94
  z46:=Tryz.sizeOf94
  v46:=Tryz.zeroValue94
  t51:=Tryz.underlying182
  a51:=Tryz.isAgg182
  z51:=Tryz.sizeOf182
  v51:=Tryz.zeroValue182
  t53:=Tryz.underlying171
  a53:=Tryz.isAgg171
  z53:=Tryz.sizeOf171
  v53:=Tryz.zeroValue171
  t75:=Tryz.underlying42
  a75:=Tryz.isAgg42
  z75:=Tryz.sizeOf42
  v75:=Tryz.zeroValue42
  t76:=Tryz.underlying43
  a76:=Tryz.isAgg43
  z76:=Tryz.sizeOf43
  v76:=Tryz.zeroValue43
  t85:=Tryz.underlying160
  a85:=Tryz.isAgg160
  z85:=Tryz.sizeOf160
  v85:=Tryz.zeroValue160
  t127:=Tryz.underlying90
  a127:=Tryz.isAgg90
  z127:=Tryz.sizeOf90
  v127:=Tryz.zeroValue90
  t143:=Tryz.underlying198
  a143:=Tryz.isAgg198
  z143:=Tryz.sizeOf198
  v143:=Tryz.zeroValue198
  t145:=Tryz.underlying200
  a145:=Tryz.isAgg200
  z145:=Tryz.sizeOf200
  v145:=Tryz.zeroValue200
  t167:=Tryz.underlying159
  a167:=Tryz.isAgg159
  z167:=Tryz.sizeOf159
  v167:=Tryz.zeroValue159
  t168:=Tryz.underlying162
  a168:=Tryz.isAgg162
  z168:=Tryz.sizeOf162
  v168:=Tryz.zeroValue162
  t171:=Tryz.underlying170
  a171:=Tryz.isAgg170
  z171:=Tryz.sizeOf170
  v171:=Tryz.zeroValue170
  t173:=Tryz.underlying174
  a173:=Tryz.isAgg174
  z173:=Tryz.sizeOf174
  v173:=Tryz.zeroValue174
  t175:=Tryz.underlying185
  a175:=Tryz.isAgg185
  z175:=Tryz.sizeOf185
  v175:=Tryz.zeroValue185
  t210:=Tryz.underlying188
  a210:=Tryz.isAgg188
  z210:=Tryz.sizeOf188
  v210:=Tryz.zeroValue188
  t212:=Tryz.underlying193
  a212:=Tryz.isAgg193
  z212:=Tryz.sizeOf193
  v212:=Tryz.zeroValue193
  t213:=Tryz.underlying194
  a213:=Tryz.isAgg194
  z213:=Tryz.sizeOf194
  t232:=Tryz.underlying202
  a232:=Tryz.isAgg202
  z232:=Tryz.sizeOf202
  v232:=Tryz.zeroValue202
  t233:=Tryz.underlying203
  a233:=Tryz.isAgg203
  z233:=Tryz.sizeOf203
  v233:=Tryz.zeroValue203
  g15:=by kernel_rfl
  g16:=by kernel_rfl
  g17:=by kernel_rfl
  g18:=by kernel_rfl
  g19:=by kernel_rfl
  t80:=Tryz.underlying45
  a80:=Tryz.isAgg45
  z80:=Tryz.sizeOf45
  v80:=Tryz.zeroValue45
  i0:=by kernel_rfl
  i2:=by kernel_rfl
  i3:=by kernel_rfl
  i4:=by kernel_rfl
  i5:=by kernel_rfl
  i9:=by kernel_rfl
  i20:=by kernel_rfl
  i21:=by kernel_rfl
  i37:=by kernel_rfl
  i46:=by kernel_rfl
  i51:=by kernel_rfl
  i53:=by kernel_rfl
  i75:=by kernel_rfl
  i76:=by kernel_rfl
  i80:=by kernel_rfl
  i85:=by kernel_rfl
  i127:=by kernel_rfl
  i143:=by kernel_rfl
  i145:=by kernel_rfl
  i167:=by kernel_rfl
  i168:=by kernel_rfl
  i171:=by kernel_rfl
  i173:=by kernel_rfl
  i175:=by kernel_rfl
  i210:=by kernel_rfl
  i212:=by kernel_rfl
  i232:=by kernel_rfl
  i233:=by kernel_rfl
  m15:=by kernel_rfl
  m16:=by kernel_rfl
  m17:=by kernel_rfl
  m18:=by kernel_rfl
  m19:=by kernel_rfl
  c0:=by kernel_rfl
  c2:=by kernel_rfl
  c3:=by kernel_rfl
  c4:=by kernel_rfl
  c5:=by kernel_rfl
  c9:=by kernel_rfl
  c20:=by kernel_rfl
  c21:=by kernel_rfl
  c37:=by kernel_rfl
  c46:=by kernel_rfl
  c51:=by kernel_rfl
  c53:=by kernel_rfl
  c75:=by kernel_rfl
  c76:=by kernel_rfl
  c80:=by kernel_rfl
  c85:=by kernel_rfl
  c127:=by kernel_rfl
  c143:=by kernel_rfl
  c145:=by kernel_rfl
  c167:=by kernel_rfl
  c168:=by kernel_rfl
  c171:=by kernel_rfl
  c173:=by kernel_rfl
  c175:=by kernel_rfl
  c210:=by kernel_rfl
  c212:=by kernel_rfl
  c213:=by kernel_rfl
  c232:=by kernel_rfl
  c233:=by kernel_rfl}
open Go.RowKit in
theorem Tryz.strconv_Atoi_ok (s:ByteArray) (hmax:s.size≤9223372036854775806) (v:Int) (h:Lib.atoiAll s.data.toList= .ok v) (w:World):
    Calls Tryz.prog 66 #[.string s] w fun e w'=>e= .returned (.tuple #[.int .i64 v, .nilIface])∧(w'=w∨∃t,w'=Lib.bytesWorld w 5 t):=Any.strconv_Atoi_ok Tryz.laysC172 s hmax v h w
def Tryz.lays99_ren:Go.Shelf.Ren:=⟨fun | 99=>35 | 206=>65 | n=>n,fun | 9=>9 | 4=>4 | 3=>3 | n=>n,fun | n=>n⟩
theorem Tryz.lays99:Go.Proofs.Lays.n99 Tryz.prog Tryz.lays99_ren:={
  mixed:=by kernel_rfl
  f99:=Tryz.func35.trans (congrArg some (by kernel_rfl))
  f206:=Tryz.func65.trans (congrArg some (by kernel_rfl))
  t3:=Tryz.underlying3
  a3:=Tryz.isAgg3
  z3:=Tryz.sizeOf3
  v3:=Tryz.zeroValue3
  t4:=Tryz.underlying4
  a4:=Tryz.isAgg4
  z4:=Tryz.sizeOf4
  v4:=Tryz.zeroValue4
  t9:=Tryz.underlying9
  a9:=Tryz.isAgg9
  z9:=Tryz.sizeOf9
  v9:=Tryz.zeroValue9}
open Go.RowKit Go.Lib in
theorem Tryz.strings_HasPrefix (s p:ByteArray) (w:World):
    Calls Tryz.prog 35 #[.string s, .string p] w fun e w'=>e= .returned (.bool (Lib.hasPrefix s.data.toList p.data.toList))∧w'=w:=Any.strings_HasPrefix Tryz.lays99 s p w
def Tryz.laysM146_ren:Go.Shelf.Ren:=⟨fun | 146=>11 | 221=>33 | 268=>62 | 138=>63 | 143=>64 | 195=>94 | 197=>95 | 218=>96 | 219=>97 | 260=>130 | 217=>131 | 225=>132 | 224=>133 | 267=>134 | 266=>157 | 314=>158 | n=>n,fun | 9=>9 | 31=>27 | 3=>3 | 4=>4 | 0=>0 | 105=>134 | 21=>21 | 5=>5 | 46=>94 | 119=>178 | 139=>181 | 138=>180 | 146=>183 | 51=>182 | n=>n,fun | 1=>1 | 3=>2 | 4=>3 | n=>n⟩
theorem Tryz.laysM146:Go.Proofs.LaysM.n146 Tryz.prog Tryz.laysM146_ren:={
  mixed:=by kernel_rfl
  f138:=Tryz.func63.trans (congrArg some (by kernel_rfl))
  f143:=Tryz.func64.trans (congrArg some (by kernel_rfl))
  f146:=Tryz.func11.trans (congrArg some (by kernel_rfl))
  f195:=Tryz.func94.trans (congrArg some (by kernel_rfl))
  f197:=Tryz.func95.trans (congrArg some (by kernel_rfl))
  f217:=Tryz.func131.trans (congrArg some (by kernel_rfl))
  f218:=Tryz.func96.trans (congrArg some (by kernel_rfl))
  f219:=Tryz.func97.trans (congrArg some (by kernel_rfl))
  f221:=Tryz.func33.trans (congrArg some (by kernel_rfl))
  f224:=Tryz.func133.trans (congrArg some (by kernel_rfl))
  f225:=Tryz.func132.trans (congrArg some (by kernel_rfl))
  f260:=Tryz.func130.trans (congrArg some (by kernel_rfl))
  f266:=Tryz.func157.trans (congrArg some (by kernel_rfl))
  f267:=Tryz.func134.trans (congrArg some (by kernel_rfl))
  f268:=Tryz.func62.trans (congrArg some (by kernel_rfl))
  f314:=Tryz.func158.trans (congrArg some (by kernel_rfl))
  t0:=Tryz.underlying0
  a0:=Tryz.isAgg0
  z0:=Tryz.sizeOf0
  v0:=Tryz.zeroValue0
  t3:=Tryz.underlying3
  a3:=Tryz.isAgg3
  z3:=Tryz.sizeOf3
  v3:=Tryz.zeroValue3
  t4:=Tryz.underlying4
  a4:=Tryz.isAgg4
  z4:=Tryz.sizeOf4
  v4:=Tryz.zeroValue4
  t5:=Tryz.underlying5
  a5:=Tryz.isAgg5
  z5:=Tryz.sizeOf5
  v5:=Tryz.zeroValue5
  t9:=Tryz.underlying9
  a9:=Tryz.isAgg9
  z9:=Tryz.sizeOf9
  v9:=Tryz.zeroValue9
  t21:=Tryz.underlying21
  a21:=Tryz.isAgg21
  z21:=Tryz.sizeOf21
  v21:=Tryz.zeroValue21
  t31:=Tryz.underlying27
  a31:=Tryz.isAgg27
  z31:=Tryz.sizeOf27
  v31:=Tryz.zeroValue27
  t46:=Tryz.underlying94
  a46:=Tryz.isAgg94
  z46:=Tryz.sizeOf94
  v46:=Tryz.zeroValue94
  t51:=Tryz.underlying182
  a51:=Tryz.isAgg182
  z51:=Tryz.sizeOf182
  v51:=Tryz.zeroValue182
  t105:=Tryz.underlying134
  a105:=Tryz.isAgg134
  z105:=Tryz.sizeOf134
  v105:=Tryz.zeroValue134
  t119:=Tryz.underlying178
  a119:=Tryz.isAgg178
  z119:=Tryz.sizeOf178
  t138:=Tryz.underlying180
  a138:=Tryz.isAgg180
  z138:=Tryz.sizeOf180
  v138:=Tryz.zeroValue180
  t139:=Tryz.underlying181
  a139:=Tryz.isAgg181
  z139:=Tryz.sizeOf181
  v139:=Tryz.zeroValue181
  t146:=Tryz.underlying183
  a146:=Tryz.isAgg183
  z146:=Tryz.sizeOf183
  v146:=Tryz.zeroValue183
  g1:=by kernel_rfl
  g3:=by kernel_rfl
  g4:=by kernel_rfl
  i0:=by kernel_rfl
  i3:=by kernel_rfl
  i4:=by kernel_rfl
  i5:=by kernel_rfl
  i9:=by kernel_rfl
  i21:=by kernel_rfl
  i31:=by kernel_rfl
  i46:=by kernel_rfl
  i51:=by kernel_rfl
  i105:=by kernel_rfl
  i138:=by kernel_rfl
  i139:=by kernel_rfl
  i146:=by kernel_rfl
  m1:=by kernel_rfl
  s1_3:=fun w h=>Go.Proofs.cell_of_shapedOpen_int (zero:= #[.int .i64 0]) (t:=3) h (of_decide_eq_true (by kernel_rfl)) (by kernel_rfl) rfl (by kernel_rfl) (by kernel_rfl) Tryz.underlying3
  m3:=by kernel_rfl
  m4:=by kernel_rfl}
open Go.RowKit Go.Lib in
def Tryz.laysM147_ren:Go.Shelf.Ren:=⟨fun | 147=>36 | 221=>33 | 268=>62 | 138=>63 | 143=>64 | 195=>94 | 197=>95 | 218=>96 | 219=>97 | 260=>130 | 217=>131 | 225=>132 | 224=>133 | 267=>134 | 266=>157 | 314=>158 | n=>n,fun | 9=>9 | 3=>3 | 31=>27 | 4=>4 | 0=>0 | 105=>134 | 21=>21 | 5=>5 | 46=>94 | 119=>178 | 139=>181 | 138=>180 | 146=>183 | 51=>182 | n=>n,fun | 1=>1 | 3=>2 | 4=>3 | n=>n⟩
theorem Tryz.laysM147:Go.Proofs.LaysM.n147 Tryz.prog Tryz.laysM147_ren:={
  mixed:=by kernel_rfl
  f138:=Tryz.func63.trans (congrArg some (by kernel_rfl))
  f143:=Tryz.func64.trans (congrArg some (by kernel_rfl))
  f147:=Tryz.func36.trans (congrArg some (by kernel_rfl))
  f195:=Tryz.func94.trans (congrArg some (by kernel_rfl))
  f197:=Tryz.func95.trans (congrArg some (by kernel_rfl))
  f217:=Tryz.func131.trans (congrArg some (by kernel_rfl))
  f218:=Tryz.func96.trans (congrArg some (by kernel_rfl))
  f219:=Tryz.func97.trans (congrArg some (by kernel_rfl))
  f221:=Tryz.func33.trans (congrArg some (by kernel_rfl))
  f224:=Tryz.func133.trans (congrArg some (by kernel_rfl))
  f225:=Tryz.func132.trans (congrArg some (by kernel_rfl))
  f260:=Tryz.func130.trans (congrArg some (by kernel_rfl))
  f266:=Tryz.func157.trans (congrArg some (by kernel_rfl))
  f267:=Tryz.func134.trans (congrArg some (by kernel_rfl))
  f268:=Tryz.func62.trans (congrArg some (by kernel_rfl))
  f314:=Tryz.func158.trans (congrArg some (by kernel_rfl))
  t0:=Tryz.underlying0
  a0:=Tryz.isAgg0
  z0:=Tryz.sizeOf0
  v0:=Tryz.zeroValue0
  t3:=Tryz.underlying3
  a3:=Tryz.isAgg3
  z3:=Tryz.sizeOf3
  v3:=Tryz.zeroValue3
  t4:=Tryz.underlying4
  a4:=Tryz.isAgg4
  z4:=Tryz.sizeOf4
  v4:=Tryz.zeroValue4
  t5:=Tryz.underlying5
  a5:=Tryz.isAgg5
  z5:=Tryz.sizeOf5
  v5:=Tryz.zeroValue5
  t9:=Tryz.underlying9
  a9:=Tryz.isAgg9
  z9:=Tryz.sizeOf9
  v9:=Tryz.zeroValue9
  t21:=Tryz.underlying21
  a21:=Tryz.isAgg21
  z21:=Tryz.sizeOf21
  v21:=Tryz.zeroValue21
  t31:=Tryz.underlying27
  a31:=Tryz.isAgg27
  z31:=Tryz.sizeOf27
  v31:=Tryz.zeroValue27
  t46:=Tryz.underlying94
  a46:=Tryz.isAgg94
  z46:=Tryz.sizeOf94
  v46:=Tryz.zeroValue94
  t51:=Tryz.underlying182
  a51:=Tryz.isAgg182
  z51:=Tryz.sizeOf182
  v51:=Tryz.zeroValue182
  t105:=Tryz.underlying134
  a105:=Tryz.isAgg134
  z105:=Tryz.sizeOf134
  v105:=Tryz.zeroValue134
  t119:=Tryz.underlying178
  a119:=Tryz.isAgg178
  z119:=Tryz.sizeOf178
  t138:=Tryz.underlying180
  a138:=Tryz.isAgg180
  z138:=Tryz.sizeOf180
  v138:=Tryz.zeroValue180
  t139:=Tryz.underlying181
  a139:=Tryz.isAgg181
  z139:=Tryz.sizeOf181
  v139:=Tryz.zeroValue181
  t146:=Tryz.underlying183
  a146:=Tryz.isAgg183
  z146:=Tryz.sizeOf183
  v146:=Tryz.zeroValue183
  g1:=by kernel_rfl
  g3:=by kernel_rfl
  g4:=by kernel_rfl
  i0:=by kernel_rfl
  i3:=by kernel_rfl
  i4:=by kernel_rfl
  i5:=by kernel_rfl
  i9:=by kernel_rfl
  i21:=by kernel_rfl
  i31:=by kernel_rfl
  i46:=by kernel_rfl
  i51:=by kernel_rfl
  i105:=by kernel_rfl
  i138:=by kernel_rfl
  i139:=by kernel_rfl
  i146:=by kernel_rfl
  m1:=by kernel_rfl
  s1_3:=fun w h=>Go.Proofs.cell_of_shapedOpen_int (zero:= #[.int .i64 0]) (t:=3) h (of_decide_eq_true (by kernel_rfl)) (by kernel_rfl) rfl (by kernel_rfl) (by kernel_rfl) Tryz.underlying3
  m3:=by kernel_rfl
  m4:=by kernel_rfl}
open Go.RowKit Go.Lib in
def Tryz.lays240_ren:Go.Shelf.Ren:=⟨fun | 240=>46 | 276=>80 | n=>n,fun | 70=>38 | 9=>9 | 0=>0 | 4=>4 | 20=>20 | 72=>40 | 37=>24 | 164=>123 | n=>n,fun | n=>n⟩
theorem Tryz.lays240:Go.Proofs.Lays.n240 Tryz.prog Tryz.lays240_ren:={
  mixed:=by kernel_rfl
  f240:=Tryz.func46.trans (congrArg some (by kernel_rfl))
  f276:=Tryz.func80.trans (congrArg some (by kernel_rfl))
  t0:=Tryz.underlying0
  a0:=Tryz.isAgg0
  z0:=Tryz.sizeOf0
  v0:=Tryz.zeroValue0
  t4:=Tryz.underlying4
  a4:=Tryz.isAgg4
  z4:=Tryz.sizeOf4
  v4:=Tryz.zeroValue4
  t9:=Tryz.underlying9
  a9:=Tryz.isAgg9
  z9:=Tryz.sizeOf9
  v9:=Tryz.zeroValue9
  t20:=Tryz.underlying20
  a20:=Tryz.isAgg20
  z20:=Tryz.sizeOf20
  v20:=Tryz.zeroValue20
  t70:=Tryz.underlying38
  a70:=Tryz.isAgg38
  z70:=Tryz.sizeOf38
  v70:=Tryz.zeroValue38
  t72:=Tryz.underlying40
  a72:=Tryz.isAgg40
  z72:=Tryz.sizeOf40
  v72:=Tryz.zeroValue40
  t164:=Tryz.underlying123
  a164:=Tryz.isAgg123
  z164:=Tryz.sizeOf123
  v164:=Tryz.zeroValue123}
theorem Tryz.Builder_X72_240:Builder.X72 Tryz.prog Tryz.lays240_ren:={
  sizeBuilder:=by kernel_rfl
  liesBuilder:=by kernel_rfl}
end Go.Proofs
namespace Km.X
open Go Km Go.Proofs Go.RowKit
theorem dP_ {α:Type} {t g:Nat} {a x:α} (h:(match Nat.beq t 86&&Nat.beq g 0 with | true=>some a | false=>none)=some x):t=86∧g=0∧a=x:=by
  split at h
  ·rename_i hb
   simp only [Bool.and_eq_true] at hb
   exact ⟨Nat.eq_of_beq_eq_true hb.1,Nat.eq_of_beq_eq_true hb.2,Option.some.inj h⟩
  ·cases h
variable [Glob]
class GlobFacts:Prop where
  kinds:Glob.W.cell? ⟨0,0,none⟩=some (.map (some Glob.B))
  maxlen:∃m,Glob.W.cell? ⟨1,0,none⟩=some (.int .i64 m)
  pow : Lib.TabIs Tryz.prog Glob.W "internal/strconv.uint64pow10" .u64 Lib.pow10Tab
  look:∀(w:World) (s:ByteArray),w.heap[Glob.B]? =Glob.W.heap[Glob.B]? →(Instr.lookup 86 (.map (some Glob.B)) (.string s) true).run Tryz.prog w=
    .ok (match jP s impl_kinds with | none=> .tuple #[.agg #[.int .i64 0, .int .i64 0], .bool false] | some p=> .tuple #[.agg #[.int .i64 p.1, .int .i64 p.2], .bool true]) w
theorem U1 {w:World} (h:cod.gp w) {b:Nat} (hb:gbs b) (o:Nat):w.cell? ⟨b,o,none⟩=Glob.W.cell? ⟨b,o,none⟩:=dF (h b hb) o
section
variable {Mut:Nat→Prop} {ρ:Nat→Loc} {w w':World} {vals:Array Value}
theorem dj_ {x:AV K TyK} {objs:aH K TyK} (hl:vals.size=1) (h:∀(j:Nat) (y:AV K TyK) (u:Value),[x][j]? =some y→vals[j]? =some u→VRel cod w Mut ρ objs y u):∃u,vals= #[u]∧VRel cod w Mut ρ objs x u:=by
  obtain ⟨l⟩:=vals
  match l,hl with
  | [u],_=>exact ⟨u,rfl,h 0 x u rfl rfl⟩
theorem ft_ {x y:AV K TyK} {objs:aH K TyK} (hl:vals.size=2) (h:∀(j:Nat) (z:AV K TyK) (u:Value),[x,y][j]? =some z→vals[j]? =some u→VRel cod w Mut ρ objs z u):∃u v,vals= #[u,v]∧VRel cod w Mut ρ objs x u∧VRel cod w Mut ρ objs y v:=by
  obtain ⟨l⟩:=vals
  match l,hl with
  | [u,v],_=>exact ⟨u,v,rfl,h 0 x u rfl rfl,h 1 y v rfl rfl⟩
theorem hp_ {x y z:AV K TyK} {objs:aH K TyK} (hl:vals.size=3) (h:∀(j:Nat) (a:AV K TyK) (u:Value),[x,y,z][j]? =some a→vals[j]? =some u→VRel cod w Mut ρ objs a u):∃u v q,vals= #[u,v,q]∧VRel cod w Mut ρ objs x u∧VRel cod w Mut ρ objs y v∧VRel cod w Mut ρ objs z q:=by
  obtain ⟨l⟩:=vals
  match l,hl with
  | [u,v,q],_=>exact ⟨u,v,q,rfl,h 0 x u rfl rfl,h 1 y v rfl rfl,h 2 z q rfl rfl⟩
theorem SRel.below (S:SRel cod Mut ⟨ρ,[]⟩ w ρ [] ([]:aH K TyK) #[] w) (h:Below w.heap.size w w'):SRel cod Mut ⟨ρ,[]⟩ w ρ [] ([]:aH K TyK) #[] w' where
  env i:= .inl rfl
  ob id:=by simp [ORel]
  inj i j b hi:=by simp [aG] at hi
  live b:=fun ⟨i,hi⟩=>by simp [aG] at hi
  comp id:=S.comp id
  len:=Nat.le_refl _
  mlt:=S.mlt
  frame b hb _:=h.block b hb
  size:=h.size
  os:=h.os
  tape:=h.tape
  output:=h.output
end
noncomputable def rH (k:Nat):bU K TyK:=sm cod Bool [.bo, .bo] [.c (.s), .c (.s)] [] (strings_HasPrefix) k [.c (.b)] [] (fun r=>(r,())) (fun v1=>v1) true
theorem yP (k:Nat):SummOk Tryz.prog cod 35 (rH k):=by
  refine ⟨⟨Tryz.f35,Tryz.func35,by kernel_rfl,by kernel_rfl⟩,fun args objs r h Mut ρ vals w hl hrel S hgb hgp=> ?_⟩
  obtain ⟨⟨s,p,u⟩,rfl,rfl,hr⟩:=KP codOk h
  obtain ⟨u1,u2,rfl,h1,h2⟩:=ft_ hl hrel
  obtain ⟨rfl,_⟩:=a7 h1
  obtain ⟨rfl,_⟩:=a7 h2
  cases (show some (Lib.hasPrefix s.data.toList p.data.toList)=some r from hr)
  refine (Tryz.strings_HasPrefix s p w).mono ?_
  rintro e w' ⟨rfl,rfl⟩
  exact ⟨_,ρ,rfl, .lit rfl,S,fun o ho=>(by cases ho),fun vs h=>(by cases h),fun _=>rfl⟩
noncomputable def zA (k:Nat):bU K TyK:=sm cod (Int×Unit) [.bo] [.c (.s)] [] (mP) k [.c (.i .i64), .c (.f)] [] (fun r=>(r.1,(),())) (fun v1=>(v1,())) true
theorem IL (k:Nat):SummOk Tryz.prog cod 66 (zA k):=by
  refine ⟨⟨Tryz.f66,Tryz.func66,by kernel_rfl,by kernel_rfl⟩,fun args objs r h Mut ρ vals w hl hrel S hgb hgp=> ?_⟩
  obtain ⟨⟨s,u⟩,rfl,rfl,hr⟩:=KP codOk h
  obtain ⟨u1,rfl,h1⟩:=dj_ hl hrel
  obtain ⟨rfl,_⟩:=a7 h1
  replace hr:mP k s=some r:=hr
  unfold mP at hr
  split at hr
  ·rename_i hs
   split at hr
   ·rename_i v hv
    cases hr
    refine (Tryz.strconv_Atoi_ok s hs v hv w).mono ?_
    rintro e w' ⟨rfl,hw⟩
    have hb:Below w.heap.size w w':=by
      rcases hw with rfl | ⟨t,rfl⟩
      ·exact Below.refl _ _
      ·exact Lib.bytesWorld_below _ _ _
    refine ⟨_,ρ,rfl, ?_,SRel.below S hb,fun o ho=>(by cases ho),fun vs h=> ?_,fun h=>absurd rfl (h _)⟩
    ·exact VRel.tup (us:=[.int .i64 v, .nilIface]) rfl fun j cl u hc hu=>by
       match j with
       | 0=>cases hc;cases hu;exact .lit rfl
       | 1=>cases hc;cases hu;exact .lit rfl
       | j+2=>simp at hu
    ·cases h;rfl
   ·cases hr
  ·cases hr
variable [GlobFacts]
theorem gok:GOk Tryz.prog cod where
  cell g:=rfl
  ld w t g x h hv:=by
   obtain ⟨rfl,rfl,rfl⟩:=dP_ hv
   have h1:=(U1 h (b:=0) (.inl rfl) 0).trans GlobFacts.kinds
   show (Instr.loadAt 86 (.pointer (some ⟨0,0,none⟩))).run Tryz.prog w= .ok (.map (some Glob.B)) w
   simp [Instr.loadAt,Instr.sureAddr,loadVar,Tryz.isAgg86,h1]
  lk w t g es s h hv:=by
   obtain ⟨rfl,rfl,rfl⟩:=dP_ hv
   exact GlobFacts.look w s (h Glob.B (.inr (.inr (.inr rfl))))
noncomputable def tI (k:Nat):bU K TyK:=sm cod ByteArray [.bo] [.c (.i .i64)] [] (strconv_Itoa) k [.c (.s)] [] (fun r=>(r,())) (fun v1=>v1) true
theorem xU (k:Nat):SummOk Tryz.prog cod 40 (tI k):=by
  refine ⟨⟨Tryz.f40,Tryz.func40,by kernel_rfl,by kernel_rfl⟩,fun args objs r h Mut ρ vals w hl hrel S hgb hgp=> ?_⟩
  obtain ⟨⟨n,u⟩,rfl,rfl,hr⟩:=KP codOk h
  obtain ⟨u1,rfl,h1⟩:=dj_ hl hrel
  obtain ⟨rfl,_⟩:=a7 h1
  replace hr:strconv_Itoa k n=some r:=hr
  unfold strconv_Itoa at hr
  split at hr
  ·rename_i hb
   cases hr
   have hpow : Lib.TabIs Tryz.prog w "internal/strconv.uint64pow10" .u64 Lib.pow10Tab := by
     have:=GlobFacts.pow
     unfold Lib.TabIs World.var? at this⊢
     rw [show Tryz.prog.globalNamed "internal/strconv.uint64pow10" = some 6 by kernel_rfl] at this ⊢
     simp only [Option.bind_some] at this⊢
     rw [hgp 6 (.inr (.inr (.inl rfl)))];exact this
   refine (Tryz.strconv_Itoa n hb.1 hb.2 w hpow).mono ?_
   rintro e w' ⟨rfl,d,os,rfl⟩
   exact ⟨_,ρ,rfl, .lit rfl,SRel.below S (Lib.below_grow _ w (Nat.le_refl _) d os),fun o ho=>(by cases ho),fun vs h=>(by cases h),fun _=>rfl⟩
  ·cases hr
end Km.X
namespace Km.X
open Go Km Go.Proofs Go.RowKit Go.Shelf
variable [Glob]
section
variable {Mut:Nat→Prop} {ρ:Nat→Loc} {w w':World} {vals:Array Value}
theorem aJ_ (S:SRel cod Mut ⟨ρ,[]⟩ w ρ [] ([]:aH K TyK) #[] w) {xs:List ByteArray} {cap:Nat} {us:Array Value} (hc:xs.length≤cap) (hs:us.size=cap)
    (hx:∀(i:Nat) (x:ByteArray),xs[i]? =some x→us[i]? =some (.string x)) (hu:∀(i:Nat) (u:Value),us[i]? =some u→bD u=true):
    SRel cod Mut ⟨ρ,[]⟩ w (upd ρ 0 ⟨w.heap.size,0,cap,noSub⟩) [] ([.sl .str xs]:aH K TyK) #[] (w.alloc (.cells us 9))∧
      VRel cod (w.alloc (.cells us 9)) Mut (upd ρ 0 ⟨w.heap.size,0,cap,noSub⟩) ([.sl .str xs]:aH K TyK) (.own 0) (.slice (some ⟨w.heap.size,0,none⟩) xs.length cap):=by
  have h:=S.newSl (t:= .str) (xs:=xs) (cap:=cap) (us:=us) 9 (fun h=>by cases h) ⟨hc,fun i x j cl hi hj=> ?_,fun q hq=> ?_⟩
  ·refine ⟨h, ?_⟩
   have:=VRel.own (C:=cod) (w:=w.alloc (.cells us 9)) (Mut:=Mut) (ρ:=upd ρ 0 ⟨w.heap.size,0,cap,noSub⟩) (objs:=([.sl .str xs]:aH K TyK)) (id:=0) (t:= .str) (xs:=xs) (A:=some ⟨w.heap.size,0,none⟩) rfl (fun _=>by rw [aV])
   rw [aV] at this
   exact this
  ·have hj:([.lit (.string x)]:List V)[j]? =some cl:=hj
   match j with
   | 0=>
     cases hj
     refine ⟨.string x, ?_, .lit rfl⟩
     show us[i*1+0]? =_
     rw [Nat.mul_one];exact hx i x hi
   | j+1=>simp at hj
  ·have hq:q<cap*1:=hq
   have hlt:q<us.size:=by omega
   exact ⟨_,Array.getElem?_eq_getElem hlt,hu q _ (Array.getElem?_eq_getElem hlt)⟩
end
variable [GlobFacts]
noncomputable def rE (k:Nat):bU K TyK:=sm cod (List ByteArray) [.bo, .bo] [.c (.s), .c (.s)] [] (strings_Split) k [.c (.o 0)] [.l .str] (fun r=>((),r,())) (fun v1=>v1) false
theorem vK (k:Nat):SummOk Tryz.prog cod 11 (rE k):=by
  refine ⟨⟨Tryz.f11,Tryz.func11,by kernel_rfl,by kernel_rfl⟩,fun args objs r h Mut ρ vals w hl hrel S hgb hgp=> ?_⟩
  obtain ⟨⟨s,p,u⟩,rfl,rfl,hr⟩:=KP codOk h
  obtain ⟨u1,u2,rfl,h1,h2⟩:=ft_ hl hrel
  obtain ⟨rfl,_⟩:=a7 h1
  obtain ⟨rfl,_⟩:=a7 h2
  replace hr:strings_Split k s p=some r:=hr
  unfold strings_Split at hr
  split at hr
  ·rename_i hb
   cases hr
   obtain ⟨m,hm⟩:=GlobFacts.maxlen
   have hm':w.cell? ⟨1,0,none⟩=some (.int .i64 m):=(U1 hgp (b:=1) (.inr (.inl rfl)) 0).trans hm
   have hc:Calls Tryz.prog 11 #[.string s, .string p] w fun e w'=>e= .returned (.slice (some ⟨w.heap.size,0,none⟩) (Lib.countB s p+1) (Lib.countB s p+1))∧w'=w.alloc (.cells ((Lib.splitB p 0 (Lib.countB s p) s).map Value.string).toArray 9):=
     Any.strings_Split {Tryz.laysM146 with} Tryz.laysM146.i9 s p m w hb.1 hm' hb.2
   have hlen:=Lib.splitB_all p hb.2 0 _ s rfl
   refine hc.mono ?_
   rintro e w' ⟨rfl,rfl⟩
   obtain ⟨g1,g2⟩:=aJ_ S (xs:=Lib.splitB p 0 (Lib.countB s p) s) (cap:=Lib.countB s p+1) (us:=((Lib.splitB p 0 (Lib.countB s p) s).map Value.string).toArray) (by omega) (by simp [hlen]) (fun i x hx=>by simp [hx]) (fun i u hu=>by
     simp only [List.getElem?_toArray,List.getElem?_map,Option.map_eq_some_iff] at hu
     obtain ⟨x,_,rfl⟩:=hu;rfl)
   rw [hlen] at g2
   exact ⟨_,_,rfl,g2,g1,fun o ho=>(by
     have:o= .sl .str (Lib.splitB p 0 (Lib.countB s p) s):=by simpa using (show o∈([.sl .str (Lib.splitB p 0 (Lib.countB s p) s)]:aH K TyK) from ho)
     subst this;rfl),fun vs h=>(by cases h),fun _=>rfl⟩
  ·cases hr
noncomputable def vX (k:Nat):bU K TyK:=sm cod (List ByteArray) [.bo, .bo, .bo] [.c (.s), .c (.s), .c (.i .i64)] [] (strings_SplitN) k [.c (.o 0)] [.l .str] (fun r=>((),r,())) (fun v1=>v1) false
theorem DV (k:Nat):SummOk Tryz.prog cod 36 (vX k):=by
  refine ⟨⟨Tryz.f36,Tryz.func36,by kernel_rfl,by kernel_rfl⟩,fun args objs r h Mut ρ vals w hl hrel S hgb hgp=> ?_⟩
  obtain ⟨⟨s,p,n,u⟩,rfl,rfl,hr⟩:=KP codOk h
  obtain ⟨u1,u2,u3,rfl,h1,h2,h3⟩:=hp_ hl hrel
  obtain ⟨rfl,_⟩:=a7 h1
  obtain ⟨rfl,_⟩:=a7 h2
  obtain ⟨rfl,_⟩:=a7 h3
  replace hr:strings_SplitN k s p n=some r:=hr
  unfold strings_SplitN at hr
  split at hr
  ·rename_i hb
   cases hr
   obtain ⟨hb1,hb2,hb3,hb4⟩:=hb
   obtain ⟨m,hm⟩:=GlobFacts.maxlen
   have hm':w.cell? ⟨1,0,none⟩=some (.int .i64 m):=(U1 hgp (b:=1) (.inr (.inl rfl)) 0).trans hm
   obtain ⟨N,rfl⟩:∃N:Nat,n=(N:Int):=⟨Int.toNat n,(Int.toNat_of_nonneg (by omega)).symm⟩
   rw [Int.toNat_natCast]
   have hc:Calls Tryz.prog 36 #[.string s, .string p, .int .i64 N] w fun e w'=>e= .returned (.slice (some ⟨w.heap.size,0,none⟩) (Lib.splitB p 0 (min N (s.size+1)-1) s).length (min N (s.size+1)))∧w'=w.alloc (.cells (Lib.cellsOf (Lib.splitB p 0 (min N (s.size+1)-1) s) (min N (s.size+1))) 9):=
     Any.strings_SplitN {Tryz.laysM147 with} Tryz.laysM147.i9 s p N m w hb1 hm' hb2 (by omega) (by omega)
   have hle:=Lib.splitB_length_le p 0 (min N (s.size+1)-1) s
   have hle':(Lib.splitB p 0 (min N (s.size+1)-1) s).length≤min N (s.size+1):=by omega
   refine hc.mono ?_
   rintro e w' ⟨rfl,rfl⟩
   obtain ⟨g1,g2⟩:=aJ_ S (xs:=Lib.splitB p 0 (min N (s.size+1)-1) s) (cap:=min N (s.size+1)) (us:=Lib.cellsOf (Lib.splitB p 0 (min N (s.size+1)-1) s) (min N (s.size+1))) hle' (Lib.cellsOf_size hle') (fun i x hx=>by
     have hi:=(List.getElem?_eq_some_iff.mp hx).1
     unfold Lib.cellsOf
     rw [List.getElem?_toArray,List.getElem?_append_left (by simpa using hi),List.getElem?_map,hx];rfl) (fun i u hu=>by
     unfold Lib.cellsOf at hu
     rw [List.getElem?_toArray] at hu
     have:=List.mem_of_getElem? hu
     simp only [List.mem_append,List.mem_map,List.mem_replicate] at this
     rcases this with ⟨x,_,rfl⟩ | ⟨_,rfl⟩<;>rfl)
   exact ⟨_,_,rfl,g2,g1,fun o ho=>(by
     have:o= .sl .str (Lib.splitB p 0 (min N (s.size+1)-1) s):=by simpa using (show o∈([.sl .str (Lib.splitB p 0 (min N (s.size+1)-1) s)]:aH K TyK) from ho)
     subst this;rfl),fun vs h=>(by cases h),fun _=>rfl⟩
  ·cases hr
end Km.X
namespace Km.X
open Go Km Go.Proofs Go.RowKit Go.Shelf
theorem Y2 {xs:List Int} (h:∀x∈xs,0≤x∧x<256):∃l:List UInt8,xs=l.map (fun c=>(c.toNat:Int))∧mD xs=⟨l.toArray⟩:=by
  refine ⟨xs.map fun x=>UInt8.ofNat x.toNat, ?_, ?_⟩
  ·rw [List.map_map]
   have:xs.map ((fun c:UInt8=>(c.toNat:Int)) ∘ fun x=>UInt8.ofNat x.toNat)=xs.map id:=List.map_congr_left fun x hx=>by
     obtain ⟨h1,h2⟩:=h x hx
     simp only [Function.comp,id,UInt8.toNat_ofNat']
     omega
   rw [this,List.map_id]
  ·have:∀(l:List Int) (r:ByteArray),l.foldl (fun r n=>r.push (UInt8.ofNat n.toNat)) r=⟨r.data++(l.map fun x=>UInt8.ofNat x.toNat).toArray⟩:=by
     intro l
     induction l with
     | nil=>intro r;apply ByteArray.ext;simp
     | cons a l ih=>intro r;rw [List.foldl_cons,ih];apply ByteArray.ext;simp [ByteArray.data_push]
   unfold mD
   rw [this]
   apply ByteArray.ext;simp
set_option maxHeartbeats 1000000 in
set_option maxRecDepth 100000 in
theorem KX (b cap:Nat) (A:Option Addr) (n:Nat) (l:List UInt8) (w w1:World) (p:Option Addr) (c1:w.cell? ⟨b,1,none⟩=some (.slice A n cap)) (c1':w.drew.cell? ⟨b,1,none⟩=some (.slice A n cap))
    (hSD:(Builtin.unsafeSliceData_ #[24] 90 #[.slice A n cap]).run Tryz.prog w.drew= .ok (.pointer p) w.drew)
    (hUS:(Builtin.unsafeString_ #[90,3] 9 #[.pointer p, .int .i64 n]).run Tryz.prog w.drew= .ok (.string ⟨l.toArray⟩) w1):
    Calls Tryz.prog 15 #[.pointer (some ⟨b,0,none⟩)] w fun e w'=>e= .returned (.string ⟨l.toArray⟩)∧w'=w1:=by
  go_enter Tryz.func15,Tryz.ntmps15
  go_wp2
  go_region
  all_goals (go_wp2;go_ret;exact ⟨rfl,rfl⟩)
theorem TJ (w:World) (a:Addr) (n:Nat) {b:Nat} (h:b≠a.block):(w.freeze a n).heap[b]? =w.heap[b]? :=by
  unfold World.freeze
  split
  ·rfl
  ·simp only [Array.getElem?_modify]
   rw [if_neg (fun e=>h e.symm)]
theorem V5 (w:World) (a:Addr) (n:Nat):(w.freeze a n).heap.size=w.heap.size∧(w.freeze a n).os=w.os∧(w.freeze a n).tape=w.tape∧(w.freeze a n).output=w.output:=by
  unfold World.freeze
  split<;>simp
theorem UT {w:World} {a:Addr} {v:Value} {e:TypeId} {m:Nat} (h:w.cell? a=some v) (hs:w.shape? a.block=some (e,m)):a.off<m:=by
  obtain ⟨e',n,h1,h2,_⟩:=World.shape?_of_cell? h
  rw [hs] at h1
  cases h1
  exact h2
theorem H8 {P:Program} {w:World} (pt it ty e:TypeId) (hp:P.underlying pt=some (.pointer e)) (hc:P.cellsOf e=1) (hd:1≤P.depth) (hs:sameLayout P P.depth e e=true) (g off cells:Nat) (hsh:w.shape? g=some (e,cells)) (l:List UInt8) (h0:l≠[]) (hn:off+l.length≤cells) (h63:l.length≤9223372036854775807)
    (hcell:∀j x,l[j]? =some x→w.cell? ((⟨g,off,none⟩:Addr).add j)=some (.int .u8 x.toNat)):
    (Builtin.unsafeString_ #[pt,it] ty #[.pointer (some ⟨g,off,none⟩), .int .i64 l.length]).run P w= .ok (.string ⟨l.toArray⟩) (w.freeze ⟨g,off,none⟩ l.length):=by
  have hl:l.length≠0:=by simpa using h0
  have hlb:=Lib.run_loadBytes (P:=P) w l ⟨g,off,none⟩ .empty hcell
  have hlies:liesAt P P.depth e (cells/P.cellsOf e) off e l.length=true:=by
    obtain ⟨d,hd'⟩:∃d,P.depth=d+1:=⟨P.depth-1,by omega⟩
    rw [hd'] at hs⊢
    simp only [liesAt,rowAt,hc,hd',Nat.div_one,Nat.mod_one,hs]
    simp [hn]
  have h63':¬(9223372036854775807:Int)<(l.length:Int):=by omega
  obtain ⟨e1,e2,e3,hdef⟩:∃(e1 e2:Sem PUnit) (e3:Sem Value),Builtin.unsafeString_ #[pt,it] ty #[.pointer (some ⟨g,off,none⟩), .int .i64 l.length]=
      (do
        let n←asInt (.int .i64 l.length)
        if n<0 then e1
        if n>IntKind.i64.max then e2
        if n=0 then pure (.string .empty)
        else if←variablesAt ⟨g,off,none⟩ (←elemOf pt) n.toNat then do
          let s←loadBytes ⟨g,off,none⟩ .empty n.toNat
          freeze ⟨g,off,none⟩ n.toNat
          pure (.string s)
        else e3):=⟨_,_,_,rfl⟩
  rw [hdef]
  have hmax:IntKind.i64.max=9223372036854775807:=rfl
  have hneg:¬(l.length:Int)<0:=by omega
  simp [asInt,asIntOf,hmax,h63',hneg,hl,variablesAt,hsh,elemOf,run_underlying hp,hlies,hlb]
variable [Glob]
def bpw (blk:Nat):Bool→Value | true=> .pointer (some ⟨blk,0,none⟩) | false=> .pointer none
section
variable {Mut:Nat→Prop} {ρ:Nat→Loc} {w w':World} {vals:Array Value}
abbrev bld (b:Bool) (xs:List Int):aH K TyK:=[.box [bpv 0 b, .own 1], .sl .bbyte xs]
theorem dS_ {b:Bool} {xs:List Int} {Lent:Org K TyK} {w0:World} {env:Env K TyK} {tm:Array Value} (S:SRel cod Mut Lent w0 ρ env (bld b xs) tm w):
    (ρ 0).off=0∧w.shape? (ρ 0).block=some (40,2)∧
      w.cell? ⟨(ρ 0).block,0,none⟩=some (bpw (ρ 0).block b)∧w.frozen? ⟨(ρ 0).block,0,none⟩=false∧
      ∃A,w.cell? ⟨(ρ 0).block,1,none⟩=some (.slice A xs.length (ρ 1).cap)∧((ρ 1).cap≠0→A=some ⟨(ρ 1).block,(ρ 1).off,none⟩)∧(b=false→A=none∧xs=[]):=by
  have ho:=S.ob 0
  have ho:(ρ 0).block<w.heap.size∧(∀j cl,([bpv 0 b, .own 1]:List V)[j]? =some cl→∃v,w.cell? (at' (ρ 0).block ((ρ 0).off+j))=some v∧bD v=true∧VRel cod w Mut ρ (bld b xs) cl v∧w.frozen? (at' (ρ 0).block ((ρ 0).off+j))=false)∧
    (bsh ([bpv 0 b, .own 1]:List V)=true→(ρ 0).off=0∧w.shape? (ρ 0).block=some (cod.bt,2))∧(frs ([bpv 0 b, .own 1]:List V)=true→w.cell? (at' (ρ 0).block ((ρ 0).off+1))=some (.slice none 0 0)):=ho
  obtain ⟨_,h2,h3,h4⟩:=ho
  obtain ⟨k1,k2⟩:=h3 (by cases b<;>rfl)
  rw [k1] at h2 h4
  obtain ⟨v0,a1,a2,a3,a4⟩:=h2 0 _ rfl
  obtain ⟨v1,b1,b2,b3,b4⟩:=h2 1 _ rfl
  refine ⟨k1,k2, ?_,a4, ?_⟩
  ·cases b with
   | true=>
     have a3:VRel cod w Mut ρ (bld true xs) (.ref 0 0) v0:=a3
     cases a3 with
     | ref h=>rw [k1] at a1;exact a1
     | refd hc hin h=>cases h
   | false=>
     have a3:VRel cod w Mut ρ (bld false xs) (.lit (.pointer none)) v0:=a3
     obtain ⟨rfl,_⟩:=a7 a3
     exact a1
  ·have b3:VRel cod w Mut ρ (bld b xs) (.own 1) v1:=b3
   cases b3 with
   | own h hA=>
     cases h
     rename_i A
     refine ⟨A,b1,hA,fun hb=> ?_⟩
     subst hb
     have h4:=h4 rfl
     rw [b1] at h4
     simp only [Option.some.injEq,Value.slice.injEq] at h4
     exact ⟨h4.1,List.length_eq_zero_iff.mp h4.2.1⟩
   | ownd hc hin h=>cases h
end
noncomputable def a8 (k:Nat):bU K TyK:=sm cod cW [.mv] [.c (.r 0 0)] [.x [.y 0, .o 1], .l .bbyte] (fun k v1 v2=>oG k (⟨v1,v2⟩:cW)) k [] [.x [.r 0 0, .o 1], .l .bbyte] (fun r=>((),(),r.buf,())) (fun v1=>(⟨true,v1⟩:cW)) false
theorem qI (k:Nat):SummOk Tryz.prog cod 46 (a8 k):=by
  refine ⟨⟨Tryz.f46,Tryz.func46,by kernel_rfl,by kernel_rfl⟩,fun args objs r h Mut ρ vals w hl hrel S hgb hgp=> ?_⟩
  obtain ⟨⟨_,b,_,xs,_⟩,rfl,rfl,hr⟩:=KP codOk h
  obtain ⟨u1,rfl,h1⟩:=dj_ hl hrel
  have S:SRel cod Mut ⟨ρ,bld b xs⟩ w ρ [] (bld b xs) #[] w:=S
  have h1:VRel cod w Mut ρ (bld b xs) (.ref 0 0) u1:=h1
  obtain ⟨k1,k2,k3,k4,k5⟩:=dS_ S
  cases (show some (⟨true,xs⟩:cW)=some r from hr)
  cases h1 with
  | refd hc hin h=>cases h
  | ref h=>
  rw [k1]
  have fin:∀(w':World),SRel cod Mut ⟨ρ,bld b xs⟩ w ρ [] (bld true xs) #[] w'→∃v ρ',Ending.returned (.tuple #[])=Ending.returned v∧VRel cod w' Mut ρ' ((a8 k).ret (⟨true,xs⟩:cW)).2 ((a8 k).ret (⟨true,xs⟩:cW)).1 v∧SRel cod Mut ⟨ρ,bld b xs⟩ w ρ' [] ((a8 k).ret (⟨true,xs⟩:cW)).2 #[] w'∧
   (∀o∈((a8 k).ret (⟨true,xs⟩:cW)).2,IE cod o=true)∧(∀vs,((a8 k).ret (⟨true,xs⟩:cW)).1= .tup vs→vs.all vZ=true)∧((∀vs,((a8 k).ret (⟨true,xs⟩:cW)).1≠ .tup vs)→vZ ((a8 k).ret (⟨true,xs⟩:cW)).1=true):=fun w' S'=>
    ⟨_,ρ,rfl,VRel.tup (us:=[]) rfl (fun j cl u hc _=>by
      have hc:([]:List V)[j]? =some cl:=hc
      simp at hc),S',fun o ho=>(by
      have ho:o∈bld true xs:=ho
      simp only [List.mem_cons,List.not_mem_nil,or_false] at ho
      rcases ho with rfl | rfl<;>rfl),fun vs h=>(by cases h;rfl),fun h=>absurd rfl (h [])⟩
  cases b with
  | true=>
    refine (Any.Builder_copyCheck_used Tryz.lays240 Tryz.Builder_X72_240 (ρ 0).block w k3).mono ?_
    rintro e w' ⟨rfl,rfl⟩
    exact fin w' S
  | false=>
    refine (Any.Builder_copyCheck_fresh Tryz.lays240 Tryz.Builder_X72_240 (ρ 0).block w k3 k2 k4).mono ?_
    rintro e w' ⟨rfl,rfl⟩
    refine fin _ ?_
    have:=S.storeBox (id:=0) (off:=0) (cs:=[.lit (.pointer none), .own 1]) (ns:=[.ref 0 0]) (us:=[.pointer (some ⟨(ρ 0).block,0,none⟩)]) rfl (tM rfl (by
      have:=VRel.ref (C:=cod) (w:=w) (Mut:=Mut) (ρ:=ρ) (objs:=bld false xs) (id:=0) (off:=0) rfl
      rw [k1] at this;exact this)) (by decide) (fun _=>rfl) rfl
    rw [k1] at this
    exact this
theorem XQ {Mut:Nat→Prop} {ρ:Nat→Loc} {w w1:World} {b:Bool} {xs:List Int} (S:SRel cod Mut ⟨ρ,bld b xs⟩ w ρ [] (bld b xs) #[] w) (hb:∀k,k<w.heap.size→¬bJ ρ (bld b xs) k→w1.heap[k]? =w.heap[k]?)
    (hs:w.heap.size≤w1.heap.size) (ho:w1.os=w.os) (ht:w1.tape=w.tape) (hp:w1.output=w.output):SRel cod Mut ⟨ρ,bld b xs⟩ w ρ [] ([.dead, .dead]:aH K TyK) #[] w1 where
  env i:= .inl rfl
  ob id:=by
   unfold ORel
   match id with
   | 0=>trivial
   | 1=>trivial
   | id+2=>simp
  inj i j k hi:=by
    unfold aG at hi
    match i with
    | 0=>exact hi.elim
    | 1=>exact hi.elim
    | i+2=>simp at hi
  live k:=fun ⟨i,hi⟩=>by
    unfold aG at hi
    match i with
    | 0=>exact hi.elim
    | 1=>exact hi.elim
    | i+2=>simp at hi
  comp id:=by
    unfold CompW
    match id with
    | 0=>exact .inr ⟨rfl,rfl,rfl,rfl⟩
    | 1=>exact .inr ⟨rfl,rfl,rfl,rfl⟩
    | id+2=>simp [Compat]
  len:=Nat.le_refl _
  mlt:=S.mlt
  frame:=hb
  size:=hs
  os:=ho
  tape:=ht
  output:=hp
noncomputable def bE (k:Nat):bU K TyK:=sm cod ByteArray [.mv] [.c (.r 0 0)] [.x [.y 0, .o 1], .l .bbyte] (fun k v1 v2=>lC k (⟨v1,v2⟩:cW)) k [.c (.s)] [.d, .d] (fun r=>(r,())) (fun v1=>v1) false
theorem tJ (k:Nat):SummOk Tryz.prog cod 15 (bE k):=by
  refine ⟨⟨Tryz.f15,Tryz.func15,by kernel_rfl,by kernel_rfl⟩,fun args objs r h Mut ρ vals w hl hrel S hgb hgp=> ?_⟩
  obtain ⟨⟨_,b,_,xs,_⟩,rfl,rfl,hr⟩:=KP codOk h
  obtain ⟨u1,rfl,h1⟩:=dj_ hl hrel
  have S:SRel cod Mut ⟨ρ,bld b xs⟩ w ρ [] (bld b xs) #[] w:=S
  have h1:VRel cod w Mut ρ (bld b xs) (.ref 0 0) u1:=h1
  obtain ⟨k1,k2,k3,k4,A,k5,k6,k7⟩:=dS_ S
  replace hr:lC k ⟨b,xs⟩=some r:=hr
  unfold lC at hr
  split at hr
  ·rename_i hb
   obtain ⟨hb1,hb2,hb3⟩:=hb
   cases hr
   dsimp only at hb1 hb2 hb3⊢
   cases h1 with
   | refd hc hin h=>cases h
   | ref h=>
   rw [k1]
   have fin:∀(w1:World),SRel cod Mut ⟨ρ,bld b xs⟩ w ρ [] ([.dead, .dead]:aH K TyK) #[] w1→∃v ρ',Ending.returned (.string (mD xs))=Ending.returned v∧VRel cod w1 Mut ρ' ((bE k).ret (mD xs)).2 ((bE k).ret (mD xs)).1 v∧SRel cod Mut ⟨ρ,bld b xs⟩ w ρ' [] ((bE k).ret (mD xs)).2 #[] w1∧
    (∀o∈((bE k).ret (mD xs)).2,IE cod o=true)∧(∀vs,((bE k).ret (mD xs)).1= .tup vs→vs.all vZ=true)∧((∀vs,((bE k).ret (mD xs)).1≠ .tup vs)→vZ ((bE k).ret (mD xs)).1=true):=fun w1 S'=>
     ⟨_,ρ,rfl, .lit rfl,S',fun o ho=>(by
       have ho:o∈([.dead, .dead]:aH K TyK):=ho
       simp only [List.mem_cons,List.not_mem_nil,or_false,or_self] at ho
       subst ho;rfl),fun vs h=>(by cases h),fun _=>rfl⟩
   obtain ⟨l,hl1,hl2⟩:=Y2 hb2
   rw [hl2] at fin⊢
   by_cases hx:xs=[]
   ·have hbf:b=false:=hb3.elim (fun h=>h) (fun h=>absurd hx h)
    obtain ⟨hA,_⟩:=k7 hbf
    have hl0:l=[]:=by rw [hx] at hl1;exact (List.map_eq_nil_iff.mp hl1.symm)
    rw [hA,hx] at k5
    subst hl0
    refine (KX (ρ 0).block (ρ 1).cap none 0 [] w w.drew none k5 k5 (Lib.run_unsafeSliceData_nil _ _ _ _ _) (Lib.run_unsafeString_none _ _ _ _ _)).mono ?_
    rintro e w' ⟨rfl,rfl⟩
    exact fin _ (XQ S (fun k _ _=>rfl) (Nat.le_refl _) rfl rfl rfl)
   ·have ho:=S.ob 1
    have ho:xs.length≤(ρ 1).cap∧((ρ 1).cap≠0→(ρ 1).block<w.heap.size)∧
      (∀i x j cl,xs[i]? =some x→(cod.enc .bbyte x)[j]? =some cl→∃v,w.cell? (at' (ρ 1).block ((ρ 1).off+i*cod.sz .bbyte+j))=some v∧VRel cod w Mut ρ (bld b xs) cl v)∧
      (∀q,q<(ρ 1).cap*cod.sz .bbyte→∃v,w.cell? (at' (ρ 1).block ((ρ 1).off+q))=some v∧bD v=true∧w.frozen? (at' (ρ 1).block ((ρ 1).off+q))=false)∧
      ShK cod w .bbyte (ρ 1).block (ρ 1).cap:=ho
    obtain ⟨o1,o2,o3,o4,o5⟩:=ho
    have hpos:0<xs.length:=List.length_pos_iff.mpr hx
    have hcap:(ρ 1).cap≠0:=by omega
    obtain ⟨m,hm⟩:=o5 rfl hcap
    have hm:w.shape? (ρ 1).block=some (5,m):=hm
    have hA:=k6 hcap
    have hlen:l.length=xs.length:=by rw [hl1];simp
    have hbound:(ρ 1).off+(ρ 1).cap≤m:=by
      obtain ⟨v,a1,_⟩:=o4 ((ρ 1).cap-1) (by show _<(ρ 1).cap*1;omega)
      have hlt:=UT a1 hm
      have:(at' (ρ 1).block ((ρ 1).off+((ρ 1).cap-1))).off=(ρ 1).off+((ρ 1).cap-1):=rfl
      omega
    rw [hA,←hlen] at k5
    have hUS:=H8 (P:=Tryz.prog) (w:=w.drew) 90 3 9 5 Tryz.underlying90 (by kernel_rfl) (Nat.le_of_ble_eq_true (by kernel_rfl)) (by kernel_rfl) (ρ 1).block (ρ 1).off m hm l (fun e=>hx (by rw [hl1,e];rfl)) (by omega) (by omega) (fun j x hj=>by
      obtain ⟨v,a1,a2⟩:=o3 j (x.toNat:Int) 0 (.lit (.int .u8 (x.toNat:Int))) (by rw [hl1,List.getElem?_map,hj];rfl) rfl
      obtain ⟨rfl,_⟩:=a7 a2
      have a1:w.cell? (at' (ρ 1).block ((ρ 1).off+j*1+0))=some (.int .u8 (x.toNat:Int)):=a1
      rw [Nat.mul_one,Nat.add_zero,←nZ] at a1
      exact a1)
    refine (KX (ρ 0).block (ρ 1).cap (some ⟨(ρ 1).block,(ρ 1).off,none⟩) l.length l w _ (some ⟨(ρ 1).block,(ρ 1).off,none⟩) k5 k5 (Lib.run_unsafeSliceData_row _ _ _ _ _ _ hcap) hUS).mono ?_
    rintro e w' ⟨rfl,rfl⟩
    obtain ⟨f1,f2,f3,f4⟩:=V5 w.drew ⟨(ρ 1).block,(ρ 1).off,none⟩ l.length
    refine fin _ (XQ S (fun k _ hk=> ?_) (by rw [f1];exact Nat.le_refl _) (by rw [f2];rfl) (by rw [f3];rfl) (by rw [f4];rfl))
    rw [TJ _ _ _ (fun e=>hk ⟨1,hcap,e.symm⟩)]
    rfl
  ·cases hr
end Km.X
namespace Km.X
open Go Km Go.Proofs Go.RowKit Go.Proofs.YtgffmpjadffjkaaGreatDoor
open Go.ChangeShapes Go.WideShapes Go.ChangeAt Go.WideMaps Go.WideElems Go.MapKept
set_option maxRecDepth 100000
def laid8 : List (String × DataW Unit) := [("math/bits.deBruijn32tab", Rows.laid_math_bits_deBruijn32tab), ("math/bits.deBruijn64tab", Rows.laid_math_bits_deBruijn64tab), ("internal/strconv.uint64pow10", Rows.laid_internal_strconv_uint64pow10), ("unicode/utf8.acceptRanges", Rows.laid_unicode_utf8_acceptRanges), ("strconv.ErrRange", Rows.laid_strconv_ErrRange), ("strconv.ErrSyntax", Rows.laid_strconv_ErrSyntax), ("loop.example/kilnwind/impl.kinds", Rows.laid_loop_example_kilnwind_impl_kinds), ("unicode/utf8.first", Rows.laid_unicode_utf8_first)]
def kindsD:DataW Unit:=Rows.laid_loop_example_kilnwind_impl_kinds
theorem qJ {s:ByteArray} {p:Int×Int} (h1:jP s impl_kinds=some p) (h2:kindsD.atKey (.string s.data.toList) .nil= .agg [.lit (.int .i64 p.1), .lit (.int .i64 p.2)]):
    kindsD.atKey (.string s.data.toList) .nil=match jP s impl_kinds with | none=> .nil | some p=> .agg [.lit (.int .i64 p.1), .lit (.int .i64 p.2)]:=by rw [h1,h2]
theorem c3_ (s:ByteArray):kindsD.atKey (.string s.data.toList) .nil=match jP s impl_kinds with | none=> .nil | some p=> .agg [.lit (.int .i64 p.1), .lit (.int .i64 p.2)]:=by
  have inj:∀{l:List UInt8},s.data.toList=l→s=⟨l.toArray⟩:=fun h=>by
    apply ByteArray.ext
    apply Array.toList_inj.mp
    rw [h]
  by_cases h1:s=⟨#[116,105,99,107]⟩
  ·rw [h1];exact qJ (p:=(1,0)) (by kernel_rfl) (by kernel_rfl)
  by_cases h2:s=⟨#[98,114,105,110,103]⟩
  ·rw [h2];exact qJ (p:=(2,1)) (by kernel_rfl) (by kernel_rfl)
  by_cases h3:s=⟨#[100,111,117,98,108,101]⟩
  ·rw [h3];exact qJ (p:=(3,1)) (by kernel_rfl) (by kernel_rfl)
  by_cases h4:s=⟨#[108,111,115,101]⟩
  ·rw [h4];exact qJ (p:=(4,1)) (by kernel_rfl) (by kernel_rfl)
  by_cases h5:s=⟨#[98,101,110,100]⟩
  ·rw [h5];exact qJ (p:=(5,3)) (by kernel_rfl) (by kernel_rfl)
  by_cases h6:s=⟨#[99,117,116]⟩
  ·rw [h6];exact qJ (p:=(6,2)) (by kernel_rfl) (by kernel_rfl)
  by_cases h7:s=⟨#[116,117,114,110]⟩
  ·rw [h7];exact qJ (p:=(7,1)) (by kernel_rfl) (by kernel_rfl)
  by_cases h8:s=⟨#[102,97,108,108]⟩
  ·rw [h8];exact qJ (p:=(8,1)) (by kernel_rfl) (by kernel_rfl)
  by_cases h9:s=⟨#[114,105,115,101]⟩
  ·rw [h9];exact qJ (p:=(9,1)) (by kernel_rfl) (by kernel_rfl)
  have hn:jP s impl_kinds=none:=by
    cases hq:jP s impl_kinds with
    | none=>rfl
    | some p=>
      have ssf:∀{t s:ByteArray} {p:Int×Int} {l:List (ByteArray×Int×Int)},t≠s→jP s ((t,p)::l)=jP s l:=fun {t s p l} h=>by
        show (match t.toList==s.toList with | true=>some p | false=>jP s l)=_
        have:(t.toList==s.toList)=false:=by
          rw [beq_eq_false_iff_ne]
          intro g
          rw [Go.ByteArray.toList_eq,Go.ByteArray.toList_eq] at g
          exact h (ByteArray.ext (Array.ext' g))
        rw [this]
      rw [impl_kinds,ssf (Ne.symm h1),ssf (Ne.symm h2),ssf (Ne.symm h3),ssf (Ne.symm h4),ssf (Ne.symm h5),ssf (Ne.symm h6),ssf (Ne.symm h7),ssf (Ne.symm h8),ssf (Ne.symm h9)] at hq
      cases hq
  rw [hn]
  have ne:∀{l:List UInt8},s≠⟨l.toArray⟩→(Lit.string l).sameKey (.string s.data.toList)=false:=fun {l} h=>by
    cases hb:(Lit.string l).sameKey (.string s.data.toList) with
    | false=>rfl
    | true=>
      exfalso
      have:l=s.data.toList:=by simpa [Lit.sameKey] using hb
      exact h (inj this.symm)
  unfold kindsD Rows.laid_loop_example_kilnwind_impl_kinds DataW.atKey
  simp only [List.find?,ne h1,ne h2,ne h3,ne h4,ne h5,ne h6,ne h7,ne h8,ne h9]
theorem eG_ {W w:World} {B:Nat} {es:Array MapEntry} {clock:Nat} {base:Nat} {sp:Nat→Bool} {held:Bool} {m:Nat} (hb:w.heap[B]? =some (.map es clock))
    (F:Fit Tryz.prog 9 (elemAt (fun _=>()) Tryz.prog W base sp held m 84) es clock) (hx:kindsD= .map ((es.toList.map (rg Tryz.prog 9 (elemAt (fun _=>()) Tryz.prog W base sp held m 84))).foldr DataW.insert [])) (s:ByteArray):
    (Instr.lookup 86 (.map (some B)) (.string s) true).run Tryz.prog w=
    .ok (match jP s impl_kinds with | none=> .tuple #[.agg #[.int .i64 0, .int .i64 0], .bool false] | some p=> .tuple #[.agg #[.int .i64 p.1, .int .i64 p.2], .bool true]) w:=by
  have K:KeyLaw Tryz.prog 9:=string_law Tryz.underlying9
  have zero:(zeroValue 84).run Tryz.prog w= .ok (.agg #[.int .i64 0, .int .i64 0]) w:=by kernel_rfl
  have val:∀{v:Value} {y:DataW Unit×List MemPlace} {a b:Int},elemAt (fun _=>()) Tryz.prog W base sp held m 84 v=some y→y.1= .agg [.lit (.int .i64 a), .lit (.int .i64 b)]→v= .agg #[.int .i64 a, .int .i64 b]:=fun {v y a b} h he=>by
    unfold elemAt at h
    split at h
    ·rename_i hf
     obtain ⟨y1,y2⟩:=y
     dsimp only at he
     subst he
     have:=Lib.cells_of_tab (zs:=[a,b]) Tryz.underlying84 Tryz.underlying3 (by kernel_rfl) (by kernel_rfl) h
     cases v<;>simp [Value.formed,Tryz.underlying84,Value.cells] at hf this
     rename_i cs
     rw [show cs= #[.int .i64 a, .int .i64 b] from Array.toList_inj.mp this]
    ·cases h
  by_cases hs:s.size≤maxLen
  ·have hat0:=c3_ s
   rw [hx] at hat0
   rcases fit_lookup_ok (w:=w) K Tryz.underlying86 zero hb F (keyOf_string_mk (s:=s) Tryz.underlying9 hs) with ⟨hrun,hat⟩ | ⟨v,y,hrun,hRv,hat,_⟩
   ·have h1:=(hat .nil).symm.trans hat0
    cases hq:jP s impl_kinds with
    | none=>exact hrun
    | some p=>rw [hq] at h1;cases h1
   ·have h1:=(hat .nil).symm.trans hat0
    cases hq:jP s impl_kinds with
    | none=>
      rw [hq] at h1
      unfold elemAt at hRv
      split at hRv
      ·obtain ⟨xs,_,_,hx1,_⟩:=DataW.trod_array Tryz.underlying84 hRv
       rw [hx1] at h1
       cases h1
      ·cases hRv
    | some p=>
      rw [hq] at h1
      rw [val hRv h1] at hrun
      exact hrun
  ·have hno:jP s impl_kinds=none:=by
     cases hq:jP s impl_kinds with
     | none=>rfl
     | some p=>
       exfalso
       have mem:∀{l:List (ByteArray×Int×Int)},jP s l=some p→∃e∈l,e.1.size=s.size:=by
         intro l
         induction l with
         | nil=>intro h;cases h
         | cons e l ih=>
           obtain ⟨t,q⟩:=e
           intro h
           unfold jP at h
           split at h
           ·rename_i g
            refine ⟨(t,q),List.mem_cons_self .., ?_⟩
            have g':=eq_of_beq g
            rw [Go.ByteArray.toList_eq,Go.ByteArray.toList_eq] at g'
            have:=congrArg List.length g'
            simpa using this
           ·obtain ⟨e,h1,h2⟩:=ih h
            exact ⟨e,List.mem_cons_of_mem _ h1,h2⟩
       obtain ⟨e,h1,h2⟩:=mem hq
       have all:impl_kinds.all (fun e=>decide (e.1.size≤10))=true:=by kernel_rfl
       have:=of_decide_eq_true (List.all_eq_true.mp all e h1)
       have:(10:Nat)≤maxLen:=by decide
       omega
   rw [hno]
   have hks:∀x∈es.toList,IsKey .string x.key:=fun x hxm=>by
     obtain ⟨y,hy⟩:=F.reads x hxm
     obtain ⟨s',e,_,_⟩:=string_of_keyOf Tryz.underlying9 (rd_key hy)
     rw [e]
     trivial
   have hne:∀x∈es.toList,x.key≠ .string s:=fun x hxm e=>by
     obtain ⟨y,hy⟩:=F.reads x hxm
     obtain ⟨s',e',_,hl⟩:=string_of_keyOf Tryz.underlying9 (rd_key hy)
     rw [e] at e'
     cases e'
     exact hs hl
   rcases findNow_spec (d:= .string) (k:= .string s) trivial es.toList 0 hks with ⟨h1,h2⟩ | ⟨j,e0,h1,h2,h3⟩
   ·have hf:=run_findKey (w:=w) Tryz.underlying9 h1
    have hc:(Instr.checkKey es.isEmpty 10000 9 (.string s)).run Tryz.prog w= .ok () w:=run_checkKey (P:=Tryz.prog) (w:=w) Tryz.underlying9 (k:= .string s) trivial es.isEmpty 9999
    simp [Instr.lookup,run_underlying Tryz.underlying86,MapKept.run_getObj_map hb,hc,hf,zero,Result.andThen]
   ·exact absurd h3 (hne e0 (List.mem_of_getElem? h2))
def noByte (W:World) (b:Nat):Prop:=b<W.heap.size∧∀off x,W.cell? ⟨b,off,none⟩≠some (.int .u8 x)
theorem of_world {W:World} (h:laidMetH Tryz.prog laid8 W) (hsh:W.ShapedOpen Tryz.prog):∃B,W.cell? ⟨0,0,none⟩=some (.map (some B))∧(∃es clock,W.heap[B]? =some (.map es clock))∧(∃m,W.cell? ⟨1,0,none⟩=some (.int .i64 m))∧
    Lib.TabIs Tryz.prog W "internal/strconv.uint64pow10" .u64 Lib.pow10Tab ∧
    (∀(w:World) (s:ByteArray),w.heap[B]? =W.heap[B]? →(Instr.lookup 86 (.map (some B)) (.string s) true).run Tryz.prog w=
      .ok (match jP s impl_kinds with | none=> .tuple #[.agg #[.int .i64 0, .int .i64 0], .bool false] | some p=> .tuple #[.agg #[.int .i64 p.1, .int .i64 p.2], .bool true]) w)∧
    noByte W 0∧noByte W 1∧noByte W 6∧noByte W B:=by
  rw [MakeChecks.laidMetH_plain _ _ _ (by kernel_rfl)] at h
  obtain ⟨ps,⟨_,_,_,_,_,_,_,_,_,_,⟨_,_,_,_,_,_,_,_,_,_,⟨g6,t6,cs6,f6,p6,q6,hg6,ht6,hv6,hd6,⟨_,_,_,_,_,_,_,_,_,_,⟨_,_,_,_,_,_,_,_,_,_,⟨_,_,_,_,_,_,_,_,_,_,⟨g0,t0,cs0,f0,p0,q0,hg0,ht0,hv0,hd0,_,_⟩,_⟩,_⟩,_⟩,_⟩,_⟩,_⟩,_,_⟩:=h
  obtain rfl := Option.some.inj ((show Tryz.prog.globalNamed "loop.example/kilnwind/impl.kinds" = some 0 by kernel_rfl).symm.trans hg0)
  obtain rfl := Option.some.inj ((show Tryz.prog.globalNamed "internal/strconv.uint64pow10" = some 6 by kernel_rfl).symm.trans hg6)
  obtain rfl:=Option.some.inj ((show (Tryz.prog.globals[0]?).map (·.type)=some 86 by kernel_rfl).symm.trans ht0)
  obtain rfl:=Option.some.inj ((show (Tryz.prog.globals[6]?).map (·.type)=some 193 by kernel_rfl).symm.trans ht6)
  have hpow:=Lib.cells_of_tab (zs:=Lib.pow10Tab) Tryz.underlying193 Tryz.underlying171 (by kernel_rfl) (by kernel_rfl) (show DataW.trod _ Tryz.prog W 0 _ false f6 193 cs6.toList=some (Lib.tabData .u64 Lib.pow10Tab,p6) from hd6)
  have htab : Lib.TabIs Tryz.prog W "internal/strconv.uint64pow10" .u64 Lib.pow10Tab := by
    unfold Lib.TabIs
    rw [hv6,←hpow]
  rcases open_map Tryz.underlying86 hd0 with ⟨_,hx⟩ | ⟨B,es,clock,m,rfl,hcs,hb,_,F,hx⟩
  ·cases hx
  simp only [Prod.mk.injEq] at hx
  have hcell:∀i,W.cell? ⟨0,i,none⟩=[Value.map (some B)][i]? :=fun i=>by
    have:=World.var?_cell hg0 hv0 i
    rw [Array.eq_one_of_toList hcs] at this
    simpa using this
  have hrow:=hsh.1 1 #[.int .i64 0] 3 (of_decide_eq_true (by kernel_rfl)) (by kernel_rfl)
  obtain ⟨cs1,hh1,hz1,_⟩:=hrow
  obtain ⟨mx,hmx0⟩:=Tryz.laysM146.s1_3 W hsh
  have hmx:W.cell? ⟨1,0,none⟩=some (.int .i64 mx):=hmx0
  have lt:∀{b:Nat} {o:Obj},W.heap[b]? =some o→b<W.heap.size:=fun h=>(Array.getElem?_eq_some_iff.1 h).1
  refine ⟨B,by simpa using hcell 0,⟨es,clock,hb⟩,⟨mx,hmx⟩,htab,fun w s hw=>eG_ (hw.trans hb) F hx.1 s,⟨U4 (hcell 0),fun off x hx=> ?_⟩,⟨lt hh1,fun off x hx=> ?_⟩,⟨?_,fun off x hx=> ?_⟩,⟨lt hb,fun off x hx=> ?_⟩⟩
  ·rw [hcell off] at hx
   cases off with
   | zero=>cases hx
   | succ n=>simp at hx
  ·have e:W.cell? ⟨1,off,none⟩=cs1[off]? :=by simp [World.cell?,hh1]
   have e0:W.cell? ⟨1,0,none⟩=cs1[0]? :=by simp [World.cell?,hh1]
   rw [e] at hx
   have hlt:=(Array.getElem?_eq_some_iff.1 hx).1
   have hz:cs1.size=1:=hz1
   obtain rfl:off=0:=by omega
   rw [←e0,hmx] at hx
   cases hx
  ·have:=htab.cell hg6 0 (by rw [Lib.pow10Tab_length];omega)
   exact U4 this
  ·have:=World.var?_cell hg6 htab off
   rw [this] at hx
   simp at hx
  ·simp [World.cell?,hb] at hx
open Go Km Go.Proofs
variable [Glob]
def ht_:List (Nat×TI K TyK):=[(5,⟨1,1, .int .u8,[.lit (.int .u8 0)]⟩),(24,⟨1,24, .slice 5 .byte,[.nil .byte]⟩)]
noncomputable def TR:=aU ht_
theorem gz_:cP Tryz.prog cod TR 5 ⟨1,1, .int .u8,[.lit (.int .u8 0)]⟩:=⟨_,_,_,Tryz.type5,rfl,rfl,rfl,by kernel_rfl,by kernel_rfl,Tryz.underlying5,by kernel_rfl,rfl⟩
theorem fk_:cP Tryz.prog cod TR 24 ⟨1,24, .slice 5 .byte,[.nil .byte]⟩:=⟨_,_,_,Tryz.type24,rfl,rfl,rfl,by kernel_rfl,by kernel_rfl,Tryz.underlying24,by kernel_rfl,⟨⟨rfl,_,Tryz.type5,by kernel_rfl,by kernel_rfl⟩,_,_,Tryz.type5,rfl,by kernel_rfl,by kernel_rfl,Nat.le_of_ble_eq_true (by kernel_rfl)⟩⟩
theorem gE_:∀e∈ht_,cP Tryz.prog cod TR e.1 e.2:=all_cons gz_ (all_cons fk_ aB)
theorem tokR:TOk Tryz.prog cod TR:=TOk.of gE_ (by kernel_rfl)
theorem hx_ {n:Nat} {avs:List V} (h:oS cod TR n 5 avs):∃x:Int,avs=[.lit (.int .u8 x)]∧(Lit.int .u8 x).wf=true:=by
  cases n with
  | zero=>exact h.elim
  | succ n=>exact h
theorem shR24 {n:Nat} {avs:List V} (h:oS cod TR n 24 avs):∃x:List Int,avs=[.inl false .byte x]∧(x.length≤maxLen∧∀y∈x,EG y):=by
  cases n with
  | zero=>exact h.elim
  | succ n=>
    obtain ⟨xs,h1,h2,h3⟩:=(h:∃xs:List (TyK .byte),avs=[.inl false .byte xs]∧xs.length≤maxLen∧∀x∈xs,oS cod TR n 5 (fb_ .byte x))
    refine ⟨xs,h1,h2,fun y hy=> ?_⟩
    obtain ⟨z,hz,hw⟩:=hx_ (h3 y hy)
    have hz:([.lit (.int .u8 y)]:List V)=[.lit (.int .u8 z)]:=hz
    have:y=z:=by
      simp only [List.cons.injEq,AV.lit.injEq,Value.int.injEq,true_and,and_true] at hz
      exact hz
    subst this
    exact hw
theorem fullR:FullC cod TR:=FullC.of (by kernel_rfl) (all_cons (fun e s n avs h hb=>by cases h) (all_cons (fun e s n avs h hb hs=>by cases h;obtain ⟨x,hx,_⟩:=hx_ hs;exact ⟨x,hx.symm⟩) aB)) (fun s=>by show 0<ksz s;cases s<;>decide) trivial
theorem bytes_apart {W:World} {ρ:Nat→Loc} {xs:List Int} {v:Value} (hb:∀b,gbs b→noByte W b) (h:VRel cod W (fun _=>False) ρ [] (.inl false .byte xs) v):VRel cod W gbs ρ [] (.inl false .byte xs) v:=by
  cases h with
  | inl h1 h2 h3 h4 h5=>
    rename_i A c blk off vals
    have e:∀(i:Nat) (x:Int),xs[i]? =some x→vals i 0= .int .u8 x:=fun i x hx=>(a7 (h5 i x 0 _ hx rfl)).1
    refine .inl h1 h2 (fun hne=> ?_) h4 (fun i x j cl hx hj=> ?_)
    ·obtain ⟨a1,a2,a3⟩:=h3 hne
     refine ⟨a1,a2,fun hX=> ?_⟩
     rcases hX with hX | ⟨_,hX⟩
     ·exact a3 (.inl hX)
     ·obtain ⟨x,t,rfl⟩:=List.exists_cons_of_ne_nil hne
      have hc:=h4 0 x 0 _ rfl rfl
      rw [e 0 x rfl] at hc
      exact (hb blk hX).2 _ _ hc
    ·have:cl= .lit (.int .u8 x):=by
       cases j with
       | zero=>exact (Option.some.inj hj).symm
       | succ j=>cases hj
     subst this
     obtain ⟨e1,_⟩:=a7 (h5 i x j _ hx hj)
     rw [e1]
     exact .lit rfl
end Km.X
namespace Km.X
open Go Km Go.Proofs Go.RowKit Go.Proofs.YtgffmpjadffjkaaGreatDoor
open Go.ChangeShapes Go.WideShapes Go.ChangeAt
set_option maxRecDepth 100000
noncomputable def witW (os : Os) : World := (World.doorLaid Tryz.prog 131 os).layVars Tryz.prog (laid8.filter fun x => ["unicode/utf8.first"].contains x.1)
theorem witW_os (os:Os):(witW os).os=os:=(World.layVars_os _ _ _).trans rfl
theorem witW_met (os:Os) (args:Array Value):laidMetH Tryz.prog laid8 ((witW os).forCall (fun _ _=>0) ⟨#[],args,[]⟩).memory:=by
  rw [MakeChecks.laidMetH_plain _ _ _ (by kernel_rfl)]
  have h : laidMet Tryz.prog laid8 (witW os) := laidMet_layVars (w0 := World.doorLaid Tryz.prog 131 os) ["unicode/utf8.first"] [0, 3, 4, 5, 6, 7, 8, 9, 10, 11, 12, 13, 14, 15, 16] rfl (by kernel_rfl) (by kernel_rfl)
    (LaidIn.of_run _ 8 (by kernel_rfl) (by kernel_rfl) (by kernel_rfl) (by kernel_rfl))
  exact h.of_heap (by simp [World.memory,World.forCall,Input.heap])
theorem witW_shaped (os:Os) (args:Array Value):((witW os).forCall (fun _ _=>0) ⟨#[],args,[]⟩).Shaped Tryz.prog:=World.shaped_of_ZipB (by kernel_rfl) (by kernel_rfl)
theorem wrap {H:Type} {enc:TypeId×Value→H} {a:Assume} {C:Checked} {os:Os} {f:FuncId} {fn:Func} {s:ChangeSpec} {conds:List PathCond} {apart fresh handsOn again:Bool} {X:World→Array Value→Prop}
    (hX:∀(w w':World) (args:Array Value),w.heap=w'.heap→X w args→X w' args)
    (own:ownKnob C.prog.godebug=none) (started:os.Started) (noInit:C.prog.inits.idxOf? f=none) (hfn:C.prog.funcs[f]? =some fn)
    (witness:∃(w:World) (tape:Tape) (i:Input),w.os=os∧(w.forCall tape i).Shaped C.prog∧i.vars=[]∧Input.okWide C.prog (w.forCall tape i) .any w.heap.size f i∧
      ((s.pre enc C.prog fn conds apart (w.forCall tape i).memory i.args∧X (w.forCall tape i).memory i.args)∧sizedMet enc C.prog fn (OpenSpec.ofChange s) apart (w.forCall tape i).memory i.args)∧a.holds C.prog (lone (Frame.enter C.prog f i.args .normal) [] (w.forCall tape i)))
    (contract:∀(W:World) (base:Nat) (args:Array Value) (ds gs:List (DataW H)) (before:List MemPlace),
      (∀(j:Nat) t v,fn.params[j]? =some t→args[j]? =some v→Value.okWide C.prog W .any base t v)→
      DataW.Whole enc C.prog fn.params.toList s.vars apart W args.toList ds gs before→X W args→W.ShapedOpen C.prog→
      Calls C.prog f args W fun e W'=>∃v,e= .returned v∧s.post enc C.prog fn apart fresh handsOn again W args v W'):
    ReturnsInHanded a C os f .any (fun w args=>(s.pre enc C.prog fn conds apart w args∧X w args)∧sizedMet enc C.prog fn (OpenSpec.ofChange s) apart w args) (s.post enc C.prog fn apart fresh handsOn again):=by
  refine returnsInHanded_of_calls own started noInit witness ?_
  intro w tape i _ hsh _ hok hpre hholds
  obtain ⟨_,_,_,fn',hfn',_,_,_,_,hval⟩:=hok
  have e:fn'=fn:=Option.some.inj (hfn'.symm.trans hfn)
  subst e
  obtain ⟨⟨⟨ds,gs,before,hw,hc⟩,hx⟩,hz⟩:=hpre
  refine (contract (w.forCall tape i) w.heap.size i.args ds gs before hval (DataW.Whole.of_heap (w':=w.forCall tape i) (by rfl) hw) (hX _ _ _ (by rfl) hx) hsh).mono fun e W' ⟨v,he,hp⟩=> ?_
  subst he
  exact ChangeSpec.post_blind hp
end Km.X
