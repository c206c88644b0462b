/- A part of the proof of FnExactDo: the program's types as data. There is no condition. -/
import Derived.Test.YtgffmpjadffjkaaGreatKxDef1
import Derived.Test.YtgffmpjadffjkaaGreatKmAm4
import Derived.Test.YtgffmpjadffjkaaGreatProg
namespace Km.X
open Go Km
set_option linter.unusedVariables false
inductive K | byte | int | str | end | parcel | record | event | item | held | packet | pair | lstr | l7count | key | lrecord | part | xend
abbrev TyK:K→Type
  | .byte=>Int
  | .int=>Int
  | .str=>ByteArray
  | .end=>an_
  | .parcel=>ac_
  | .record=>ab_
  | .event=>bu_
  | .item=>ag_
  | .held=>ai_
  | .packet=>ad_
  | .pair=>vY_
  | .lstr=>List ByteArray
  | .l7count=>sJ_
  | .key=>C9_
  | .lrecord=>List ab_
  | .part=>aE_
  | .xend=>an_
abbrev V:=AV K TyK
def kno:K→Nat
  | .byte=>0
  | .int=>1
  | .str=>2
  | .end=>3
  | .parcel=>4
  | .record=>5
  | .event=>6
  | .item=>7
  | .held=>8
  | .packet=>9
  | .pair=>10
  | .lstr=>11
  | .l7count=>12
  | .key=>13
  | .lrecord=>14
  | .part=>15
  | .xend=>16
def CL_:(s t:K)→List (TyK s)→Option (List (TyK t))
  | .byte, .byte,xs=>some xs
  | .int, .int,xs=>some xs
  | .str, .str,xs=>some xs
  | .end, .end,xs=>some xs
  | .parcel, .parcel,xs=>some xs
  | .record, .record,xs=>some xs
  | .event, .event,xs=>some xs
  | .item, .item,xs=>some xs
  | .held, .held,xs=>some xs
  | .packet, .packet,xs=>some xs
  | .pair, .pair,xs=>some xs
  | .lstr, .lstr,xs=>some xs
  | .l7count, .l7count,xs=>some xs
  | .key, .key,xs=>some xs
  | .lrecord, .lrecord,xs=>some xs
  | .part, .part,xs=>some xs
  | .xend, .xend,xs=>some xs
  | _,_,_=>none
def ksz:K→Nat
  | .byte=>1
  | .int=>1
  | .str=>1
  | .end=>12
  | .parcel=>3
  | .record=>4
  | .event=>5
  | .item=>4
  | .held=>3
  | .packet=>9
  | .pair=>3
  | .lstr=>1
  | .l7count=>3
  | .key=>2
  | .lrecord=>1
  | .part=>2
  | .xend=>12
def kby:K→Nat
  | .byte=>1
  | .int=>8
  | .str=>16
  | .end=>152
  | .parcel=>40
  | .record=>40
  | .event=>48
  | .item=>40
  | .held=>32
  | .packet=>80
  | .pair=>8
  | .lstr=>8
  | .l7count=>32
  | .key=>8
  | .lrecord=>24
  | .part=>24
  | .xend=>152
def vk_:(t:K)→TyK t→List V
  | .byte,x=>[.lit (.int .u8 x)]
  | .int,x=>[.lit (.int .i64 x)]
  | .str,x=>[.lit (.string x)]
  | .end,x=>[.lit (.int .i64 x.Number), .lit (.bool x.Up), .lit (.int .i64 x.Life), .lit (.int .i64 x.Peer), .lit (.int .i64 x.Since), .lit (.bool x.Owes), .lit (.int .i64 x.Send.Base), .inl false .item x.Send.Items, .lit (.int .i64 x.Take.Next), .inl false .held x.Take.Held, .lit (.string x.Take.Open), .inl false .str x.Take.Ready]
  | .parcel,x=>[.lit (.int .i64 x.To), .lit (.string x.Sent), .lit (.string x.Bytes)]
  | .record,x=>[.lit (.int .i64 x.From), .lit (.int .i64 x.A), .lit (.int .i64 x.B), .lit (.string x.Text)]
  | .event,x=>[.lit (.int .i64 x.Kind), .lit (.int .i64 x.A), .lit (.int .i64 x.B), .lit (.int .i64 x.C), .lit (.string x.Text)]
  | .item,x=>[.lit (.string x.Part.Text), .lit (.bool x.Part.Last), .lit (.bool x.Has), .lit (.int .i64 x.Since)]
  | .held,x=>[.lit (.int .i64 x.Seq), .lit (.string x.Part.Text), .lit (.bool x.Part.Last)]
  | .packet,x=>[.lit (.int .i64 x.Kind), .lit (.int .i64 x.From), .lit (.int .i64 x.Mine), .lit (.int .i64 x.Yours), .lit (.int .i64 x.Next), .lit (.int .i64 x.Mask), .lit (.int .i64 x.Seq), .lit (.bool x.Last), .lit (.string x.Part)]
  | .pair,x=>[.lit (.int .i64 x.f), .lit (.int .i64 x.a), .lit (.int .i64 x.b)]
  | .lstr,x=>[.inl false .str x]
  | .l7count,x=>[.lit (.int .i64 x.to), .lit (.string x.bytes), .lit (.int .i64 x.n)]
  | .key,x=>[.lit (.int .i64 x.to), .lit (.string x.bytes)]
  | .lrecord,x=>[.inl true .record x]
  | .part,x=>[.lit (.string x.Text), .lit (.bool x.Last)]
  | .xend,x=>[.lit (.int .i64 x.Number), .lit (.bool x.Up), .lit (.int .i64 x.Life), .lit (.int .i64 x.Peer), .lit (.int .i64 x.Since), .lit (.bool x.Owes), .lit (.int .i64 x.Send.Base), .inl true .item x.Send.Items, .lit (.int .i64 x.Take.Next), .inl true .held x.Take.Held, .lit (.string x.Take.Open), .inl true .str x.Take.Ready]
def Fs_:(t:K)→List V→Option (TyK t)
  | .byte,[.lit (.int .u8 v1)]=>some v1
  | .int,[.lit (.int .i64 v1)]=>some v1
  | .str,[.lit (.string v1)]=>some v1
  | .end,[.lit (.int .i64 v1), .lit (.bool v2), .lit (.int .i64 v3), .lit (.int .i64 v4), .lit (.int .i64 v5), .lit (.bool v6), .lit (.int .i64 v7), .inl false .item v8, .lit (.int .i64 v9), .inl false .held v10, .lit (.string v11), .inl false .str v12]=>some ⟨v1,v2,v3,v4,v5,v6,⟨v7,v8⟩,⟨v9,v10,v11,v12⟩⟩
  | .parcel,[.lit (.int .i64 v1), .lit (.string v2), .lit (.string v3)]=>some ⟨v1,v2,v3⟩
  | .record,[.lit (.int .i64 v1), .lit (.int .i64 v2), .lit (.int .i64 v3), .lit (.string v4)]=>some ⟨v1,v2,v3,v4⟩
  | .event,[.lit (.int .i64 v1), .lit (.int .i64 v2), .lit (.int .i64 v3), .lit (.int .i64 v4), .lit (.string v5)]=>some ⟨v1,v2,v3,v4,v5⟩
  | .item,[.lit (.string v1), .lit (.bool v2), .lit (.bool v3), .lit (.int .i64 v4)]=>some ⟨⟨v1,v2⟩,v3,v4⟩
  | .held,[.lit (.int .i64 v1), .lit (.string v2), .lit (.bool v3)]=>some ⟨v1,⟨v2,v3⟩⟩
  | .packet,[.lit (.int .i64 v1), .lit (.int .i64 v2), .lit (.int .i64 v3), .lit (.int .i64 v4), .lit (.int .i64 v5), .lit (.int .i64 v6), .lit (.int .i64 v7), .lit (.bool v8), .lit (.string v9)]=>some ⟨v1,v2,v3,v4,v5,v6,v7,v8,v9⟩
  | .pair,[.lit (.int .i64 v1), .lit (.int .i64 v2), .lit (.int .i64 v3)]=>some ⟨v1,v2,v3⟩
  | .lstr,[.inl false .str v1]=>some v1
  | .l7count,[.lit (.int .i64 v1), .lit (.string v2), .lit (.int .i64 v3)]=>some ⟨v1,v2,v3⟩
  | .key,[.lit (.int .i64 v1), .lit (.string v2)]=>some ⟨v1,v2⟩
  | .lrecord,[.inl true .record v1]=>some v1
  | .part,[.lit (.string v1), .lit (.bool v2)]=>some ⟨v1,v2⟩
  | .xend,[.lit (.int .i64 v1), .lit (.bool v2), .lit (.int .i64 v3), .lit (.int .i64 v4), .lit (.int .i64 v5), .lit (.bool v6), .lit (.int .i64 v7), .inl true .item v8, .lit (.int .i64 v9), .inl true .held v10, .lit (.string v11), .inl true .str v12]=>some ⟨v1,v2,v3,v4,v5,v6,⟨v7,v8⟩,⟨v9,v10,v11,v12⟩⟩
  | _,_=>none
def zb_:(t:K)→List (TyK t)→Option (List Int)
  | .byte,xs=>some xs
  | _,_=>none
def Fg_:(t:K)→ByteArray→Option (List (TyK t))
  | .byte,b=>some (bX_ b)
  | _,_=>none
def Fh_:(k:K)→TyK k→TyK k→Bool
  | .pair,x,y=>qE_ x y
  | .key,x,y=>uQ_ x y
  | _,_,_=>false
def y4_:(k v k' v':K)→List (TyK k×TyK v)→Option (List (TyK k'×TyK v'))
  | .key, .int, .key, .int,xs=>some xs
  | .pair, .int, .pair, .int,xs=>some xs
  | .pair, .lstr, .pair, .lstr,xs=>some xs
  | _,_,_,_,_=>none
def Ge_:K→Bool
  | .lrecord=>true
  | .xend=>true
  | _=>false
def F6_:K→Bool
  | .xend=>true
  | _=>false
def kup:(s:K)→List (TyK s)→Option ((t:K)×List (TyK t))
  | .end,xs=>some ⟨.xend,xs⟩
  | _,_=>none
def kdn:(s:K)→List (TyK s)→Option ((t:K)×List (TyK t))
  | .xend,xs=>some ⟨.end,xs⟩
  | _,_=>none
def cod:Cod K TyK where
  xcl:=F6_
  up:=kup
  dn:=kdn
  same s t:=Nat.beq (kno s) (kno t)
  cast:=CL_
  sz:=ksz
  by':=kby
  bor:=Ge_
  enc:=vk_
  dec:=Fs_
  bytes:=zb_
  ofb:=Fg_
  keq:=Fh_
  mcast:=y4_
theorem B0_ (x:an_) (j:Nat) (c':V) (h:(vk_ .xend x)[j]? =some c'):∃c,(vk_ .end x)[j]? =some c∧((∃v,c= .lit v∧c'= .lit v)∨∃b0 s' zs,c= .inl b0 s' zs∧c'= .inl true s' zs):=by
  match j,h with
  | 0,h=>cases h;exact ⟨_,rfl, .inl ⟨_,rfl,rfl⟩⟩
  | 1,h=>cases h;exact ⟨_,rfl, .inl ⟨_,rfl,rfl⟩⟩
  | 2,h=>cases h;exact ⟨_,rfl, .inl ⟨_,rfl,rfl⟩⟩
  | 3,h=>cases h;exact ⟨_,rfl, .inl ⟨_,rfl,rfl⟩⟩
  | 4,h=>cases h;exact ⟨_,rfl, .inl ⟨_,rfl,rfl⟩⟩
  | 5,h=>cases h;exact ⟨_,rfl, .inl ⟨_,rfl,rfl⟩⟩
  | 6,h=>cases h;exact ⟨_,rfl, .inl ⟨_,rfl,rfl⟩⟩
  | 7,h=>cases h;exact ⟨_,rfl, .inr ⟨_,_,_,rfl,rfl⟩⟩
  | 8,h=>cases h;exact ⟨_,rfl, .inl ⟨_,rfl,rfl⟩⟩
  | 9,h=>cases h;exact ⟨_,rfl, .inr ⟨_,_,_,rfl,rfl⟩⟩
  | 10,h=>cases h;exact ⟨_,rfl, .inl ⟨_,rfl,rfl⟩⟩
  | 11,h=>cases h;exact ⟨_,rfl, .inr ⟨_,_,_,rfl,rfl⟩⟩
  | _+12,h=>cases h
theorem CS_ (x:an_) (j:Nat) (c':V) (h:(vk_ .end x)[j]? =some c'):∃c,(vk_ .xend x)[j]? =some c∧((∃v,c= .lit v∧c'= .lit v)∨∃b0 s' zs,c= .inl b0 s' zs∧c'= .inl false s' zs):=by
  match j,h with
  | 0,h=>cases h;exact ⟨_,rfl, .inl ⟨_,rfl,rfl⟩⟩
  | 1,h=>cases h;exact ⟨_,rfl, .inl ⟨_,rfl,rfl⟩⟩
  | 2,h=>cases h;exact ⟨_,rfl, .inl ⟨_,rfl,rfl⟩⟩
  | 3,h=>cases h;exact ⟨_,rfl, .inl ⟨_,rfl,rfl⟩⟩
  | 4,h=>cases h;exact ⟨_,rfl, .inl ⟨_,rfl,rfl⟩⟩
  | 5,h=>cases h;exact ⟨_,rfl, .inl ⟨_,rfl,rfl⟩⟩
  | 6,h=>cases h;exact ⟨_,rfl, .inl ⟨_,rfl,rfl⟩⟩
  | 7,h=>cases h;exact ⟨_,rfl, .inr ⟨_,_,_,rfl,rfl⟩⟩
  | 8,h=>cases h;exact ⟨_,rfl, .inl ⟨_,rfl,rfl⟩⟩
  | 9,h=>cases h;exact ⟨_,rfl, .inr ⟨_,_,_,rfl,rfl⟩⟩
  | 10,h=>cases h;exact ⟨_,rfl, .inl ⟨_,rfl,rfl⟩⟩
  | 11,h=>cases h;exact ⟨_,rfl, .inr ⟨_,_,_,rfl,rfl⟩⟩
  | _+12,h=>cases h
theorem codOk:aO_ cod where
  up s xs t ys h:=by
   change kup s xs=some ⟨t,ys⟩ at h
   unfold kup at h
   split at h
   ·cases h
    exact ⟨rfl,rfl,fun i x y hx hy j c' hc=>by rw [hx] at hy;cases hy;exact B0_ x j c' hc⟩
   ·cases h
  dn s xs t ys h:=by
   change kdn s xs=some ⟨t,ys⟩ at h
   unfold kdn at h
   split at h
   ·cases h
    exact ⟨rfl,rfl,fun i x y hx hy j c' hc=>by rw [hx] at hy;cases hy;exact CS_ x j c' hc⟩
   ·cases h
  xbor t h:=by cases t<;>first | rfl | cases h
  xin t x b s xs h hm:=by
    change .inl b s xs∈vk_ t x at hm
    cases t<;>first | (cases h;done) | (simp only [vk_,List.mem_cons,List.not_mem_nil,or_false] at hm;(repeat' (rcases hm with hm | hm))<;>first | rfl | (cases hm;rfl) | cases hm)
  same s t h:=by have:=Nat.eq_of_beq_eq_true h;cases s<;>cases t<;>first | rfl | (simp [kno] at this)
  len t x:=by cases t<;>rfl
  dec t cs x h:=by
    change Fs_ t cs=some x at h
    unfold Fs_ at h
    split at h<;>first | (cases h;rfl) | cases h
  deep t x c h:=by
    change c∈vk_ t x at h
    cases t<;>simp only [vk_,List.mem_cons,List.not_mem_nil,or_false] at h<;>(repeat' (rcases h with h | h))<;>first | exact .inl ⟨_,rfl⟩ | exact .inr ⟨_,_,rfl,fun e=>by cases e⟩
  cast s t xs ys h:=by
    change CL_ s t xs=some ys at h
    unfold CL_ at h
    split at h
    all_goals first | (cases h;exact ⟨rfl,rfl⟩) | cases h
  ofb t b xs h:=by
    change Fg_ t b=some xs at h
    unfold Fg_ at h
    split at h
    ·cases h
     refine ⟨by unfold bX_;rw [List.length_map,Array.length_toList];rfl,fun i x hx=> ?_,rfl⟩
     simp only [bX_,List.getElem?_map,Option.map_eq_some_iff] at hx
     obtain ⟨c,hc,rfl⟩:=hx
     exact ⟨c,by simpa using hc,rfl⟩
    ·cases h
  keq k x y h:=by
    change Fh_ k x y=true at h
    unfold Fh_ at h
    split at h
    all_goals first | cases h | (first | exact r6_ h | exact u3_ h)
  mcast k v k' v' xs ys h:=by
    change y4_ k v k' v' xs=some ys at h
    unfold y4_ at h
    split at h
    all_goals first | (cases h;exact ⟨rfl,rfl,rfl⟩) | cases h
  bytes t xs bs h:=by
    change zb_ t xs=some bs at h
    unfold zb_ at h
    split at h
    ·cases h;exact ⟨rfl,fun i x b h1 h2=>by rw [h1] at h2;cases h2;rfl⟩
    ·cases h
end Km.X
namespace Km.X
open Go Km Go.Proofs
set_option linter.unusedVariables false
set_option maxRecDepth 100000
def tbl:List (Nat×TI K TyK):=[
  (2,⟨1,8, .int .i64,[.lit (.int .i64 0)]⟩),
  (3,⟨1,8, .int .i64,[.lit (.int .i64 0)]⟩),
  (4,⟨1,1, .bool,[.lit (.bool false)]⟩),
  (5,⟨1,1, .int .u8,[.lit (.int .u8 0)]⟩),
  (9,⟨1,16, .str,[.lit (.string ⟨#[]⟩)]⟩),
  (12,⟨1,8, .int .u64,[.lit (.int .u64 0)]⟩),
  (21,⟨1,4, .int .i32,[.lit (.int .i32 0)]⟩),
  (22,⟨1,24, .slice 5 .byte,[.nil .byte]⟩),
  (25,⟨1,24, .slice 65 .end,[.nil .end]⟩),
  (26,⟨1,24, .slice 73 .parcel,[.nil .parcel]⟩),
  (27,⟨1,24, .slice 87 .record,[.nil .record]⟩),
  (29,⟨7,136, .struct [(0,9),(1,3),(2,25),(3,26),(4,9),(5,27),(6,27)],[.lit (.string ⟨#[]⟩), .lit (.int .i64 0), .nil .end, .nil .parcel, .lit (.string ⟨#[]⟩), .nil .record, .nil .record]⟩),
  (31,⟨1,24, .slice 35 .event,[.nil .event]⟩),
  (35,⟨5,48, .struct [(0,3),(1,3),(2,3),(3,3),(4,9)],[.lit (.int .i64 0), .lit (.int .i64 0), .lit (.int .i64 0), .lit (.int .i64 0), .lit (.string ⟨#[]⟩)]⟩),
  (41,⟨1,24, .slice 144 .end,[.nil .end]⟩),
  (42,⟨1,24, .slice 146 .parcel,[.nil .parcel]⟩),
  (43,⟨1,24, .slice 148 .record,[.nil .record]⟩),
  (45,⟨7,136, .struct [(0,9),(1,3),(2,41),(3,42),(4,9),(5,43),(6,43)],[.lit (.string ⟨#[]⟩), .lit (.int .i64 0), .nil .end, .nil .parcel, .lit (.string ⟨#[]⟩), .nil .record, .nil .record]⟩),
  (51,⟨5,48, .struct [(0,3),(1,3),(2,3),(3,3),(4,9)],[.lit (.int .i64 0), .lit (.int .i64 0), .lit (.int .i64 0), .lit (.int .i64 0), .lit (.string ⟨#[]⟩)]⟩),
  (57,⟨1,24, .slice 171 .item,[.nil .item]⟩),
  (59,⟨2,32, .struct [(0,3),(1,57)],[.lit (.int .i64 0), .nil .item]⟩),
  (60,⟨1,24, .slice 182 .held,[.nil .held]⟩),
  (61,⟨1,24, .slice 9 .str,[.nil .str]⟩),
  (63,⟨4,72, .struct [(0,3),(1,60),(2,9),(3,61)],[.lit (.int .i64 0), .nil .held, .lit (.string ⟨#[]⟩), .nil .str]⟩),
  (65,⟨12,152, .struct [(0,3),(1,4),(2,3),(3,3),(4,3),(5,4),(6,59),(8,63)],[.lit (.int .i64 0), .lit (.bool false), .lit (.int .i64 0), .lit (.int .i64 0), .lit (.int .i64 0), .lit (.bool false), .lit (.int .i64 0), .nil .item, .lit (.int .i64 0), .nil .held, .lit (.string ⟨#[]⟩), .nil .str]⟩),
  (68,⟨1,8, .other,[.lit (.pointer none)]⟩),
  (73,⟨3,40, .struct [(0,3),(1,9),(2,9)],[.lit (.int .i64 0), .lit (.string ⟨#[]⟩), .lit (.string ⟨#[]⟩)]⟩),
  (75,⟨9,80, .struct [(0,3),(1,3),(2,3),(3,3),(4,3),(5,3),(6,3),(7,4),(8,9)],[.lit (.int .i64 0), .lit (.int .i64 0), .lit (.int .i64 0), .lit (.int .i64 0), .lit (.int .i64 0), .lit (.int .i64 0), .lit (.int .i64 0), .lit (.bool false), .lit (.string ⟨#[]⟩)]⟩),
  (82,⟨1,24, .slice 75 .packet,[.nil .packet]⟩),
  (84,⟨15,200, .struct [(0,3),(1,65),(13,82),(14,9)],[.lit (.int .i64 0), .lit (.int .i64 0), .lit (.bool false), .lit (.int .i64 0), .lit (.int .i64 0), .lit (.int .i64 0), .lit (.bool false), .lit (.int .i64 0), .nil .item, .lit (.int .i64 0), .nil .held, .lit (.string ⟨#[]⟩), .nil .str, .nil .packet, .lit (.string ⟨#[]⟩)]⟩),
  (87,⟨4,40, .struct [(0,3),(1,3),(2,3),(3,9)],[.lit (.int .i64 0), .lit (.int .i64 0), .lit (.int .i64 0), .lit (.string ⟨#[]⟩)]⟩),
  (93,⟨1,8, .map 95 61 .pair .lstr,[.lit (.map none)]⟩),
  (95,⟨3,24, .struct [(0,3),(1,3),(2,3)],[.lit (.int .i64 0), .lit (.int .i64 0), .lit (.int .i64 0)]⟩),
  (96,⟨1,8, .map 95 3 .pair .int,[.lit (.map none)]⟩),
  (102,⟨1,24, .slice 150 .l7count,[.nil .l7count]⟩),
  (110,⟨1,8, .map 112 3 .key .int,[.lit (.map none)]⟩),
  (112,⟨2,24, .struct [(0,3),(1,9)],[.lit (.int .i64 0), .lit (.string ⟨#[]⟩)]⟩),
  (120,⟨1,24, .slice 3 .int,[.nil .int]⟩),
  (123,⟨2,32, .struct [(0,22),(1,3)],[.nil .byte, .lit (.int .i64 0)]⟩),
  (126,⟨1,24, .slice 27 .lrecord,[.nil .lrecord]⟩),
  (127,⟨1,8, .other,[.lit (.pointer none)]⟩),
  (137,⟨1,24, .slice 204 .item,[.nil .item]⟩),
  (139,⟨2,32, .struct [(0,3),(1,137)],[.lit (.int .i64 0), .nil .item]⟩),
  (140,⟨1,24, .slice 207 .held,[.nil .held]⟩),
  (142,⟨4,72, .struct [(0,3),(1,140),(2,9),(3,61)],[.lit (.int .i64 0), .nil .held, .lit (.string ⟨#[]⟩), .nil .str]⟩),
  (144,⟨12,152, .struct [(0,3),(1,4),(2,3),(3,3),(4,3),(5,4),(6,139),(8,142)],[.lit (.int .i64 0), .lit (.bool false), .lit (.int .i64 0), .lit (.int .i64 0), .lit (.int .i64 0), .lit (.bool false), .lit (.int .i64 0), .nil .item, .lit (.int .i64 0), .nil .held, .lit (.string ⟨#[]⟩), .nil .str]⟩),
  (146,⟨3,40, .struct [(0,3),(1,9),(2,9)],[.lit (.int .i64 0), .lit (.string ⟨#[]⟩), .lit (.string ⟨#[]⟩)]⟩),
  (148,⟨4,40, .struct [(0,3),(1,3),(2,3),(3,9)],[.lit (.int .i64 0), .lit (.int .i64 0), .lit (.int .i64 0), .lit (.string ⟨#[]⟩)]⟩),
  (150,⟨3,32, .struct [(0,3),(1,9),(2,3)],[.lit (.int .i64 0), .lit (.string ⟨#[]⟩), .lit (.int .i64 0)]⟩),
  (165,⟨1,8, .other,[.lit (.pointer none)]⟩),
  (169,⟨2,24, .struct [(0,9),(1,4)],[.lit (.string ⟨#[]⟩), .lit (.bool false)]⟩),
  (171,⟨4,40, .struct [(0,169),(2,4),(3,3)],[.lit (.string ⟨#[]⟩), .lit (.bool false), .lit (.bool false), .lit (.int .i64 0)]⟩),
  (177,⟨1,24, .slice 169 .part,[.nil .part]⟩),
  (182,⟨3,32, .struct [(0,3),(1,169)],[.lit (.int .i64 0), .lit (.string ⟨#[]⟩), .lit (.bool false)]⟩),
  (189,⟨1,8, .int .u64,[.lit (.int .u64 0)]⟩),
  (190,⟨1,8, .other,[.lit (.pointer none)]⟩),
  (191,⟨1,8, .int .u64,[.lit (.int .u64 0)]⟩),
  (192,⟨8,8, .arr 8 5 .byte,[.lit (.int .u8 0), .lit (.int .u8 0), .lit (.int .u8 0), .lit (.int .u8 0), .lit (.int .u8 0), .lit (.int .u8 0), .lit (.int .u8 0), .lit (.int .u8 0)]⟩),
  (202,⟨2,24, .struct [(0,9),(1,4)],[.lit (.string ⟨#[]⟩), .lit (.bool false)]⟩),
  (204,⟨4,40, .struct [(0,202),(2,4),(3,3)],[.lit (.string ⟨#[]⟩), .lit (.bool false), .lit (.bool false), .lit (.int .i64 0)]⟩),
  (207,⟨3,32, .struct [(0,3),(1,202)],[.lit (.int .i64 0), .lit (.string ⟨#[]⟩), .lit (.bool false)]⟩),
  (222,⟨1,4, .int .u32,[.lit (.int .u32 0)]⟩),
  (226,⟨1,8, .other,[.lit (.pointer none)]⟩)]
abbrev T:=ap_ tbl
theorem Gj_:az_ Tryz.prog cod T 2 ⟨1,8, .int .i64,[.lit (.int .i64 0)]⟩:=⟨_,_,_,Tryz.type2,rfl,rfl,rfl,by kernel_rfl,by kernel_rfl,Tryz.underlying2,by kernel_rfl,rfl⟩
theorem Go_:az_ Tryz.prog cod T 3 ⟨1,8, .int .i64,[.lit (.int .i64 0)]⟩:=⟨_,_,_,Tryz.type3,rfl,rfl,rfl,by kernel_rfl,by kernel_rfl,Tryz.underlying3,by kernel_rfl,rfl⟩
theorem Gn_:az_ Tryz.prog cod T 4 ⟨1,1, .bool,[.lit (.bool false)]⟩:=⟨_,_,_,Tryz.type4,rfl,rfl,rfl,by kernel_rfl,by kernel_rfl,Tryz.underlying4,by kernel_rfl,rfl⟩
theorem F7_:az_ Tryz.prog cod T 5 ⟨1,1, .int .u8,[.lit (.int .u8 0)]⟩:=⟨_,_,_,Tryz.type5,rfl,rfl,rfl,by kernel_rfl,by kernel_rfl,Tryz.underlying5,by kernel_rfl,rfl⟩
theorem Gk_:az_ Tryz.prog cod T 9 ⟨1,16, .str,[.lit (.string ⟨#[]⟩)]⟩:=⟨_,_,_,Tryz.type9,rfl,rfl,rfl,by kernel_rfl,by kernel_rfl,Tryz.underlying9,by kernel_rfl,rfl⟩
theorem EZ_:az_ Tryz.prog cod T 12 ⟨1,8, .int .u64,[.lit (.int .u64 0)]⟩:=⟨_,_,_,Tryz.type12,rfl,rfl,rfl,by kernel_rfl,by kernel_rfl,Tryz.underlying12,by kernel_rfl,rfl⟩
theorem Fa_:az_ Tryz.prog cod T 21 ⟨1,4, .int .i32,[.lit (.int .i32 0)]⟩:=⟨_,_,_,Tryz.type21,rfl,rfl,rfl,by kernel_rfl,by kernel_rfl,Tryz.underlying21,by kernel_rfl,rfl⟩
theorem FU_:az_ Tryz.prog cod T 22 ⟨1,24, .slice 5 .byte,[.nil .byte]⟩:=⟨_,_,_,Tryz.type22,rfl,rfl,rfl,by kernel_rfl,by kernel_rfl,Tryz.underlying22,by kernel_rfl,⟨⟨rfl,_,Tryz.type5,by kernel_rfl,by kernel_rfl⟩,_,_,Tryz.type5,rfl,by kernel_rfl,by kernel_rfl,by decide⟩⟩
theorem E8_:az_ Tryz.prog cod T 25 ⟨1,24, .slice 65 .end,[.nil .end]⟩:=⟨_,_,_,Tryz.type25,rfl,rfl,rfl,by kernel_rfl,by kernel_rfl,Tryz.underlying25,by kernel_rfl,⟨⟨rfl,_,Tryz.type65,by kernel_rfl,by kernel_rfl⟩,_,_,Tryz.type65,rfl,by kernel_rfl,by kernel_rfl,by decide⟩⟩
theorem Fj_:az_ Tryz.prog cod T 26 ⟨1,24, .slice 73 .parcel,[.nil .parcel]⟩:=⟨_,_,_,Tryz.type26,rfl,rfl,rfl,by kernel_rfl,by kernel_rfl,Tryz.underlying26,by kernel_rfl,⟨⟨rfl,_,Tryz.type73,by kernel_rfl,by kernel_rfl⟩,_,_,Tryz.type73,rfl,by kernel_rfl,by kernel_rfl,by decide⟩⟩
theorem FP_:az_ Tryz.prog cod T 27 ⟨1,24, .slice 87 .record,[.nil .record]⟩:=⟨_,_,_,Tryz.type27,rfl,rfl,rfl,by kernel_rfl,by kernel_rfl,Tryz.underlying27,by kernel_rfl,⟨⟨rfl,_,Tryz.type87,by kernel_rfl,by kernel_rfl⟩,_,_,Tryz.type87,rfl,by kernel_rfl,by kernel_rfl,by decide⟩⟩
theorem Fr_:az_ Tryz.prog cod T 29 ⟨7,136, .struct [(0,9),(1,3),(2,25),(3,26),(4,9),(5,27),(6,27)],[.lit (.string ⟨#[]⟩), .lit (.int .i64 0), .nil .end, .nil .parcel, .lit (.string ⟨#[]⟩), .nil .record, .nil .record]⟩:=⟨_,_,_,Tryz.type29,rfl,rfl,rfl,by kernel_rfl,by kernel_rfl,Tryz.underlying29,by kernel_rfl,⟨_,rfl,by kernel_rfl,by kernel_rfl,by kernel_rfl,by kernel_rfl,by kernel_rfl⟩⟩
theorem EW_:az_ Tryz.prog cod T 31 ⟨1,24, .slice 35 .event,[.nil .event]⟩:=⟨_,_,_,Tryz.type31,rfl,rfl,rfl,by kernel_rfl,by kernel_rfl,Tryz.underlying31,by kernel_rfl,⟨⟨rfl,_,Tryz.type35,by kernel_rfl,by kernel_rfl⟩,_,_,Tryz.type35,rfl,by kernel_rfl,by kernel_rfl,by decide⟩⟩
theorem FO_:az_ Tryz.prog cod T 35 ⟨5,48, .struct [(0,3),(1,3),(2,3),(3,3),(4,9)],[.lit (.int .i64 0), .lit (.int .i64 0), .lit (.int .i64 0), .lit (.int .i64 0), .lit (.string ⟨#[]⟩)]⟩:=⟨_,_,_,Tryz.type35,rfl,rfl,rfl,by kernel_rfl,by kernel_rfl,Tryz.underlying35,by kernel_rfl,⟨_,rfl,by kernel_rfl,by kernel_rfl,by kernel_rfl,by kernel_rfl,by kernel_rfl⟩⟩
theorem FC_:az_ Tryz.prog cod T 41 ⟨1,24, .slice 144 .end,[.nil .end]⟩:=⟨_,_,_,Tryz.type41,rfl,rfl,rfl,by kernel_rfl,by kernel_rfl,Tryz.underlying41,by kernel_rfl,⟨⟨rfl,_,Tryz.type144,by kernel_rfl,by kernel_rfl⟩,_,_,Tryz.type144,rfl,by kernel_rfl,by kernel_rfl,by decide⟩⟩
theorem E1_:az_ Tryz.prog cod T 42 ⟨1,24, .slice 146 .parcel,[.nil .parcel]⟩:=⟨_,_,_,Tryz.type42,rfl,rfl,rfl,by kernel_rfl,by kernel_rfl,Tryz.underlying42,by kernel_rfl,⟨⟨rfl,_,Tryz.type146,by kernel_rfl,by kernel_rfl⟩,_,_,Tryz.type146,rfl,by kernel_rfl,by kernel_rfl,by decide⟩⟩
theorem FK_:az_ Tryz.prog cod T 43 ⟨1,24, .slice 148 .record,[.nil .record]⟩:=⟨_,_,_,Tryz.type43,rfl,rfl,rfl,by kernel_rfl,by kernel_rfl,Tryz.underlying43,by kernel_rfl,⟨⟨rfl,_,Tryz.type148,by kernel_rfl,by kernel_rfl⟩,_,_,Tryz.type148,rfl,by kernel_rfl,by kernel_rfl,by decide⟩⟩
theorem E2_:az_ Tryz.prog cod T 45 ⟨7,136, .struct [(0,9),(1,3),(2,41),(3,42),(4,9),(5,43),(6,43)],[.lit (.string ⟨#[]⟩), .lit (.int .i64 0), .nil .end, .nil .parcel, .lit (.string ⟨#[]⟩), .nil .record, .nil .record]⟩:=⟨_,_,_,Tryz.type45,rfl,rfl,rfl,by kernel_rfl,by kernel_rfl,Tryz.underlying45,by kernel_rfl,⟨_,rfl,by kernel_rfl,by kernel_rfl,by kernel_rfl,by kernel_rfl,by kernel_rfl⟩⟩
theorem E3_:az_ Tryz.prog cod T 51 ⟨5,48, .struct [(0,3),(1,3),(2,3),(3,3),(4,9)],[.lit (.int .i64 0), .lit (.int .i64 0), .lit (.int .i64 0), .lit (.int .i64 0), .lit (.string ⟨#[]⟩)]⟩:=⟨_,_,_,Tryz.type51,rfl,rfl,rfl,by kernel_rfl,by kernel_rfl,Tryz.underlying51,by kernel_rfl,⟨_,rfl,by kernel_rfl,by kernel_rfl,by kernel_rfl,by kernel_rfl,by kernel_rfl⟩⟩
theorem E5_:az_ Tryz.prog cod T 57 ⟨1,24, .slice 171 .item,[.nil .item]⟩:=⟨_,_,_,Tryz.type57,rfl,rfl,rfl,by kernel_rfl,by kernel_rfl,Tryz.underlying57,by kernel_rfl,⟨⟨rfl,_,Tryz.type171,by kernel_rfl,by kernel_rfl⟩,_,_,Tryz.type171,rfl,by kernel_rfl,by kernel_rfl,by decide⟩⟩
theorem FV_:az_ Tryz.prog cod T 59 ⟨2,32, .struct [(0,3),(1,57)],[.lit (.int .i64 0), .nil .item]⟩:=⟨_,_,_,Tryz.type59,rfl,rfl,rfl,by kernel_rfl,by kernel_rfl,Tryz.underlying59,by kernel_rfl,⟨_,rfl,by kernel_rfl,by kernel_rfl,by kernel_rfl,by kernel_rfl,by kernel_rfl⟩⟩
theorem FJ_:az_ Tryz.prog cod T 60 ⟨1,24, .slice 182 .held,[.nil .held]⟩:=⟨_,_,_,Tryz.type60,rfl,rfl,rfl,by kernel_rfl,by kernel_rfl,Tryz.underlying60,by kernel_rfl,⟨⟨rfl,_,Tryz.type182,by kernel_rfl,by kernel_rfl⟩,_,_,Tryz.type182,rfl,by kernel_rfl,by kernel_rfl,by decide⟩⟩
theorem FI_:az_ Tryz.prog cod T 61 ⟨1,24, .slice 9 .str,[.nil .str]⟩:=⟨_,_,_,Tryz.type61,rfl,rfl,rfl,by kernel_rfl,by kernel_rfl,Tryz.underlying61,by kernel_rfl,⟨⟨rfl,_,Tryz.type9,by kernel_rfl,by kernel_rfl⟩,_,_,Tryz.type9,rfl,by kernel_rfl,by kernel_rfl,by decide⟩⟩
theorem FG_:az_ Tryz.prog cod T 63 ⟨4,72, .struct [(0,3),(1,60),(2,9),(3,61)],[.lit (.int .i64 0), .nil .held, .lit (.string ⟨#[]⟩), .nil .str]⟩:=⟨_,_,_,Tryz.type63,rfl,rfl,rfl,by kernel_rfl,by kernel_rfl,Tryz.underlying63,by kernel_rfl,⟨_,rfl,by kernel_rfl,by kernel_rfl,by kernel_rfl,by kernel_rfl,by kernel_rfl⟩⟩
theorem Fo_:az_ Tryz.prog cod T 65 ⟨12,152, .struct [(0,3),(1,4),(2,3),(3,3),(4,3),(5,4),(6,59),(8,63)],[.lit (.int .i64 0), .lit (.bool false), .lit (.int .i64 0), .lit (.int .i64 0), .lit (.int .i64 0), .lit (.bool false), .lit (.int .i64 0), .nil .item, .lit (.int .i64 0), .nil .held, .lit (.string ⟨#[]⟩), .nil .str]⟩:=⟨_,_,_,Tryz.type65,rfl,rfl,rfl,by kernel_rfl,by kernel_rfl,Tryz.underlying65,by kernel_rfl,⟨_,rfl,by kernel_rfl,by kernel_rfl,by kernel_rfl,by kernel_rfl,by kernel_rfl⟩⟩
theorem FF_:az_ Tryz.prog cod T 68 ⟨1,8, .other,[.lit (.pointer none)]⟩:=⟨_,_,_,Tryz.type68,rfl,rfl,rfl,by kernel_rfl,by kernel_rfl,Tryz.underlying68,by kernel_rfl,trivial⟩
theorem E0_:az_ Tryz.prog cod T 73 ⟨3,40, .struct [(0,3),(1,9),(2,9)],[.lit (.int .i64 0), .lit (.string ⟨#[]⟩), .lit (.string ⟨#[]⟩)]⟩:=⟨_,_,_,Tryz.type73,rfl,rfl,rfl,by kernel_rfl,by kernel_rfl,Tryz.underlying73,by kernel_rfl,⟨_,rfl,by kernel_rfl,by kernel_rfl,by kernel_rfl,by kernel_rfl,by kernel_rfl⟩⟩
theorem Fw_:az_ Tryz.prog cod T 75 ⟨9,80, .struct [(0,3),(1,3),(2,3),(3,3),(4,3),(5,3),(6,3),(7,4),(8,9)],[.lit (.int .i64 0), .lit (.int .i64 0), .lit (.int .i64 0), .lit (.int .i64 0), .lit (.int .i64 0), .lit (.int .i64 0), .lit (.int .i64 0), .lit (.bool false), .lit (.string ⟨#[]⟩)]⟩:=⟨_,_,_,Tryz.type75,rfl,rfl,rfl,by kernel_rfl,by kernel_rfl,Tryz.underlying75,by kernel_rfl,⟨_,rfl,by kernel_rfl,by kernel_rfl,by kernel_rfl,by kernel_rfl,by kernel_rfl⟩⟩
theorem FX_:az_ Tryz.prog cod T 82 ⟨1,24, .slice 75 .packet,[.nil .packet]⟩:=⟨_,_,_,Tryz.type82,rfl,rfl,rfl,by kernel_rfl,by kernel_rfl,Tryz.underlying82,by kernel_rfl,⟨⟨rfl,_,Tryz.type75,by kernel_rfl,by kernel_rfl⟩,_,_,Tryz.type75,rfl,by kernel_rfl,by kernel_rfl,by decide⟩⟩
theorem FR_:az_ Tryz.prog cod T 84 ⟨15,200, .struct [(0,3),(1,65),(13,82),(14,9)],[.lit (.int .i64 0), .lit (.int .i64 0), .lit (.bool false), .lit (.int .i64 0), .lit (.int .i64 0), .lit (.int .i64 0), .lit (.bool false), .lit (.int .i64 0), .nil .item, .lit (.int .i64 0), .nil .held, .lit (.string ⟨#[]⟩), .nil .str, .nil .packet, .lit (.string ⟨#[]⟩)]⟩:=⟨_,_,_,Tryz.type84,rfl,rfl,rfl,by kernel_rfl,by kernel_rfl,Tryz.underlying84,by kernel_rfl,⟨_,rfl,by kernel_rfl,by kernel_rfl,by kernel_rfl,by kernel_rfl,by kernel_rfl⟩⟩
theorem Fz_:az_ Tryz.prog cod T 87 ⟨4,40, .struct [(0,3),(1,3),(2,3),(3,9)],[.lit (.int .i64 0), .lit (.int .i64 0), .lit (.int .i64 0), .lit (.string ⟨#[]⟩)]⟩:=⟨_,_,_,Tryz.type87,rfl,rfl,rfl,by kernel_rfl,by kernel_rfl,Tryz.underlying87,by kernel_rfl,⟨_,rfl,by kernel_rfl,by kernel_rfl,by kernel_rfl,by kernel_rfl,by kernel_rfl⟩⟩
theorem Fe_:az_ Tryz.prog cod T 93 ⟨1,8, .map 95 61 .pair .lstr,[.lit (.map none)]⟩:=⟨_,_,_,Tryz.type93,rfl,rfl,rfl,by kernel_rfl,by kernel_rfl,Tryz.underlying93,by kernel_rfl,⟨rfl,fun _ _=>by kernel_rfl,⟨_,_,rfl,rfl,by kernel_rfl⟩,fun _=>rfl,_,_,Tryz.type61,rfl,by kernel_rfl⟩⟩
theorem Ft_:az_ Tryz.prog cod T 95 ⟨3,24, .struct [(0,3),(1,3),(2,3)],[.lit (.int .i64 0), .lit (.int .i64 0), .lit (.int .i64 0)]⟩:=⟨_,_,_,Tryz.type95,rfl,rfl,rfl,by kernel_rfl,by kernel_rfl,Tryz.underlying95,by kernel_rfl,⟨_,rfl,by kernel_rfl,by kernel_rfl,by kernel_rfl,by kernel_rfl,by kernel_rfl⟩⟩
theorem Fm_:az_ Tryz.prog cod T 96 ⟨1,8, .map 95 3 .pair .int,[.lit (.map none)]⟩:=⟨_,_,_,Tryz.type96,rfl,rfl,rfl,by kernel_rfl,by kernel_rfl,Tryz.underlying96,by kernel_rfl,⟨rfl,fun _ _=>by kernel_rfl,⟨_,_,rfl,rfl,by kernel_rfl⟩,fun _=>rfl,_,_,Tryz.type3,rfl,by kernel_rfl⟩⟩
theorem Dm_:az_ Tryz.prog cod T 102 ⟨1,24, .slice 150 .l7count,[.nil .l7count]⟩:=⟨_,_,_,Tryz.type102,rfl,rfl,rfl,by kernel_rfl,by kernel_rfl,Tryz.underlying102,by kernel_rfl,⟨⟨rfl,_,Tryz.type150,by kernel_rfl,by kernel_rfl⟩,_,_,Tryz.type150,rfl,by kernel_rfl,by kernel_rfl,by decide⟩⟩
theorem Ep_:az_ Tryz.prog cod T 110 ⟨1,8, .map 112 3 .key .int,[.lit (.map none)]⟩:=⟨_,_,_,Tryz.type110,rfl,rfl,rfl,by kernel_rfl,by kernel_rfl,Tryz.underlying110,by kernel_rfl,⟨rfl,fun _ _=>by kernel_rfl,⟨_,_,rfl,rfl,by kernel_rfl⟩,fun _=>rfl,_,_,Tryz.type3,rfl,by kernel_rfl⟩⟩
theorem EB_:az_ Tryz.prog cod T 112 ⟨2,24, .struct [(0,3),(1,9)],[.lit (.int .i64 0), .lit (.string ⟨#[]⟩)]⟩:=⟨_,_,_,Tryz.type112,rfl,rfl,rfl,by kernel_rfl,by kernel_rfl,Tryz.underlying112,by kernel_rfl,⟨_,rfl,by kernel_rfl,by kernel_rfl,by kernel_rfl,by kernel_rfl,by kernel_rfl⟩⟩
theorem D8_:az_ Tryz.prog cod T 120 ⟨1,24, .slice 3 .int,[.nil .int]⟩:=⟨_,_,_,Tryz.type120,rfl,rfl,rfl,by kernel_rfl,by kernel_rfl,Tryz.underlying120,by kernel_rfl,⟨⟨rfl,_,Tryz.type3,by kernel_rfl,by kernel_rfl⟩,_,_,Tryz.type3,rfl,by kernel_rfl,by kernel_rfl,by decide⟩⟩
theorem Dt_:az_ Tryz.prog cod T 123 ⟨2,32, .struct [(0,22),(1,3)],[.nil .byte, .lit (.int .i64 0)]⟩:=⟨_,_,_,Tryz.type123,rfl,rfl,rfl,by kernel_rfl,by kernel_rfl,Tryz.underlying123,by kernel_rfl,⟨_,rfl,by kernel_rfl,by kernel_rfl,by kernel_rfl,by kernel_rfl,by kernel_rfl⟩⟩
theorem Ec_:az_ Tryz.prog cod T 126 ⟨1,24, .slice 27 .lrecord,[.nil .lrecord]⟩:=⟨_,_,_,Tryz.type126,rfl,rfl,rfl,by kernel_rfl,by kernel_rfl,Tryz.underlying126,by kernel_rfl,⟨⟨rfl,_,Tryz.type27,by kernel_rfl,by kernel_rfl⟩,_,_,Tryz.type27,rfl,by kernel_rfl,by kernel_rfl,by decide⟩⟩
theorem Du_:az_ Tryz.prog cod T 127 ⟨1,8, .other,[.lit (.pointer none)]⟩:=⟨_,_,_,Tryz.type127,rfl,rfl,rfl,by kernel_rfl,by kernel_rfl,Tryz.underlying127,by kernel_rfl,trivial⟩
theorem DK_:az_ Tryz.prog cod T 137 ⟨1,24, .slice 204 .item,[.nil .item]⟩:=⟨_,_,_,Tryz.type137,rfl,rfl,rfl,by kernel_rfl,by kernel_rfl,Tryz.underlying137,by kernel_rfl,⟨⟨rfl,_,Tryz.type204,by kernel_rfl,by kernel_rfl⟩,_,_,Tryz.type204,rfl,by kernel_rfl,by kernel_rfl,by decide⟩⟩
theorem DH_:az_ Tryz.prog cod T 139 ⟨2,32, .struct [(0,3),(1,137)],[.lit (.int .i64 0), .nil .item]⟩:=⟨_,_,_,Tryz.type139,rfl,rfl,rfl,by kernel_rfl,by kernel_rfl,Tryz.underlying139,by kernel_rfl,⟨_,rfl,by kernel_rfl,by kernel_rfl,by kernel_rfl,by kernel_rfl,by kernel_rfl⟩⟩
theorem EL_:az_ Tryz.prog cod T 140 ⟨1,24, .slice 207 .held,[.nil .held]⟩:=⟨_,_,_,Tryz.type140,rfl,rfl,rfl,by kernel_rfl,by kernel_rfl,Tryz.underlying140,by kernel_rfl,⟨⟨rfl,_,Tryz.type207,by kernel_rfl,by kernel_rfl⟩,_,_,Tryz.type207,rfl,by kernel_rfl,by kernel_rfl,by decide⟩⟩
theorem Eb_:az_ Tryz.prog cod T 142 ⟨4,72, .struct [(0,3),(1,140),(2,9),(3,61)],[.lit (.int .i64 0), .nil .held, .lit (.string ⟨#[]⟩), .nil .str]⟩:=⟨_,_,_,Tryz.type142,rfl,rfl,rfl,by kernel_rfl,by kernel_rfl,Tryz.underlying142,by kernel_rfl,⟨_,rfl,by kernel_rfl,by kernel_rfl,by kernel_rfl,by kernel_rfl,by kernel_rfl⟩⟩
theorem DD_:az_ Tryz.prog cod T 144 ⟨12,152, .struct [(0,3),(1,4),(2,3),(3,3),(4,3),(5,4),(6,139),(8,142)],[.lit (.int .i64 0), .lit (.bool false), .lit (.int .i64 0), .lit (.int .i64 0), .lit (.int .i64 0), .lit (.bool false), .lit (.int .i64 0), .nil .item, .lit (.int .i64 0), .nil .held, .lit (.string ⟨#[]⟩), .nil .str]⟩:=⟨_,_,_,Tryz.type144,rfl,rfl,rfl,by kernel_rfl,by kernel_rfl,Tryz.underlying144,by kernel_rfl,⟨_,rfl,by kernel_rfl,by kernel_rfl,by kernel_rfl,by kernel_rfl,by kernel_rfl⟩⟩
theorem Ef_:az_ Tryz.prog cod T 146 ⟨3,40, .struct [(0,3),(1,9),(2,9)],[.lit (.int .i64 0), .lit (.string ⟨#[]⟩), .lit (.string ⟨#[]⟩)]⟩:=⟨_,_,_,Tryz.type146,rfl,rfl,rfl,by kernel_rfl,by kernel_rfl,Tryz.underlying146,by kernel_rfl,⟨_,rfl,by kernel_rfl,by kernel_rfl,by kernel_rfl,by kernel_rfl,by kernel_rfl⟩⟩
theorem Dn_:az_ Tryz.prog cod T 148 ⟨4,40, .struct [(0,3),(1,3),(2,3),(3,9)],[.lit (.int .i64 0), .lit (.int .i64 0), .lit (.int .i64 0), .lit (.string ⟨#[]⟩)]⟩:=⟨_,_,_,Tryz.type148,rfl,rfl,rfl,by kernel_rfl,by kernel_rfl,Tryz.underlying148,by kernel_rfl,⟨_,rfl,by kernel_rfl,by kernel_rfl,by kernel_rfl,by kernel_rfl,by kernel_rfl⟩⟩
theorem DC_:az_ Tryz.prog cod T 150 ⟨3,32, .struct [(0,3),(1,9),(2,3)],[.lit (.int .i64 0), .lit (.string ⟨#[]⟩), .lit (.int .i64 0)]⟩:=⟨_,_,_,Tryz.type150,rfl,rfl,rfl,by kernel_rfl,by kernel_rfl,Tryz.underlying150,by kernel_rfl,⟨_,rfl,by kernel_rfl,by kernel_rfl,by kernel_rfl,by kernel_rfl,by kernel_rfl⟩⟩
theorem Ds_:az_ Tryz.prog cod T 165 ⟨1,8, .other,[.lit (.pointer none)]⟩:=⟨_,_,_,Tryz.type165,rfl,rfl,rfl,by kernel_rfl,by kernel_rfl,Tryz.underlying165,by kernel_rfl,trivial⟩
theorem Ed_:az_ Tryz.prog cod T 169 ⟨2,24, .struct [(0,9),(1,4)],[.lit (.string ⟨#[]⟩), .lit (.bool false)]⟩:=⟨_,_,_,Tryz.type169,rfl,rfl,rfl,by kernel_rfl,by kernel_rfl,Tryz.underlying169,by kernel_rfl,⟨_,rfl,by kernel_rfl,by kernel_rfl,by kernel_rfl,by kernel_rfl,by kernel_rfl⟩⟩
theorem EP_:az_ Tryz.prog cod T 171 ⟨4,40, .struct [(0,169),(2,4),(3,3)],[.lit (.string ⟨#[]⟩), .lit (.bool false), .lit (.bool false), .lit (.int .i64 0)]⟩:=⟨_,_,_,Tryz.type171,rfl,rfl,rfl,by kernel_rfl,by kernel_rfl,Tryz.underlying171,by kernel_rfl,⟨_,rfl,by kernel_rfl,by kernel_rfl,by kernel_rfl,by kernel_rfl,by kernel_rfl⟩⟩
theorem DR_:az_ Tryz.prog cod T 177 ⟨1,24, .slice 169 .part,[.nil .part]⟩:=⟨_,_,_,Tryz.type177,rfl,rfl,rfl,by kernel_rfl,by kernel_rfl,Tryz.underlying177,by kernel_rfl,⟨⟨rfl,_,Tryz.type169,by kernel_rfl,by kernel_rfl⟩,_,_,Tryz.type169,rfl,by kernel_rfl,by kernel_rfl,by decide⟩⟩
theorem Df_:az_ Tryz.prog cod T 182 ⟨3,32, .struct [(0,3),(1,169)],[.lit (.int .i64 0), .lit (.string ⟨#[]⟩), .lit (.bool false)]⟩:=⟨_,_,_,Tryz.type182,rfl,rfl,rfl,by kernel_rfl,by kernel_rfl,Tryz.underlying182,by kernel_rfl,⟨_,rfl,by kernel_rfl,by kernel_rfl,by kernel_rfl,by kernel_rfl,by kernel_rfl⟩⟩
theorem Dr_:az_ Tryz.prog cod T 189 ⟨1,8, .int .u64,[.lit (.int .u64 0)]⟩:=⟨_,_,_,Tryz.type189,rfl,rfl,rfl,by kernel_rfl,by kernel_rfl,Tryz.underlying189,by kernel_rfl,rfl⟩
theorem Ez_:az_ Tryz.prog cod T 190 ⟨1,8, .other,[.lit (.pointer none)]⟩:=⟨_,_,_,Tryz.type190,rfl,rfl,rfl,by kernel_rfl,by kernel_rfl,Tryz.underlying190,by kernel_rfl,trivial⟩
theorem D6_:az_ Tryz.prog cod T 191 ⟨1,8, .int .u64,[.lit (.int .u64 0)]⟩:=⟨_,_,_,Tryz.type191,rfl,rfl,rfl,by kernel_rfl,by kernel_rfl,Tryz.underlying191,by kernel_rfl,rfl⟩
theorem EF_:az_ Tryz.prog cod T 192 ⟨8,8, .arr 8 5 .byte,[.lit (.int .u8 0), .lit (.int .u8 0), .lit (.int .u8 0), .lit (.int .u8 0), .lit (.int .u8 0), .lit (.int .u8 0), .lit (.int .u8 0), .lit (.int .u8 0)]⟩:=⟨_,_,_,Tryz.type192,rfl,rfl,rfl,by kernel_rfl,by kernel_rfl,Tryz.underlying192,by kernel_rfl,⟨rfl,⟨_,Tryz.type5,by kernel_rfl,by kernel_rfl⟩,_,rfl,by kernel_rfl,by kernel_rfl⟩⟩
theorem D2_:az_ Tryz.prog cod T 202 ⟨2,24, .struct [(0,9),(1,4)],[.lit (.string ⟨#[]⟩), .lit (.bool false)]⟩:=⟨_,_,_,Tryz.type202,rfl,rfl,rfl,by kernel_rfl,by kernel_rfl,Tryz.underlying202,by kernel_rfl,⟨_,rfl,by kernel_rfl,by kernel_rfl,by kernel_rfl,by kernel_rfl,by kernel_rfl⟩⟩
theorem DL_:az_ Tryz.prog cod T 204 ⟨4,40, .struct [(0,202),(2,4),(3,3)],[.lit (.string ⟨#[]⟩), .lit (.bool false), .lit (.bool false), .lit (.int .i64 0)]⟩:=⟨_,_,_,Tryz.type204,rfl,rfl,rfl,by kernel_rfl,by kernel_rfl,Tryz.underlying204,by kernel_rfl,⟨_,rfl,by kernel_rfl,by kernel_rfl,by kernel_rfl,by kernel_rfl,by kernel_rfl⟩⟩
theorem EO_:az_ Tryz.prog cod T 207 ⟨3,32, .struct [(0,3),(1,202)],[.lit (.int .i64 0), .lit (.string ⟨#[]⟩), .lit (.bool false)]⟩:=⟨_,_,_,Tryz.type207,rfl,rfl,rfl,by kernel_rfl,by kernel_rfl,Tryz.underlying207,by kernel_rfl,⟨_,rfl,by kernel_rfl,by kernel_rfl,by kernel_rfl,by kernel_rfl,by kernel_rfl⟩⟩
theorem DU_:az_ Tryz.prog cod T 222 ⟨1,4, .int .u32,[.lit (.int .u32 0)]⟩:=⟨_,_,_,Tryz.type222,rfl,rfl,rfl,by kernel_rfl,by kernel_rfl,Tryz.underlying222,by kernel_rfl,rfl⟩
theorem D5_:az_ Tryz.prog cod T 226 ⟨1,8, .other,[.lit (.pointer none)]⟩:=⟨_,_,_,Tryz.type226,rfl,rfl,rfl,by kernel_rfl,by kernel_rfl,Tryz.underlying226,by kernel_rfl,trivial⟩
theorem rows:∀e∈tbl,az_ Tryz.prog cod T e.1 e.2:=
  all_cons Gj_ (all_cons Go_ (all_cons Gn_ (all_cons F7_ (all_cons Gk_ (all_cons EZ_ (all_cons Fa_ (all_cons FU_ (all_cons E8_ (all_cons Fj_ (all_cons FP_ (all_cons Fr_ (all_cons EW_ (all_cons FO_ (all_cons FC_ (all_cons E1_ (all_cons FK_ (all_cons E2_ (all_cons E3_ (all_cons E5_ (all_cons FV_ (all_cons FJ_ (all_cons FI_ (all_cons FG_ (all_cons Fo_ (all_cons FF_ (all_cons E0_ (all_cons Fw_ (all_cons FX_ (all_cons FR_ (all_cons Fz_ (all_cons Fe_ (all_cons Ft_ (all_cons Fm_ (all_cons Dm_ (all_cons Ep_ (all_cons EB_ (all_cons D8_ (all_cons Dt_ (all_cons Ec_ (all_cons Du_ (all_cons DK_ (all_cons DH_ (all_cons EL_ (all_cons Eb_ (all_cons DD_ (all_cons Ef_ (all_cons Dn_ (all_cons DC_ (all_cons Ds_ (all_cons Ed_ (all_cons EP_ (all_cons DR_ (all_cons Df_ (all_cons Dr_ (all_cons Ez_ (all_cons D6_ (all_cons EF_ (all_cons D2_ (all_cons DL_ (all_cons EO_ (all_cons DU_ (all_cons D5_ (aa_)))))))))))))))))))))))))))))))))))))))))))))))))))))))))))))))
theorem tok:TOk Tryz.prog cod T:=TOk.of rows
theorem eok:EOk Tryz.prog cod T:=EOk.of rows
theorem av_:Tryz.prog.follows .mixedOrders=true:=by kernel_rfl
def F1_:List (Nat×TI K TyK):=[
  (2,⟨1,8, .int .i64,[.lit (.int .i64 0)]⟩),
  (3,⟨1,8, .int .i64,[.lit (.int .i64 0)]⟩),
  (4,⟨1,1, .bool,[.lit (.bool false)]⟩),
  (5,⟨1,1, .int .u8,[.lit (.int .u8 0)]⟩),
  (9,⟨1,16, .str,[.lit (.string ⟨#[]⟩)]⟩),
  (12,⟨1,8, .int .u64,[.lit (.int .u64 0)]⟩),
  (21,⟨1,4, .int .i32,[.lit (.int .i32 0)]⟩),
  (22,⟨1,24, .slice 5 .byte,[.nil .byte]⟩),
  (25,⟨1,24, .slice 65 .xend,[.nil .xend]⟩),
  (26,⟨1,24, .slice 73 .parcel,[.nil .parcel]⟩),
  (27,⟨1,24, .slice 87 .record,[.nil .record]⟩),
  (29,⟨7,136, .struct [(0,9),(1,3),(2,25),(3,26),(4,9),(5,27),(6,27)],[.lit (.string ⟨#[]⟩), .lit (.int .i64 0), .nil .xend, .nil .parcel, .lit (.string ⟨#[]⟩), .nil .record, .nil .record]⟩),
  (31,⟨1,24, .slice 35 .event,[.nil .event]⟩),
  (35,⟨5,48, .struct [(0,3),(1,3),(2,3),(3,3),(4,9)],[.lit (.int .i64 0), .lit (.int .i64 0), .lit (.int .i64 0), .lit (.int .i64 0), .lit (.string ⟨#[]⟩)]⟩),
  (41,⟨1,24, .slice 144 .end,[.nil .end]⟩),
  (42,⟨1,24, .slice 146 .parcel,[.nil .parcel]⟩),
  (43,⟨1,24, .slice 148 .record,[.nil .record]⟩),
  (45,⟨7,136, .struct [(0,9),(1,3),(2,41),(3,42),(4,9),(5,43),(6,43)],[.lit (.string ⟨#[]⟩), .lit (.int .i64 0), .nil .end, .nil .parcel, .lit (.string ⟨#[]⟩), .nil .record, .nil .record]⟩),
  (51,⟨5,48, .struct [(0,3),(1,3),(2,3),(3,3),(4,9)],[.lit (.int .i64 0), .lit (.int .i64 0), .lit (.int .i64 0), .lit (.int .i64 0), .lit (.string ⟨#[]⟩)]⟩),
  (57,⟨1,24, .slice 171 .item,[.nil .item]⟩),
  (59,⟨2,32, .struct [(0,3),(1,57)],[.lit (.int .i64 0), .nil .item]⟩),
  (60,⟨1,24, .slice 182 .held,[.nil .held]⟩),
  (61,⟨1,24, .slice 9 .str,[.nil .str]⟩),
  (63,⟨4,72, .struct [(0,3),(1,60),(2,9),(3,61)],[.lit (.int .i64 0), .nil .held, .lit (.string ⟨#[]⟩), .nil .str]⟩),
  (65,⟨12,152, .struct [(0,3),(1,4),(2,3),(3,3),(4,3),(5,4),(6,59),(8,63)],[.lit (.int .i64 0), .lit (.bool false), .lit (.int .i64 0), .lit (.int .i64 0), .lit (.int .i64 0), .lit (.bool false), .lit (.int .i64 0), .nil .item, .lit (.int .i64 0), .nil .held, .lit (.string ⟨#[]⟩), .nil .str]⟩),
  (68,⟨1,8, .other,[.lit (.pointer none)]⟩),
  (73,⟨3,40, .struct [(0,3),(1,9),(2,9)],[.lit (.int .i64 0), .lit (.string ⟨#[]⟩), .lit (.string ⟨#[]⟩)]⟩),
  (75,⟨9,80, .struct [(0,3),(1,3),(2,3),(3,3),(4,3),(5,3),(6,3),(7,4),(8,9)],[.lit (.int .i64 0), .lit (.int .i64 0), .lit (.int .i64 0), .lit (.int .i64 0), .lit (.int .i64 0), .lit (.int .i64 0), .lit (.int .i64 0), .lit (.bool false), .lit (.string ⟨#[]⟩)]⟩),
  (82,⟨1,24, .slice 75 .packet,[.nil .packet]⟩),
  (84,⟨15,200, .struct [(0,3),(1,65),(13,82),(14,9)],[.lit (.int .i64 0), .lit (.int .i64 0), .lit (.bool false), .lit (.int .i64 0), .lit (.int .i64 0), .lit (.int .i64 0), .lit (.bool false), .lit (.int .i64 0), .nil .item, .lit (.int .i64 0), .nil .held, .lit (.string ⟨#[]⟩), .nil .str, .nil .packet, .lit (.string ⟨#[]⟩)]⟩),
  (87,⟨4,40, .struct [(0,3),(1,3),(2,3),(3,9)],[.lit (.int .i64 0), .lit (.int .i64 0), .lit (.int .i64 0), .lit (.string ⟨#[]⟩)]⟩),
  (93,⟨1,8, .map 95 61 .pair .lstr,[.lit (.map none)]⟩),
  (95,⟨3,24, .struct [(0,3),(1,3),(2,3)],[.lit (.int .i64 0), .lit (.int .i64 0), .lit (.int .i64 0)]⟩),
  (96,⟨1,8, .map 95 3 .pair .int,[.lit (.map none)]⟩),
  (102,⟨1,24, .slice 150 .l7count,[.nil .l7count]⟩),
  (110,⟨1,8, .map 112 3 .key .int,[.lit (.map none)]⟩),
  (112,⟨2,24, .struct [(0,3),(1,9)],[.lit (.int .i64 0), .lit (.string ⟨#[]⟩)]⟩),
  (120,⟨1,24, .slice 3 .int,[.nil .int]⟩),
  (123,⟨2,32, .struct [(0,22),(1,3)],[.nil .byte, .lit (.int .i64 0)]⟩),
  (126,⟨1,24, .slice 27 .lrecord,[.nil .lrecord]⟩),
  (127,⟨1,8, .other,[.lit (.pointer none)]⟩),
  (137,⟨1,24, .slice 204 .item,[.nil .item]⟩),
  (139,⟨2,32, .struct [(0,3),(1,137)],[.lit (.int .i64 0), .nil .item]⟩),
  (140,⟨1,24, .slice 207 .held,[.nil .held]⟩),
  (142,⟨4,72, .struct [(0,3),(1,140),(2,9),(3,61)],[.lit (.int .i64 0), .nil .held, .lit (.string ⟨#[]⟩), .nil .str]⟩),
  (144,⟨12,152, .struct [(0,3),(1,4),(2,3),(3,3),(4,3),(5,4),(6,139),(8,142)],[.lit (.int .i64 0), .lit (.bool false), .lit (.int .i64 0), .lit (.int .i64 0), .lit (.int .i64 0), .lit (.bool false), .lit (.int .i64 0), .nil .item, .lit (.int .i64 0), .nil .held, .lit (.string ⟨#[]⟩), .nil .str]⟩),
  (146,⟨3,40, .struct [(0,3),(1,9),(2,9)],[.lit (.int .i64 0), .lit (.string ⟨#[]⟩), .lit (.string ⟨#[]⟩)]⟩),
  (148,⟨4,40, .struct [(0,3),(1,3),(2,3),(3,9)],[.lit (.int .i64 0), .lit (.int .i64 0), .lit (.int .i64 0), .lit (.string ⟨#[]⟩)]⟩),
  (150,⟨3,32, .struct [(0,3),(1,9),(2,3)],[.lit (.int .i64 0), .lit (.string ⟨#[]⟩), .lit (.int .i64 0)]⟩),
  (165,⟨1,8, .other,[.lit (.pointer none)]⟩),
  (169,⟨2,24, .struct [(0,9),(1,4)],[.lit (.string ⟨#[]⟩), .lit (.bool false)]⟩),
  (171,⟨4,40, .struct [(0,169),(2,4),(3,3)],[.lit (.string ⟨#[]⟩), .lit (.bool false), .lit (.bool false), .lit (.int .i64 0)]⟩),
  (177,⟨1,24, .slice 169 .part,[.nil .part]⟩),
  (182,⟨3,32, .struct [(0,3),(1,169)],[.lit (.int .i64 0), .lit (.string ⟨#[]⟩), .lit (.bool false)]⟩),
  (189,⟨1,8, .int .u64,[.lit (.int .u64 0)]⟩),
  (190,⟨1,8, .other,[.lit (.pointer none)]⟩),
  (191,⟨1,8, .int .u64,[.lit (.int .u64 0)]⟩),
  (192,⟨8,8, .arr 8 5 .byte,[.lit (.int .u8 0), .lit (.int .u8 0), .lit (.int .u8 0), .lit (.int .u8 0), .lit (.int .u8 0), .lit (.int .u8 0), .lit (.int .u8 0), .lit (.int .u8 0)]⟩),
  (202,⟨2,24, .struct [(0,9),(1,4)],[.lit (.string ⟨#[]⟩), .lit (.bool false)]⟩),
  (204,⟨4,40, .struct [(0,202),(2,4),(3,3)],[.lit (.string ⟨#[]⟩), .lit (.bool false), .lit (.bool false), .lit (.int .i64 0)]⟩),
  (207,⟨3,32, .struct [(0,3),(1,202)],[.lit (.int .i64 0), .lit (.string ⟨#[]⟩), .lit (.bool false)]⟩),
  (222,⟨1,4, .int .u32,[.lit (.int .u32 0)]⟩),
  (226,⟨1,8, .other,[.lit (.pointer none)]⟩)]
abbrev TX:=ap_ F1_
theorem Fp_:az_ Tryz.prog cod TX 2 ⟨1,8, .int .i64,[.lit (.int .i64 0)]⟩:=⟨_,_,_,Tryz.type2,rfl,rfl,rfl,by kernel_rfl,by kernel_rfl,Tryz.underlying2,by kernel_rfl,rfl⟩
theorem FS_:az_ Tryz.prog cod TX 3 ⟨1,8, .int .i64,[.lit (.int .i64 0)]⟩:=⟨_,_,_,Tryz.type3,rfl,rfl,rfl,by kernel_rfl,by kernel_rfl,Tryz.underlying3,by kernel_rfl,rfl⟩
theorem Fx_:az_ Tryz.prog cod TX 4 ⟨1,1, .bool,[.lit (.bool false)]⟩:=⟨_,_,_,Tryz.type4,rfl,rfl,rfl,by kernel_rfl,by kernel_rfl,Tryz.underlying4,by kernel_rfl,rfl⟩
theorem EX_:az_ Tryz.prog cod TX 5 ⟨1,1, .int .u8,[.lit (.int .u8 0)]⟩:=⟨_,_,_,Tryz.type5,rfl,rfl,rfl,by kernel_rfl,by kernel_rfl,Tryz.underlying5,by kernel_rfl,rfl⟩
theorem FN_:az_ Tryz.prog cod TX 9 ⟨1,16, .str,[.lit (.string ⟨#[]⟩)]⟩:=⟨_,_,_,Tryz.type9,rfl,rfl,rfl,by kernel_rfl,by kernel_rfl,Tryz.underlying9,by kernel_rfl,rfl⟩
theorem DT_:az_ Tryz.prog cod TX 12 ⟨1,8, .int .u64,[.lit (.int .u64 0)]⟩:=⟨_,_,_,Tryz.type12,rfl,rfl,rfl,by kernel_rfl,by kernel_rfl,Tryz.underlying12,by kernel_rfl,rfl⟩
theorem DF_:az_ Tryz.prog cod TX 21 ⟨1,4, .int .i32,[.lit (.int .i32 0)]⟩:=⟨_,_,_,Tryz.type21,rfl,rfl,rfl,by kernel_rfl,by kernel_rfl,Tryz.underlying21,by kernel_rfl,rfl⟩
theorem ED_:az_ Tryz.prog cod TX 22 ⟨1,24, .slice 5 .byte,[.nil .byte]⟩:=⟨_,_,_,Tryz.type22,rfl,rfl,rfl,by kernel_rfl,by kernel_rfl,Tryz.underlying22,by kernel_rfl,⟨⟨rfl,_,Tryz.type5,by kernel_rfl,by kernel_rfl⟩,_,_,Tryz.type5,rfl,by kernel_rfl,by kernel_rfl,by decide⟩⟩
theorem D7_:az_ Tryz.prog cod TX 25 ⟨1,24, .slice 65 .xend,[.nil .xend]⟩:=⟨_,_,_,Tryz.type25,rfl,rfl,rfl,by kernel_rfl,by kernel_rfl,Tryz.underlying25,by kernel_rfl,⟨⟨rfl,_,Tryz.type65,by kernel_rfl,by kernel_rfl⟩,_,_,Tryz.type65,rfl,by kernel_rfl,by kernel_rfl,by decide⟩⟩
theorem DV_:az_ Tryz.prog cod TX 26 ⟨1,24, .slice 73 .parcel,[.nil .parcel]⟩:=⟨_,_,_,Tryz.type26,rfl,rfl,rfl,by kernel_rfl,by kernel_rfl,Tryz.underlying26,by kernel_rfl,⟨⟨rfl,_,Tryz.type73,by kernel_rfl,by kernel_rfl⟩,_,_,Tryz.type73,rfl,by kernel_rfl,by kernel_rfl,by decide⟩⟩
theorem Di_:az_ Tryz.prog cod TX 27 ⟨1,24, .slice 87 .record,[.nil .record]⟩:=⟨_,_,_,Tryz.type27,rfl,rfl,rfl,by kernel_rfl,by kernel_rfl,Tryz.underlying27,by kernel_rfl,⟨⟨rfl,_,Tryz.type87,by kernel_rfl,by kernel_rfl⟩,_,_,Tryz.type87,rfl,by kernel_rfl,by kernel_rfl,by decide⟩⟩
theorem D4_:az_ Tryz.prog cod TX 29 ⟨7,136, .struct [(0,9),(1,3),(2,25),(3,26),(4,9),(5,27),(6,27)],[.lit (.string ⟨#[]⟩), .lit (.int .i64 0), .nil .xend, .nil .parcel, .lit (.string ⟨#[]⟩), .nil .record, .nil .record]⟩:=⟨_,_,_,Tryz.type29,rfl,rfl,rfl,by kernel_rfl,by kernel_rfl,Tryz.underlying29,by kernel_rfl,⟨_,rfl,by kernel_rfl,by kernel_rfl,by kernel_rfl,by kernel_rfl,by kernel_rfl⟩⟩
theorem Eh_:az_ Tryz.prog cod TX 31 ⟨1,24, .slice 35 .event,[.nil .event]⟩:=⟨_,_,_,Tryz.type31,rfl,rfl,rfl,by kernel_rfl,by kernel_rfl,Tryz.underlying31,by kernel_rfl,⟨⟨rfl,_,Tryz.type35,by kernel_rfl,by kernel_rfl⟩,_,_,Tryz.type35,rfl,by kernel_rfl,by kernel_rfl,by decide⟩⟩
theorem D9_:az_ Tryz.prog cod TX 35 ⟨5,48, .struct [(0,3),(1,3),(2,3),(3,3),(4,9)],[.lit (.int .i64 0), .lit (.int .i64 0), .lit (.int .i64 0), .lit (.int .i64 0), .lit (.string ⟨#[]⟩)]⟩:=⟨_,_,_,Tryz.type35,rfl,rfl,rfl,by kernel_rfl,by kernel_rfl,Tryz.underlying35,by kernel_rfl,⟨_,rfl,by kernel_rfl,by kernel_rfl,by kernel_rfl,by kernel_rfl,by kernel_rfl⟩⟩
theorem DJ_:az_ Tryz.prog cod TX 41 ⟨1,24, .slice 144 .end,[.nil .end]⟩:=⟨_,_,_,Tryz.type41,rfl,rfl,rfl,by kernel_rfl,by kernel_rfl,Tryz.underlying41,by kernel_rfl,⟨⟨rfl,_,Tryz.type144,by kernel_rfl,by kernel_rfl⟩,_,_,Tryz.type144,rfl,by kernel_rfl,by kernel_rfl,by decide⟩⟩
theorem EC_:az_ Tryz.prog cod TX 42 ⟨1,24, .slice 146 .parcel,[.nil .parcel]⟩:=⟨_,_,_,Tryz.type42,rfl,rfl,rfl,by kernel_rfl,by kernel_rfl,Tryz.underlying42,by kernel_rfl,⟨⟨rfl,_,Tryz.type146,by kernel_rfl,by kernel_rfl⟩,_,_,Tryz.type146,rfl,by kernel_rfl,by kernel_rfl,by decide⟩⟩
theorem EN_:az_ Tryz.prog cod TX 43 ⟨1,24, .slice 148 .record,[.nil .record]⟩:=⟨_,_,_,Tryz.type43,rfl,rfl,rfl,by kernel_rfl,by kernel_rfl,Tryz.underlying43,by kernel_rfl,⟨⟨rfl,_,Tryz.type148,by kernel_rfl,by kernel_rfl⟩,_,_,Tryz.type148,rfl,by kernel_rfl,by kernel_rfl,by decide⟩⟩
theorem Dy_:az_ Tryz.prog cod TX 45 ⟨7,136, .struct [(0,9),(1,3),(2,41),(3,42),(4,9),(5,43),(6,43)],[.lit (.string ⟨#[]⟩), .lit (.int .i64 0), .nil .end, .nil .parcel, .lit (.string ⟨#[]⟩), .nil .record, .nil .record]⟩:=⟨_,_,_,Tryz.type45,rfl,rfl,rfl,by kernel_rfl,by kernel_rfl,Tryz.underlying45,by kernel_rfl,⟨_,rfl,by kernel_rfl,by kernel_rfl,by kernel_rfl,by kernel_rfl,by kernel_rfl⟩⟩
theorem Ee_:az_ Tryz.prog cod TX 51 ⟨5,48, .struct [(0,3),(1,3),(2,3),(3,3),(4,9)],[.lit (.int .i64 0), .lit (.int .i64 0), .lit (.int .i64 0), .lit (.int .i64 0), .lit (.string ⟨#[]⟩)]⟩:=⟨_,_,_,Tryz.type51,rfl,rfl,rfl,by kernel_rfl,by kernel_rfl,Tryz.underlying51,by kernel_rfl,⟨_,rfl,by kernel_rfl,by kernel_rfl,by kernel_rfl,by kernel_rfl,by kernel_rfl⟩⟩
theorem Es_:az_ Tryz.prog cod TX 57 ⟨1,24, .slice 171 .item,[.nil .item]⟩:=⟨_,_,_,Tryz.type57,rfl,rfl,rfl,by kernel_rfl,by kernel_rfl,Tryz.underlying57,by kernel_rfl,⟨⟨rfl,_,Tryz.type171,by kernel_rfl,by kernel_rfl⟩,_,_,Tryz.type171,rfl,by kernel_rfl,by kernel_rfl,by decide⟩⟩
theorem EH_:az_ Tryz.prog cod TX 59 ⟨2,32, .struct [(0,3),(1,57)],[.lit (.int .i64 0), .nil .item]⟩:=⟨_,_,_,Tryz.type59,rfl,rfl,rfl,by kernel_rfl,by kernel_rfl,Tryz.underlying59,by kernel_rfl,⟨_,rfl,by kernel_rfl,by kernel_rfl,by kernel_rfl,by kernel_rfl,by kernel_rfl⟩⟩
theorem EK_:az_ Tryz.prog cod TX 60 ⟨1,24, .slice 182 .held,[.nil .held]⟩:=⟨_,_,_,Tryz.type60,rfl,rfl,rfl,by kernel_rfl,by kernel_rfl,Tryz.underlying60,by kernel_rfl,⟨⟨rfl,_,Tryz.type182,by kernel_rfl,by kernel_rfl⟩,_,_,Tryz.type182,rfl,by kernel_rfl,by kernel_rfl,by decide⟩⟩
theorem Eg_:az_ Tryz.prog cod TX 61 ⟨1,24, .slice 9 .str,[.nil .str]⟩:=⟨_,_,_,Tryz.type61,rfl,rfl,rfl,by kernel_rfl,by kernel_rfl,Tryz.underlying61,by kernel_rfl,⟨⟨rfl,_,Tryz.type9,by kernel_rfl,by kernel_rfl⟩,_,_,Tryz.type9,rfl,by kernel_rfl,by kernel_rfl,by decide⟩⟩
theorem Dq_:az_ Tryz.prog cod TX 63 ⟨4,72, .struct [(0,3),(1,60),(2,9),(3,61)],[.lit (.int .i64 0), .nil .held, .lit (.string ⟨#[]⟩), .nil .str]⟩:=⟨_,_,_,Tryz.type63,rfl,rfl,rfl,by kernel_rfl,by kernel_rfl,Tryz.underlying63,by kernel_rfl,⟨_,rfl,by kernel_rfl,by kernel_rfl,by kernel_rfl,by kernel_rfl,by kernel_rfl⟩⟩
theorem Dp_:az_ Tryz.prog cod TX 65 ⟨12,152, .struct [(0,3),(1,4),(2,3),(3,3),(4,3),(5,4),(6,59),(8,63)],[.lit (.int .i64 0), .lit (.bool false), .lit (.int .i64 0), .lit (.int .i64 0), .lit (.int .i64 0), .lit (.bool false), .lit (.int .i64 0), .nil .item, .lit (.int .i64 0), .nil .held, .lit (.string ⟨#[]⟩), .nil .str]⟩:=⟨_,_,_,Tryz.type65,rfl,rfl,rfl,by kernel_rfl,by kernel_rfl,Tryz.underlying65,by kernel_rfl,⟨_,rfl,by kernel_rfl,by kernel_rfl,by kernel_rfl,by kernel_rfl,by kernel_rfl⟩⟩
theorem DO_:az_ Tryz.prog cod TX 68 ⟨1,8, .other,[.lit (.pointer none)]⟩:=⟨_,_,_,Tryz.type68,rfl,rfl,rfl,by kernel_rfl,by kernel_rfl,Tryz.underlying68,by kernel_rfl,trivial⟩
theorem Et_:az_ Tryz.prog cod TX 73 ⟨3,40, .struct [(0,3),(1,9),(2,9)],[.lit (.int .i64 0), .lit (.string ⟨#[]⟩), .lit (.string ⟨#[]⟩)]⟩:=⟨_,_,_,Tryz.type73,rfl,rfl,rfl,by kernel_rfl,by kernel_rfl,Tryz.underlying73,by kernel_rfl,⟨_,rfl,by kernel_rfl,by kernel_rfl,by kernel_rfl,by kernel_rfl,by kernel_rfl⟩⟩
theorem Em_:az_ Tryz.prog cod TX 75 ⟨9,80, .struct [(0,3),(1,3),(2,3),(3,3),(4,3),(5,3),(6,3),(7,4),(8,9)],[.lit (.int .i64 0), .lit (.int .i64 0), .lit (.int .i64 0), .lit (.int .i64 0), .lit (.int .i64 0), .lit (.int .i64 0), .lit (.int .i64 0), .lit (.bool false), .lit (.string ⟨#[]⟩)]⟩:=⟨_,_,_,Tryz.type75,rfl,rfl,rfl,by kernel_rfl,by kernel_rfl,Tryz.underlying75,by kernel_rfl,⟨_,rfl,by kernel_rfl,by kernel_rfl,by kernel_rfl,by kernel_rfl,by kernel_rfl⟩⟩
theorem Eo_:az_ Tryz.prog cod TX 82 ⟨1,24, .slice 75 .packet,[.nil .packet]⟩:=⟨_,_,_,Tryz.type82,rfl,rfl,rfl,by kernel_rfl,by kernel_rfl,Tryz.underlying82,by kernel_rfl,⟨⟨rfl,_,Tryz.type75,by kernel_rfl,by kernel_rfl⟩,_,_,Tryz.type75,rfl,by kernel_rfl,by kernel_rfl,by decide⟩⟩
theorem Ea_:az_ Tryz.prog cod TX 84 ⟨15,200, .struct [(0,3),(1,65),(13,82),(14,9)],[.lit (.int .i64 0), .lit (.int .i64 0), .lit (.bool false), .lit (.int .i64 0), .lit (.int .i64 0), .lit (.int .i64 0), .lit (.bool false), .lit (.int .i64 0), .nil .item, .lit (.int .i64 0), .nil .held, .lit (.string ⟨#[]⟩), .nil .str, .nil .packet, .lit (.string ⟨#[]⟩)]⟩:=⟨_,_,_,Tryz.type84,rfl,rfl,rfl,by kernel_rfl,by kernel_rfl,Tryz.underlying84,by kernel_rfl,⟨_,rfl,by kernel_rfl,by kernel_rfl,by kernel_rfl,by kernel_rfl,by kernel_rfl⟩⟩
theorem El_:az_ Tryz.prog cod TX 87 ⟨4,40, .struct [(0,3),(1,3),(2,3),(3,9)],[.lit (.int .i64 0), .lit (.int .i64 0), .lit (.int .i64 0), .lit (.string ⟨#[]⟩)]⟩:=⟨_,_,_,Tryz.type87,rfl,rfl,rfl,by kernel_rfl,by kernel_rfl,Tryz.underlying87,by kernel_rfl,⟨_,rfl,by kernel_rfl,by kernel_rfl,by kernel_rfl,by kernel_rfl,by kernel_rfl⟩⟩
theorem Ev_:az_ Tryz.prog cod TX 93 ⟨1,8, .map 95 61 .pair .lstr,[.lit (.map none)]⟩:=⟨_,_,_,Tryz.type93,rfl,rfl,rfl,by kernel_rfl,by kernel_rfl,Tryz.underlying93,by kernel_rfl,⟨rfl,fun _ _=>by kernel_rfl,⟨_,_,rfl,rfl,by kernel_rfl⟩,fun _=>rfl,_,_,Tryz.type61,rfl,by kernel_rfl⟩⟩
theorem Do_:az_ Tryz.prog cod TX 95 ⟨3,24, .struct [(0,3),(1,3),(2,3)],[.lit (.int .i64 0), .lit (.int .i64 0), .lit (.int .i64 0)]⟩:=⟨_,_,_,Tryz.type95,rfl,rfl,rfl,by kernel_rfl,by kernel_rfl,Tryz.underlying95,by kernel_rfl,⟨_,rfl,by kernel_rfl,by kernel_rfl,by kernel_rfl,by kernel_rfl,by kernel_rfl⟩⟩
theorem EA_:az_ Tryz.prog cod TX 96 ⟨1,8, .map 95 3 .pair .int,[.lit (.map none)]⟩:=⟨_,_,_,Tryz.type96,rfl,rfl,rfl,by kernel_rfl,by kernel_rfl,Tryz.underlying96,by kernel_rfl,⟨rfl,fun _ _=>by kernel_rfl,⟨_,_,rfl,rfl,by kernel_rfl⟩,fun _=>rfl,_,_,Tryz.type3,rfl,by kernel_rfl⟩⟩
theorem Cm_:az_ Tryz.prog cod TX 102 ⟨1,24, .slice 150 .l7count,[.nil .l7count]⟩:=⟨_,_,_,Tryz.type102,rfl,rfl,rfl,by kernel_rfl,by kernel_rfl,Tryz.underlying102,by kernel_rfl,⟨⟨rfl,_,Tryz.type150,by kernel_rfl,by kernel_rfl⟩,_,_,Tryz.type150,rfl,by kernel_rfl,by kernel_rfl,by decide⟩⟩
theorem B5_:az_ Tryz.prog cod TX 110 ⟨1,8, .map 112 3 .key .int,[.lit (.map none)]⟩:=⟨_,_,_,Tryz.type110,rfl,rfl,rfl,by kernel_rfl,by kernel_rfl,Tryz.underlying110,by kernel_rfl,⟨rfl,fun _ _=>by kernel_rfl,⟨_,_,rfl,rfl,by kernel_rfl⟩,fun _=>rfl,_,_,Tryz.type3,rfl,by kernel_rfl⟩⟩
theorem CD_:az_ Tryz.prog cod TX 112 ⟨2,24, .struct [(0,3),(1,9)],[.lit (.int .i64 0), .lit (.string ⟨#[]⟩)]⟩:=⟨_,_,_,Tryz.type112,rfl,rfl,rfl,by kernel_rfl,by kernel_rfl,Tryz.underlying112,by kernel_rfl,⟨_,rfl,by kernel_rfl,by kernel_rfl,by kernel_rfl,by kernel_rfl,by kernel_rfl⟩⟩
theorem CR_:az_ Tryz.prog cod TX 120 ⟨1,24, .slice 3 .int,[.nil .int]⟩:=⟨_,_,_,Tryz.type120,rfl,rfl,rfl,by kernel_rfl,by kernel_rfl,Tryz.underlying120,by kernel_rfl,⟨⟨rfl,_,Tryz.type3,by kernel_rfl,by kernel_rfl⟩,_,_,Tryz.type3,rfl,by kernel_rfl,by kernel_rfl,by decide⟩⟩
theorem Ca_:az_ Tryz.prog cod TX 123 ⟨2,32, .struct [(0,22),(1,3)],[.nil .byte, .lit (.int .i64 0)]⟩:=⟨_,_,_,Tryz.type123,rfl,rfl,rfl,by kernel_rfl,by kernel_rfl,Tryz.underlying123,by kernel_rfl,⟨_,rfl,by kernel_rfl,by kernel_rfl,by kernel_rfl,by kernel_rfl,by kernel_rfl⟩⟩
theorem C3_:az_ Tryz.prog cod TX 126 ⟨1,24, .slice 27 .lrecord,[.nil .lrecord]⟩:=⟨_,_,_,Tryz.type126,rfl,rfl,rfl,by kernel_rfl,by kernel_rfl,Tryz.underlying126,by kernel_rfl,⟨⟨rfl,_,Tryz.type27,by kernel_rfl,by kernel_rfl⟩,_,_,Tryz.type27,rfl,by kernel_rfl,by kernel_rfl,by decide⟩⟩
theorem C2_:az_ Tryz.prog cod TX 127 ⟨1,8, .other,[.lit (.pointer none)]⟩:=⟨_,_,_,Tryz.type127,rfl,rfl,rfl,by kernel_rfl,by kernel_rfl,Tryz.underlying127,by kernel_rfl,trivial⟩
theorem BZ_:az_ Tryz.prog cod TX 137 ⟨1,24, .slice 204 .item,[.nil .item]⟩:=⟨_,_,_,Tryz.type137,rfl,rfl,rfl,by kernel_rfl,by kernel_rfl,Tryz.underlying137,by kernel_rfl,⟨⟨rfl,_,Tryz.type204,by kernel_rfl,by kernel_rfl⟩,_,_,Tryz.type204,rfl,by kernel_rfl,by kernel_rfl,by decide⟩⟩
theorem C1_:az_ Tryz.prog cod TX 139 ⟨2,32, .struct [(0,3),(1,137)],[.lit (.int .i64 0), .nil .item]⟩:=⟨_,_,_,Tryz.type139,rfl,rfl,rfl,by kernel_rfl,by kernel_rfl,Tryz.underlying139,by kernel_rfl,⟨_,rfl,by kernel_rfl,by kernel_rfl,by kernel_rfl,by kernel_rfl,by kernel_rfl⟩⟩
theorem BI_:az_ Tryz.prog cod TX 140 ⟨1,24, .slice 207 .held,[.nil .held]⟩:=⟨_,_,_,Tryz.type140,rfl,rfl,rfl,by kernel_rfl,by kernel_rfl,Tryz.underlying140,by kernel_rfl,⟨⟨rfl,_,Tryz.type207,by kernel_rfl,by kernel_rfl⟩,_,_,Tryz.type207,rfl,by kernel_rfl,by kernel_rfl,by decide⟩⟩
theorem Cs_:az_ Tryz.prog cod TX 142 ⟨4,72, .struct [(0,3),(1,140),(2,9),(3,61)],[.lit (.int .i64 0), .nil .held, .lit (.string ⟨#[]⟩), .nil .str]⟩:=⟨_,_,_,Tryz.type142,rfl,rfl,rfl,by kernel_rfl,by kernel_rfl,Tryz.underlying142,by kernel_rfl,⟨_,rfl,by kernel_rfl,by kernel_rfl,by kernel_rfl,by kernel_rfl,by kernel_rfl⟩⟩
theorem BG_:az_ Tryz.prog cod TX 144 ⟨12,152, .struct [(0,3),(1,4),(2,3),(3,3),(4,3),(5,4),(6,139),(8,142)],[.lit (.int .i64 0), .lit (.bool false), .lit (.int .i64 0), .lit (.int .i64 0), .lit (.int .i64 0), .lit (.bool false), .lit (.int .i64 0), .nil .item, .lit (.int .i64 0), .nil .held, .lit (.string ⟨#[]⟩), .nil .str]⟩:=⟨_,_,_,Tryz.type144,rfl,rfl,rfl,by kernel_rfl,by kernel_rfl,Tryz.underlying144,by kernel_rfl,⟨_,rfl,by kernel_rfl,by kernel_rfl,by kernel_rfl,by kernel_rfl,by kernel_rfl⟩⟩
theorem BQ_:az_ Tryz.prog cod TX 146 ⟨3,40, .struct [(0,3),(1,9),(2,9)],[.lit (.int .i64 0), .lit (.string ⟨#[]⟩), .lit (.string ⟨#[]⟩)]⟩:=⟨_,_,_,Tryz.type146,rfl,rfl,rfl,by kernel_rfl,by kernel_rfl,Tryz.underlying146,by kernel_rfl,⟨_,rfl,by kernel_rfl,by kernel_rfl,by kernel_rfl,by kernel_rfl,by kernel_rfl⟩⟩
theorem CQ_:az_ Tryz.prog cod TX 148 ⟨4,40, .struct [(0,3),(1,3),(2,3),(3,9)],[.lit (.int .i64 0), .lit (.int .i64 0), .lit (.int .i64 0), .lit (.string ⟨#[]⟩)]⟩:=⟨_,_,_,Tryz.type148,rfl,rfl,rfl,by kernel_rfl,by kernel_rfl,Tryz.underlying148,by kernel_rfl,⟨_,rfl,by kernel_rfl,by kernel_rfl,by kernel_rfl,by kernel_rfl,by kernel_rfl⟩⟩
theorem CT_:az_ Tryz.prog cod TX 150 ⟨3,32, .struct [(0,3),(1,9),(2,3)],[.lit (.int .i64 0), .lit (.string ⟨#[]⟩), .lit (.int .i64 0)]⟩:=⟨_,_,_,Tryz.type150,rfl,rfl,rfl,by kernel_rfl,by kernel_rfl,Tryz.underlying150,by kernel_rfl,⟨_,rfl,by kernel_rfl,by kernel_rfl,by kernel_rfl,by kernel_rfl,by kernel_rfl⟩⟩
theorem BV_:az_ Tryz.prog cod TX 165 ⟨1,8, .other,[.lit (.pointer none)]⟩:=⟨_,_,_,Tryz.type165,rfl,rfl,rfl,by kernel_rfl,by kernel_rfl,Tryz.underlying165,by kernel_rfl,trivial⟩
theorem Ci_:az_ Tryz.prog cod TX 169 ⟨2,24, .struct [(0,9),(1,4)],[.lit (.string ⟨#[]⟩), .lit (.bool false)]⟩:=⟨_,_,_,Tryz.type169,rfl,rfl,rfl,by kernel_rfl,by kernel_rfl,Tryz.underlying169,by kernel_rfl,⟨_,rfl,by kernel_rfl,by kernel_rfl,by kernel_rfl,by kernel_rfl,by kernel_rfl⟩⟩
theorem B4_:az_ Tryz.prog cod TX 171 ⟨4,40, .struct [(0,169),(2,4),(3,3)],[.lit (.string ⟨#[]⟩), .lit (.bool false), .lit (.bool false), .lit (.int .i64 0)]⟩:=⟨_,_,_,Tryz.type171,rfl,rfl,rfl,by kernel_rfl,by kernel_rfl,Tryz.underlying171,by kernel_rfl,⟨_,rfl,by kernel_rfl,by kernel_rfl,by kernel_rfl,by kernel_rfl,by kernel_rfl⟩⟩
theorem BX_:az_ Tryz.prog cod TX 177 ⟨1,24, .slice 169 .part,[.nil .part]⟩:=⟨_,_,_,Tryz.type177,rfl,rfl,rfl,by kernel_rfl,by kernel_rfl,Tryz.underlying177,by kernel_rfl,⟨⟨rfl,_,Tryz.type169,by kernel_rfl,by kernel_rfl⟩,_,_,Tryz.type169,rfl,by kernel_rfl,by kernel_rfl,by decide⟩⟩
theorem CA_:az_ Tryz.prog cod TX 182 ⟨3,32, .struct [(0,3),(1,169)],[.lit (.int .i64 0), .lit (.string ⟨#[]⟩), .lit (.bool false)]⟩:=⟨_,_,_,Tryz.type182,rfl,rfl,rfl,by kernel_rfl,by kernel_rfl,Tryz.underlying182,by kernel_rfl,⟨_,rfl,by kernel_rfl,by kernel_rfl,by kernel_rfl,by kernel_rfl,by kernel_rfl⟩⟩
theorem B6_:az_ Tryz.prog cod TX 189 ⟨1,8, .int .u64,[.lit (.int .u64 0)]⟩:=⟨_,_,_,Tryz.type189,rfl,rfl,rfl,by kernel_rfl,by kernel_rfl,Tryz.underlying189,by kernel_rfl,rfl⟩
theorem Cq_:az_ Tryz.prog cod TX 190 ⟨1,8, .other,[.lit (.pointer none)]⟩:=⟨_,_,_,Tryz.type190,rfl,rfl,rfl,by kernel_rfl,by kernel_rfl,Tryz.underlying190,by kernel_rfl,trivial⟩
theorem CM_:az_ Tryz.prog cod TX 191 ⟨1,8, .int .u64,[.lit (.int .u64 0)]⟩:=⟨_,_,_,Tryz.type191,rfl,rfl,rfl,by kernel_rfl,by kernel_rfl,Tryz.underlying191,by kernel_rfl,rfl⟩
theorem Cb_:az_ Tryz.prog cod TX 192 ⟨8,8, .arr 8 5 .byte,[.lit (.int .u8 0), .lit (.int .u8 0), .lit (.int .u8 0), .lit (.int .u8 0), .lit (.int .u8 0), .lit (.int .u8 0), .lit (.int .u8 0), .lit (.int .u8 0)]⟩:=⟨_,_,_,Tryz.type192,rfl,rfl,rfl,by kernel_rfl,by kernel_rfl,Tryz.underlying192,by kernel_rfl,⟨rfl,⟨_,Tryz.type5,by kernel_rfl,by kernel_rfl⟩,_,rfl,by kernel_rfl,by kernel_rfl⟩⟩
theorem Cw_:az_ Tryz.prog cod TX 202 ⟨2,24, .struct [(0,9),(1,4)],[.lit (.string ⟨#[]⟩), .lit (.bool false)]⟩:=⟨_,_,_,Tryz.type202,rfl,rfl,rfl,by kernel_rfl,by kernel_rfl,Tryz.underlying202,by kernel_rfl,⟨_,rfl,by kernel_rfl,by kernel_rfl,by kernel_rfl,by kernel_rfl,by kernel_rfl⟩⟩
theorem BW_:az_ Tryz.prog cod TX 204 ⟨4,40, .struct [(0,202),(2,4),(3,3)],[.lit (.string ⟨#[]⟩), .lit (.bool false), .lit (.bool false), .lit (.int .i64 0)]⟩:=⟨_,_,_,Tryz.type204,rfl,rfl,rfl,by kernel_rfl,by kernel_rfl,Tryz.underlying204,by kernel_rfl,⟨_,rfl,by kernel_rfl,by kernel_rfl,by kernel_rfl,by kernel_rfl,by kernel_rfl⟩⟩
theorem CV_:az_ Tryz.prog cod TX 207 ⟨3,32, .struct [(0,3),(1,202)],[.lit (.int .i64 0), .lit (.string ⟨#[]⟩), .lit (.bool false)]⟩:=⟨_,_,_,Tryz.type207,rfl,rfl,rfl,by kernel_rfl,by kernel_rfl,Tryz.underlying207,by kernel_rfl,⟨_,rfl,by kernel_rfl,by kernel_rfl,by kernel_rfl,by kernel_rfl,by kernel_rfl⟩⟩
theorem B9_:az_ Tryz.prog cod TX 222 ⟨1,4, .int .u32,[.lit (.int .u32 0)]⟩:=⟨_,_,_,Tryz.type222,rfl,rfl,rfl,by kernel_rfl,by kernel_rfl,Tryz.underlying222,by kernel_rfl,rfl⟩
theorem CN_:az_ Tryz.prog cod TX 226 ⟨1,8, .other,[.lit (.pointer none)]⟩:=⟨_,_,_,Tryz.type226,rfl,rfl,rfl,by kernel_rfl,by kernel_rfl,Tryz.underlying226,by kernel_rfl,trivial⟩
theorem rowsX:∀e∈F1_,az_ Tryz.prog cod TX e.1 e.2:=
  all_cons Fp_ (all_cons FS_ (all_cons Fx_ (all_cons EX_ (all_cons FN_ (all_cons DT_ (all_cons DF_ (all_cons ED_ (all_cons D7_ (all_cons DV_ (all_cons Di_ (all_cons D4_ (all_cons Eh_ (all_cons D9_ (all_cons DJ_ (all_cons EC_ (all_cons EN_ (all_cons Dy_ (all_cons Ee_ (all_cons Es_ (all_cons EH_ (all_cons EK_ (all_cons Eg_ (all_cons Dq_ (all_cons Dp_ (all_cons DO_ (all_cons Et_ (all_cons Em_ (all_cons Eo_ (all_cons Ea_ (all_cons El_ (all_cons Ev_ (all_cons Do_ (all_cons EA_ (all_cons Cm_ (all_cons B5_ (all_cons CD_ (all_cons CR_ (all_cons Ca_ (all_cons C3_ (all_cons C2_ (all_cons BZ_ (all_cons C1_ (all_cons BI_ (all_cons Cs_ (all_cons BG_ (all_cons BQ_ (all_cons CQ_ (all_cons CT_ (all_cons BV_ (all_cons Ci_ (all_cons B4_ (all_cons BX_ (all_cons CA_ (all_cons B6_ (all_cons Cq_ (all_cons CM_ (all_cons Cb_ (all_cons Cw_ (all_cons BW_ (all_cons CV_ (all_cons B9_ (all_cons CN_ (aa_)))))))))))))))))))))))))))))))))))))))))))))))))))))))))))))))
theorem cj_:TOk Tryz.prog cod TX:=TOk.of rowsX
theorem ci_:EOk Tryz.prog cod TX:=EOk.of rowsX
end Km.X
namespace Km.X
open Go Km Go.Proofs
set_option linter.unusedVariables false
set_option linter.unusedSimpArgs false
set_option maxRecDepth 100000
theorem wX_ (x y:ag_) (h:x.Part.Text=y.Part.Text∧x.Part.Last=y.Part.Last∧x.Has=y.Has∧x.Since=y.Since):x=y:=by
  obtain ⟨⟨_,_⟩,_,_⟩:=x
  obtain ⟨⟨_,_⟩,_,_⟩:=y
  simp_all
theorem xk_ (x y:ai_) (h:x.Seq=y.Seq∧x.Part.Text=y.Part.Text∧x.Part.Last=y.Part.Last):x=y:=by
  obtain ⟨_,⟨_,_⟩⟩:=x
  obtain ⟨_,⟨_,_⟩⟩:=y
  simp_all
theorem Co_ (x y:an_) (h:x.Number=y.Number∧x.Up=y.Up∧x.Life=y.Life∧x.Peer=y.Peer∧x.Since=y.Since∧x.Owes=y.Owes∧x.Send.Base=y.Send.Base∧x.Send.Items=y.Send.Items∧x.Take.Next=y.Take.Next∧x.Take.Held=y.Take.Held∧x.Take.Open=y.Take.Open∧x.Take.Ready=y.Take.Ready):x=y:=by
  obtain ⟨_,_,_,_,_,_,⟨_,_⟩,⟨_,_,_,_⟩⟩:=x
  obtain ⟨_,_,_,_,_,_,⟨_,_⟩,⟨_,_,_,_⟩⟩:=y
  simp_all
theorem yg_ (x y:ac_) (h:x.To=y.To∧x.Sent=y.Sent∧x.Bytes=y.Bytes):x=y:=by
  obtain ⟨_,_,_⟩:=x
  obtain ⟨_,_,_⟩:=y
  simp_all
theorem xZ_ (x y:ab_) (h:x.From=y.From∧x.A=y.A∧x.B=y.B∧x.Text=y.Text):x=y:=by
  obtain ⟨_,_,_,_⟩:=x
  obtain ⟨_,_,_,_⟩:=y
  simp_all
theorem A0_ {α:Type} {l:List α} (h:l.length=2):∃a0 a1,l=[a0,a1]:=by
  match l,h with
  | [a0,a1],_=>exact ⟨a0,a1,rfl⟩
theorem yV_ {α:Type} {l:List α} (h:l.length=3):∃a0 a1 a2,l=[a0,a1,a2]:=by
  match l,h with
  | [a0,a1,a2],_=>exact ⟨a0,a1,a2,rfl⟩
theorem yu_ {α:Type} {l:List α} (h:l.length=4):∃a0 a1 a2 a3,l=[a0,a1,a2,a3]:=by
  match l,h with
  | [a0,a1,a2,a3],_=>exact ⟨a0,a1,a2,a3,rfl⟩
theorem DB_ {α:Type} {l:List α} (h:l.length=5):∃a0 a1 a2 a3 a4,l=[a0,a1,a2,a3,a4]:=by
  match l,h with
  | [a0,a1,a2,a3,a4],_=>exact ⟨a0,a1,a2,a3,a4,rfl⟩
theorem Fn_ {α:Type} {l:List α} (h:l.length=7):∃a0 a1 a2 a3 a4 a5 a6,l=[a0,a1,a2,a3,a4,a5,a6]:=by
  match l,h with
  | [a0,a1,a2,a3,a4,a5,a6],_=>exact ⟨a0,a1,a2,a3,a4,a5,a6,rfl⟩
theorem Fk_ {α:Type} {l:List α} (h:l.length=9):∃a0 a1 a2 a3 a4 a5 a6 a7 a8,l=[a0,a1,a2,a3,a4,a5,a6,a7,a8]:=by
  match l,h with
  | [a0,a1,a2,a3,a4,a5,a6,a7,a8],_=>exact ⟨a0,a1,a2,a3,a4,a5,a6,a7,a8,rfl⟩
theorem Bj_ {α:Type} {l:List α} (h:l.length=12):∃a0 a1 a2 a3 a4 a5 a6 a7 a8 a9 a10 a11,l=[a0,a1,a2,a3,a4,a5,a6,a7,a8,a9,a10,a11]:=by
  match l,h with
  | [a0,a1,a2,a3,a4,a5,a6,a7,a8,a9,a10,a11],_=>exact ⟨a0,a1,a2,a3,a4,a5,a6,a7,a8,a9,a10,a11,rfl⟩
theorem sh3 {n:Nat} {avs:List V} (h:aj_ cod T n 3 avs):∃x:Int,avs=[.lit (.int .i64 x)]∧(Lit.int .i64 x).wf=true:=by
  cases n with
  | zero=>exact h.elim
  | succ n=>
    exact h
theorem sh4 {n:Nat} {avs:List V} (h:aj_ cod T n 4 avs):∃x:Bool,avs=[.lit (.bool x)]∧True:=by
  cases n with
  | zero=>exact h.elim
  | succ n=>
    obtain ⟨b,h⟩:=(h:∃b,avs=[.lit (.bool b)])
    exact ⟨b,h,trivial⟩
theorem sh5 {n:Nat} {avs:List V} (h:aj_ cod T n 5 avs):∃x:Int,avs=[.lit (.int .u8 x)]∧(Lit.int .u8 x).wf=true:=by
  cases n with
  | zero=>exact h.elim
  | succ n=>
    exact h
theorem sh9 {n:Nat} {avs:List V} (h:aj_ cod T n 9 avs):∃x:ByteArray,avs=[.lit (.string x)]∧x.size≤maxLen:=by
  cases n with
  | zero=>exact h.elim
  | succ n=>
    exact h
theorem Ch_ {n:Nat} {avs:List V} (h:aj_ cod T n 169 avs):∃x:aE_,avs=[.lit (.string x.Text), .lit (.bool x.Last)]∧i3_ x:=by
  cases n with
  | zero=>exact h.elim
  | succ n=>
    obtain ⟨hl,hf⟩:=(h:avs.length=2∧∀f∈([(0,9),(1,4)]:List (Nat×TypeId)),∃tf,T f.2=some tf∧aj_ cod T n f.2 ((avs.drop f.1).take tf.size))
    obtain ⟨a0,a1,rfl⟩:=A0_ hl
    obtain ⟨t0,ht0,g0⟩:=hf (0,9) (by simp)
    obtain rfl:=Option.some.inj ht0
    obtain ⟨x0,e0,w0⟩:=sh9 (show aj_ cod T n 9 [a0] from g0)
    simp only [List.cons.injEq,and_true] at e0
    obtain ⟨t1,ht1,g1⟩:=hf (1,4) (by simp)
    obtain rfl:=Option.some.inj ht1
    obtain ⟨x1,e1,w1⟩:=sh4 (show aj_ cod T n 4 [a1] from g1)
    simp only [List.cons.injEq,and_true] at e1
    obtain rfl:=e0
    obtain rfl:=e1
    exact ⟨⟨x0,x1⟩,rfl,w0,w1⟩
theorem Ek_ {n:Nat} {avs:List V} (h:aj_ cod T n 171 avs):∃x:ag_,avs=[.lit (.string x.Part.Text), .lit (.bool x.Part.Last), .lit (.bool x.Has), .lit (.int .i64 x.Since)]∧pP_ x:=by
  cases n with
  | zero=>exact h.elim
  | succ n=>
    obtain ⟨hl,hf⟩:=(h:avs.length=4∧∀f∈([(0,169),(2,4),(3,3)]:List (Nat×TypeId)),∃tf,T f.2=some tf∧aj_ cod T n f.2 ((avs.drop f.1).take tf.size))
    obtain ⟨a0,a1,a2,a3,rfl⟩:=yu_ hl
    obtain ⟨t0,ht0,g0⟩:=hf (0,169) (by simp)
    obtain rfl:=Option.some.inj ht0
    obtain ⟨x0,e0,w0⟩:=Ch_ (show aj_ cod T n 169 [a0,a1] from g0)
    simp only [List.cons.injEq,and_true] at e0
    obtain ⟨t1,ht1,g1⟩:=hf (2,4) (by simp)
    obtain rfl:=Option.some.inj ht1
    obtain ⟨x1,e1,w1⟩:=sh4 (show aj_ cod T n 4 [a2] from g1)
    simp only [List.cons.injEq,and_true] at e1
    obtain ⟨t2,ht2,g2⟩:=hf (3,3) (by simp)
    obtain rfl:=Option.some.inj ht2
    obtain ⟨x2,e2,w2⟩:=sh3 (show aj_ cod T n 3 [a3] from g2)
    simp only [List.cons.injEq,and_true] at e2
    obtain ⟨rfl,rfl⟩:=e0
    obtain rfl:=e1
    obtain rfl:=e2
    exact ⟨⟨x0,x1,x2⟩,rfl,w0,w1,w2⟩
theorem Ga_ {n:Nat} {avs:List V} (h:aj_ cod T n 57 avs):∃x:List ag_,avs=[.inl false .item x]∧(x.length≤maxLen∧∀y∈x,tb_ y):=by
  cases n with
  | zero=>exact h.elim
  | succ n=>
    obtain ⟨xs,h1,h2,h3⟩:=(h:∃xs:List (TyK .item),avs=[.inl false .item xs]∧xs.length≤maxLen∧∀x∈xs,aj_ cod T n 171 (vk_ .item x))
    refine ⟨xs,h1,h2,fun y hy=> ?_⟩
    obtain ⟨z,hz,hw⟩:=Ek_ (h3 y hy)
    have hz:([.lit (.string y.Part.Text), .lit (.bool y.Part.Last), .lit (.bool y.Has), .lit (.int .i64 y.Since)]:List V)=[.lit (.string z.Part.Text), .lit (.bool z.Part.Last), .lit (.bool z.Has), .lit (.int .i64 z.Since)]:=hz
    have:y=z:=by
      simp only [List.cons.injEq,AV.lit.injEq,AV.inl.injEq,Value.int.injEq,Value.string.injEq,Value.bool.injEq,true_and,and_true,heq_eq_eq] at hz
      exact wX_ y z hz
    subst this
    exact hw
theorem Gm_ {n:Nat} {avs:List V} (h:aj_ cod T n 59 avs):∃x:al_,avs=[.lit (.int .i64 x.Base), .inl false .item x.Items]∧tc_ x:=by
  cases n with
  | zero=>exact h.elim
  | succ n=>
    obtain ⟨hl,hf⟩:=(h:avs.length=2∧∀f∈([(0,3),(1,57)]:List (Nat×TypeId)),∃tf,T f.2=some tf∧aj_ cod T n f.2 ((avs.drop f.1).take tf.size))
    obtain ⟨a0,a1,rfl⟩:=A0_ hl
    obtain ⟨t0,ht0,g0⟩:=hf (0,3) (by simp)
    obtain rfl:=Option.some.inj ht0
    obtain ⟨x0,e0,w0⟩:=sh3 (show aj_ cod T n 3 [a0] from g0)
    simp only [List.cons.injEq,and_true] at e0
    obtain ⟨t1,ht1,g1⟩:=hf (1,57) (by simp)
    obtain rfl:=Option.some.inj ht1
    obtain ⟨x1,e1,w1⟩:=Ga_ (show aj_ cod T n 57 [a1] from g1)
    simp only [List.cons.injEq,and_true] at e1
    obtain rfl:=e0
    obtain rfl:=e1
    exact ⟨⟨x0,x1⟩,rfl,w0,w1⟩
theorem Eu_ {n:Nat} {avs:List V} (h:aj_ cod T n 182 avs):∃x:ai_,avs=[.lit (.int .i64 x.Seq), .lit (.string x.Part.Text), .lit (.bool x.Part.Last)]∧qM_ x:=by
  cases n with
  | zero=>exact h.elim
  | succ n=>
    obtain ⟨hl,hf⟩:=(h:avs.length=3∧∀f∈([(0,3),(1,169)]:List (Nat×TypeId)),∃tf,T f.2=some tf∧aj_ cod T n f.2 ((avs.drop f.1).take tf.size))
    obtain ⟨a0,a1,a2,rfl⟩:=yV_ hl
    obtain ⟨t0,ht0,g0⟩:=hf (0,3) (by simp)
    obtain rfl:=Option.some.inj ht0
    obtain ⟨x0,e0,w0⟩:=sh3 (show aj_ cod T n 3 [a0] from g0)
    simp only [List.cons.injEq,and_true] at e0
    obtain ⟨t1,ht1,g1⟩:=hf (1,169) (by simp)
    obtain rfl:=Option.some.inj ht1
    obtain ⟨x1,e1,w1⟩:=Ch_ (show aj_ cod T n 169 [a1,a2] from g1)
    simp only [List.cons.injEq,and_true] at e1
    obtain rfl:=e0
    obtain ⟨rfl,rfl⟩:=e1
    exact ⟨⟨x0,x1⟩,rfl,w0,w1⟩
theorem Gb_ {n:Nat} {avs:List V} (h:aj_ cod T n 60 avs):∃x:List ai_,avs=[.inl false .held x]∧(x.length≤maxLen∧∀y∈x,tz_ y):=by
  cases n with
  | zero=>exact h.elim
  | succ n=>
    obtain ⟨xs,h1,h2,h3⟩:=(h:∃xs:List (TyK .held),avs=[.inl false .held xs]∧xs.length≤maxLen∧∀x∈xs,aj_ cod T n 182 (vk_ .held x))
    refine ⟨xs,h1,h2,fun y hy=> ?_⟩
    obtain ⟨z,hz,hw⟩:=Eu_ (h3 y hy)
    have hz:([.lit (.int .i64 y.Seq), .lit (.string y.Part.Text), .lit (.bool y.Part.Last)]:List V)=[.lit (.int .i64 z.Seq), .lit (.string z.Part.Text), .lit (.bool z.Part.Last)]:=hz
    have:y=z:=by
      simp only [List.cons.injEq,AV.lit.injEq,AV.inl.injEq,Value.int.injEq,Value.string.injEq,Value.bool.injEq,true_and,and_true,heq_eq_eq] at hz
      exact xk_ y z hz
    subst this
    exact hw
theorem F4_ {n:Nat} {avs:List V} (h:aj_ cod T n 61 avs):∃x:List ByteArray,avs=[.inl false .str x]∧(x.length≤maxLen∧∀y∈x,zc_ y):=by
  cases n with
  | zero=>exact h.elim
  | succ n=>
    obtain ⟨xs,h1,h2,h3⟩:=(h:∃xs:List (TyK .str),avs=[.inl false .str xs]∧xs.length≤maxLen∧∀x∈xs,aj_ cod T n 9 (vk_ .str x))
    refine ⟨xs,h1,h2,fun y hy=> ?_⟩
    obtain ⟨z,hz,hw⟩:=sh9 (h3 y hy)
    have hz:([.lit (.string y)]:List V)=[.lit (.string z)]:=hz
    have:y=z:=by
      simp only [List.cons.injEq,AV.lit.injEq,AV.inl.injEq,Value.int.injEq,Value.string.injEq,Value.bool.injEq,true_and,and_true,heq_eq_eq] at hz
      exact hz
    subst this
    exact hw
theorem F9_ {n:Nat} {avs:List V} (h:aj_ cod T n 63 avs):∃x:ak_,avs=[.lit (.int .i64 x.Next), .inl false .held x.Held, .lit (.string x.Open), .inl false .str x.Ready]∧s8_ x:=by
  cases n with
  | zero=>exact h.elim
  | succ n=>
    obtain ⟨hl,hf⟩:=(h:avs.length=4∧∀f∈([(0,3),(1,60),(2,9),(3,61)]:List (Nat×TypeId)),∃tf,T f.2=some tf∧aj_ cod T n f.2 ((avs.drop f.1).take tf.size))
    obtain ⟨a0,a1,a2,a3,rfl⟩:=yu_ hl
    obtain ⟨t0,ht0,g0⟩:=hf (0,3) (by simp)
    obtain rfl:=Option.some.inj ht0
    obtain ⟨x0,e0,w0⟩:=sh3 (show aj_ cod T n 3 [a0] from g0)
    simp only [List.cons.injEq,and_true] at e0
    obtain ⟨t1,ht1,g1⟩:=hf (1,60) (by simp)
    obtain rfl:=Option.some.inj ht1
    obtain ⟨x1,e1,w1⟩:=Gb_ (show aj_ cod T n 60 [a1] from g1)
    simp only [List.cons.injEq,and_true] at e1
    obtain ⟨t2,ht2,g2⟩:=hf (2,9) (by simp)
    obtain rfl:=Option.some.inj ht2
    obtain ⟨x2,e2,w2⟩:=sh9 (show aj_ cod T n 9 [a2] from g2)
    simp only [List.cons.injEq,and_true] at e2
    obtain ⟨t3,ht3,g3⟩:=hf (3,61) (by simp)
    obtain rfl:=Option.some.inj ht3
    obtain ⟨x3,e3,w3⟩:=F4_ (show aj_ cod T n 61 [a3] from g3)
    simp only [List.cons.injEq,and_true] at e3
    obtain rfl:=e0
    obtain rfl:=e1
    obtain rfl:=e2
    obtain rfl:=e3
    exact ⟨⟨x0,x1,x2,x3⟩,rfl,w0,w1,w2,w3⟩
theorem Gc_ {n:Nat} {avs:List V} (h:aj_ cod T n 65 avs):∃x:an_,avs=[.lit (.int .i64 x.Number), .lit (.bool x.Up), .lit (.int .i64 x.Life), .lit (.int .i64 x.Peer), .lit (.int .i64 x.Since), .lit (.bool x.Owes), .lit (.int .i64 x.Send.Base), .inl false .item x.Send.Items, .lit (.int .i64 x.Take.Next), .inl false .held x.Take.Held, .lit (.string x.Take.Open), .inl false .str x.Take.Ready]∧xq_ x:=by
  cases n with
  | zero=>exact h.elim
  | succ n=>
    obtain ⟨hl,hf⟩:=(h:avs.length=12∧∀f∈([(0,3),(1,4),(2,3),(3,3),(4,3),(5,4),(6,59),(8,63)]:List (Nat×TypeId)),∃tf,T f.2=some tf∧aj_ cod T n f.2 ((avs.drop f.1).take tf.size))
    obtain ⟨a0,a1,a2,a3,a4,a5,a6,a7,a8,a9,a10,a11,rfl⟩:=Bj_ hl
    obtain ⟨t0,ht0,g0⟩:=hf (0,3) (by simp)
    obtain rfl:=Option.some.inj ht0
    obtain ⟨x0,e0,w0⟩:=sh3 (show aj_ cod T n 3 [a0] from g0)
    simp only [List.cons.injEq,and_true] at e0
    obtain ⟨t1,ht1,g1⟩:=hf (1,4) (by simp)
    obtain rfl:=Option.some.inj ht1
    obtain ⟨x1,e1,w1⟩:=sh4 (show aj_ cod T n 4 [a1] from g1)
    simp only [List.cons.injEq,and_true] at e1
    obtain ⟨t2,ht2,g2⟩:=hf (2,3) (by simp)
    obtain rfl:=Option.some.inj ht2
    obtain ⟨x2,e2,w2⟩:=sh3 (show aj_ cod T n 3 [a2] from g2)
    simp only [List.cons.injEq,and_true] at e2
    obtain ⟨t3,ht3,g3⟩:=hf (3,3) (by simp)
    obtain rfl:=Option.some.inj ht3
    obtain ⟨x3,e3,w3⟩:=sh3 (show aj_ cod T n 3 [a3] from g3)
    simp only [List.cons.injEq,and_true] at e3
    obtain ⟨t4,ht4,g4⟩:=hf (4,3) (by simp)
    obtain rfl:=Option.some.inj ht4
    obtain ⟨x4,e4,w4⟩:=sh3 (show aj_ cod T n 3 [a4] from g4)
    simp only [List.cons.injEq,and_true] at e4
    obtain ⟨t5,ht5,g5⟩:=hf (5,4) (by simp)
    obtain rfl:=Option.some.inj ht5
    obtain ⟨x5,e5,w5⟩:=sh4 (show aj_ cod T n 4 [a5] from g5)
    simp only [List.cons.injEq,and_true] at e5
    obtain ⟨t6,ht6,g6⟩:=hf (6,59) (by simp)
    obtain rfl:=Option.some.inj ht6
    obtain ⟨x6,e6,w6⟩:=Gm_ (show aj_ cod T n 59 [a6,a7] from g6)
    simp only [List.cons.injEq,and_true] at e6
    obtain ⟨t7,ht7,g7⟩:=hf (8,63) (by simp)
    obtain rfl:=Option.some.inj ht7
    obtain ⟨x7,e7,w7⟩:=F9_ (show aj_ cod T n 63 [a8,a9,a10,a11] from g7)
    simp only [List.cons.injEq,and_true] at e7
    obtain rfl:=e0
    obtain rfl:=e1
    obtain rfl:=e2
    obtain rfl:=e3
    obtain rfl:=e4
    obtain rfl:=e5
    obtain ⟨rfl,rfl⟩:=e6
    obtain ⟨rfl,rfl,rfl,rfl⟩:=e7
    exact ⟨⟨x0,x1,x2,x3,x4,x5,x6,x7⟩,rfl,w0,w1,w2,w3,w4,w5,w6,w7⟩
theorem Gg_ {n:Nat} {avs:List V} (h:aj_ cod T n 73 avs):∃x:ac_,avs=[.lit (.int .i64 x.To), .lit (.string x.Sent), .lit (.string x.Bytes)]∧jg_ x:=by
  cases n with
  | zero=>exact h.elim
  | succ n=>
    obtain ⟨hl,hf⟩:=(h:avs.length=3∧∀f∈([(0,3),(1,9),(2,9)]:List (Nat×TypeId)),∃tf,T f.2=some tf∧aj_ cod T n f.2 ((avs.drop f.1).take tf.size))
    obtain ⟨a0,a1,a2,rfl⟩:=yV_ hl
    obtain ⟨t0,ht0,g0⟩:=hf (0,3) (by simp)
    obtain rfl:=Option.some.inj ht0
    obtain ⟨x0,e0,w0⟩:=sh3 (show aj_ cod T n 3 [a0] from g0)
    simp only [List.cons.injEq,and_true] at e0
    obtain ⟨t1,ht1,g1⟩:=hf (1,9) (by simp)
    obtain rfl:=Option.some.inj ht1
    obtain ⟨x1,e1,w1⟩:=sh9 (show aj_ cod T n 9 [a1] from g1)
    simp only [List.cons.injEq,and_true] at e1
    obtain ⟨t2,ht2,g2⟩:=hf (2,9) (by simp)
    obtain rfl:=Option.some.inj ht2
    obtain ⟨x2,e2,w2⟩:=sh9 (show aj_ cod T n 9 [a2] from g2)
    simp only [List.cons.injEq,and_true] at e2
    obtain rfl:=e0
    obtain rfl:=e1
    obtain rfl:=e2
    exact ⟨⟨x0,x1,x2⟩,rfl,w0,w1,w2⟩
theorem Gl_ {n:Nat} {avs:List V} (h:aj_ cod T n 87 avs):∃x:ab_,avs=[.lit (.int .i64 x.From), .lit (.int .i64 x.A), .lit (.int .i64 x.B), .lit (.string x.Text)]∧i8_ x:=by
  cases n with
  | zero=>exact h.elim
  | succ n=>
    obtain ⟨hl,hf⟩:=(h:avs.length=4∧∀f∈([(0,3),(1,3),(2,3),(3,9)]:List (Nat×TypeId)),∃tf,T f.2=some tf∧aj_ cod T n f.2 ((avs.drop f.1).take tf.size))
    obtain ⟨a0,a1,a2,a3,rfl⟩:=yu_ hl
    obtain ⟨t0,ht0,g0⟩:=hf (0,3) (by simp)
    obtain rfl:=Option.some.inj ht0
    obtain ⟨x0,e0,w0⟩:=sh3 (show aj_ cod T n 3 [a0] from g0)
    simp only [List.cons.injEq,and_true] at e0
    obtain ⟨t1,ht1,g1⟩:=hf (1,3) (by simp)
    obtain rfl:=Option.some.inj ht1
    obtain ⟨x1,e1,w1⟩:=sh3 (show aj_ cod T n 3 [a1] from g1)
    simp only [List.cons.injEq,and_true] at e1
    obtain ⟨t2,ht2,g2⟩:=hf (2,3) (by simp)
    obtain rfl:=Option.some.inj ht2
    obtain ⟨x2,e2,w2⟩:=sh3 (show aj_ cod T n 3 [a2] from g2)
    simp only [List.cons.injEq,and_true] at e2
    obtain ⟨t3,ht3,g3⟩:=hf (3,9) (by simp)
    obtain rfl:=Option.some.inj ht3
    obtain ⟨x3,e3,w3⟩:=sh9 (show aj_ cod T n 9 [a3] from g3)
    simp only [List.cons.injEq,and_true] at e3
    obtain rfl:=e0
    obtain rfl:=e1
    obtain rfl:=e2
    obtain rfl:=e3
    exact ⟨⟨x0,x1,x2,x3⟩,rfl,w0,w1,w2,w3⟩
theorem F5_ {n:Nat} {avs:List V} (h:aj_ cod T n 35 avs):∃x:bu_,avs=[.lit (.int .i64 x.Kind), .lit (.int .i64 x.A), .lit (.int .i64 x.B), .lit (.int .i64 x.C), .lit (.string x.Text)]∧sV_ x:=by
  cases n with
  | zero=>exact h.elim
  | succ n=>
    obtain ⟨hl,hf⟩:=(h:avs.length=5∧∀f∈([(0,3),(1,3),(2,3),(3,3),(4,9)]:List (Nat×TypeId)),∃tf,T f.2=some tf∧aj_ cod T n f.2 ((avs.drop f.1).take tf.size))
    obtain ⟨a0,a1,a2,a3,a4,rfl⟩:=DB_ hl
    obtain ⟨t0,ht0,g0⟩:=hf (0,3) (by simp)
    obtain rfl:=Option.some.inj ht0
    obtain ⟨x0,e0,w0⟩:=sh3 (show aj_ cod T n 3 [a0] from g0)
    simp only [List.cons.injEq,and_true] at e0
    obtain ⟨t1,ht1,g1⟩:=hf (1,3) (by simp)
    obtain rfl:=Option.some.inj ht1
    obtain ⟨x1,e1,w1⟩:=sh3 (show aj_ cod T n 3 [a1] from g1)
    simp only [List.cons.injEq,and_true] at e1
    obtain ⟨t2,ht2,g2⟩:=hf (2,3) (by simp)
    obtain rfl:=Option.some.inj ht2
    obtain ⟨x2,e2,w2⟩:=sh3 (show aj_ cod T n 3 [a2] from g2)
    simp only [List.cons.injEq,and_true] at e2
    obtain ⟨t3,ht3,g3⟩:=hf (3,3) (by simp)
    obtain rfl:=Option.some.inj ht3
    obtain ⟨x3,e3,w3⟩:=sh3 (show aj_ cod T n 3 [a3] from g3)
    simp only [List.cons.injEq,and_true] at e3
    obtain ⟨t4,ht4,g4⟩:=hf (4,9) (by simp)
    obtain rfl:=Option.some.inj ht4
    obtain ⟨x4,e4,w4⟩:=sh9 (show aj_ cod T n 9 [a4] from g4)
    simp only [List.cons.injEq,and_true] at e4
    obtain rfl:=e0
    obtain rfl:=e1
    obtain rfl:=e2
    obtain rfl:=e3
    obtain rfl:=e4
    exact ⟨⟨x0,x1,x2,x3,x4⟩,rfl,w0,w1,w2,w3,w4⟩
theorem DN_ {n:Nat} {avs:List V} (h:aj_ cod T n 202 avs):∃x:aE_,avs=[.lit (.string x.Text), .lit (.bool x.Last)]∧i3_ x:=by
  cases n with
  | zero=>exact h.elim
  | succ n=>
    obtain ⟨hl,hf⟩:=(h:avs.length=2∧∀f∈([(0,9),(1,4)]:List (Nat×TypeId)),∃tf,T f.2=some tf∧aj_ cod T n f.2 ((avs.drop f.1).take tf.size))
    obtain ⟨a0,a1,rfl⟩:=A0_ hl
    obtain ⟨t0,ht0,g0⟩:=hf (0,9) (by simp)
    obtain rfl:=Option.some.inj ht0
    obtain ⟨x0,e0,w0⟩:=sh9 (show aj_ cod T n 9 [a0] from g0)
    simp only [List.cons.injEq,and_true] at e0
    obtain ⟨t1,ht1,g1⟩:=hf (1,4) (by simp)
    obtain rfl:=Option.some.inj ht1
    obtain ⟨x1,e1,w1⟩:=sh4 (show aj_ cod T n 4 [a1] from g1)
    simp only [List.cons.injEq,and_true] at e1
    obtain rfl:=e0
    obtain rfl:=e1
    exact ⟨⟨x0,x1⟩,rfl,w0,w1⟩
theorem Ej_ {n:Nat} {avs:List V} (h:aj_ cod T n 204 avs):∃x:ag_,avs=[.lit (.string x.Part.Text), .lit (.bool x.Part.Last), .lit (.bool x.Has), .lit (.int .i64 x.Since)]∧pP_ x:=by
  cases n with
  | zero=>exact h.elim
  | succ n=>
    obtain ⟨hl,hf⟩:=(h:avs.length=4∧∀f∈([(0,202),(2,4),(3,3)]:List (Nat×TypeId)),∃tf,T f.2=some tf∧aj_ cod T n f.2 ((avs.drop f.1).take tf.size))
    obtain ⟨a0,a1,a2,a3,rfl⟩:=yu_ hl
    obtain ⟨t0,ht0,g0⟩:=hf (0,202) (by simp)
    obtain rfl:=Option.some.inj ht0
    obtain ⟨x0,e0,w0⟩:=DN_ (show aj_ cod T n 202 [a0,a1] from g0)
    simp only [List.cons.injEq,and_true] at e0
    obtain ⟨t1,ht1,g1⟩:=hf (2,4) (by simp)
    obtain rfl:=Option.some.inj ht1
    obtain ⟨x1,e1,w1⟩:=sh4 (show aj_ cod T n 4 [a2] from g1)
    simp only [List.cons.injEq,and_true] at e1
    obtain ⟨t2,ht2,g2⟩:=hf (3,3) (by simp)
    obtain rfl:=Option.some.inj ht2
    obtain ⟨x2,e2,w2⟩:=sh3 (show aj_ cod T n 3 [a3] from g2)
    simp only [List.cons.injEq,and_true] at e2
    obtain ⟨rfl,rfl⟩:=e0
    obtain rfl:=e1
    obtain rfl:=e2
    exact ⟨⟨x0,x1,x2⟩,rfl,w0,w1,w2⟩
theorem EY_ {n:Nat} {avs:List V} (h:aj_ cod T n 137 avs):∃x:List ag_,avs=[.inl false .item x]∧(x.length≤maxLen∧∀y∈x,tb_ y):=by
  cases n with
  | zero=>exact h.elim
  | succ n=>
    obtain ⟨xs,h1,h2,h3⟩:=(h:∃xs:List (TyK .item),avs=[.inl false .item xs]∧xs.length≤maxLen∧∀x∈xs,aj_ cod T n 204 (vk_ .item x))
    refine ⟨xs,h1,h2,fun y hy=> ?_⟩
    obtain ⟨z,hz,hw⟩:=Ej_ (h3 y hy)
    have hz:([.lit (.string y.Part.Text), .lit (.bool y.Part.Last), .lit (.bool y.Has), .lit (.int .i64 y.Since)]:List V)=[.lit (.string z.Part.Text), .lit (.bool z.Part.Last), .lit (.bool z.Has), .lit (.int .i64 z.Since)]:=hz
    have:y=z:=by
      simp only [List.cons.injEq,AV.lit.injEq,AV.inl.injEq,Value.int.injEq,Value.string.injEq,Value.bool.injEq,true_and,and_true,heq_eq_eq] at hz
      exact wX_ y z hz
    subst this
    exact hw
theorem Fc_ {n:Nat} {avs:List V} (h:aj_ cod T n 139 avs):∃x:al_,avs=[.lit (.int .i64 x.Base), .inl false .item x.Items]∧tc_ x:=by
  cases n with
  | zero=>exact h.elim
  | succ n=>
    obtain ⟨hl,hf⟩:=(h:avs.length=2∧∀f∈([(0,3),(1,137)]:List (Nat×TypeId)),∃tf,T f.2=some tf∧aj_ cod T n f.2 ((avs.drop f.1).take tf.size))
    obtain ⟨a0,a1,rfl⟩:=A0_ hl
    obtain ⟨t0,ht0,g0⟩:=hf (0,3) (by simp)
    obtain rfl:=Option.some.inj ht0
    obtain ⟨x0,e0,w0⟩:=sh3 (show aj_ cod T n 3 [a0] from g0)
    simp only [List.cons.injEq,and_true] at e0
    obtain ⟨t1,ht1,g1⟩:=hf (1,137) (by simp)
    obtain rfl:=Option.some.inj ht1
    obtain ⟨x1,e1,w1⟩:=EY_ (show aj_ cod T n 137 [a1] from g1)
    simp only [List.cons.injEq,and_true] at e1
    obtain rfl:=e0
    obtain rfl:=e1
    exact ⟨⟨x0,x1⟩,rfl,w0,w1⟩
theorem DY_ {n:Nat} {avs:List V} (h:aj_ cod T n 207 avs):∃x:ai_,avs=[.lit (.int .i64 x.Seq), .lit (.string x.Part.Text), .lit (.bool x.Part.Last)]∧qM_ x:=by
  cases n with
  | zero=>exact h.elim
  | succ n=>
    obtain ⟨hl,hf⟩:=(h:avs.length=3∧∀f∈([(0,3),(1,202)]:List (Nat×TypeId)),∃tf,T f.2=some tf∧aj_ cod T n f.2 ((avs.drop f.1).take tf.size))
    obtain ⟨a0,a1,a2,rfl⟩:=yV_ hl
    obtain ⟨t0,ht0,g0⟩:=hf (0,3) (by simp)
    obtain rfl:=Option.some.inj ht0
    obtain ⟨x0,e0,w0⟩:=sh3 (show aj_ cod T n 3 [a0] from g0)
    simp only [List.cons.injEq,and_true] at e0
    obtain ⟨t1,ht1,g1⟩:=hf (1,202) (by simp)
    obtain rfl:=Option.some.inj ht1
    obtain ⟨x1,e1,w1⟩:=DN_ (show aj_ cod T n 202 [a1,a2] from g1)
    simp only [List.cons.injEq,and_true] at e1
    obtain rfl:=e0
    obtain ⟨rfl,rfl⟩:=e1
    exact ⟨⟨x0,x1⟩,rfl,w0,w1⟩
theorem FQ_ {n:Nat} {avs:List V} (h:aj_ cod T n 140 avs):∃x:List ai_,avs=[.inl false .held x]∧(x.length≤maxLen∧∀y∈x,tz_ y):=by
  cases n with
  | zero=>exact h.elim
  | succ n=>
    obtain ⟨xs,h1,h2,h3⟩:=(h:∃xs:List (TyK .held),avs=[.inl false .held xs]∧xs.length≤maxLen∧∀x∈xs,aj_ cod T n 207 (vk_ .held x))
    refine ⟨xs,h1,h2,fun y hy=> ?_⟩
    obtain ⟨z,hz,hw⟩:=DY_ (h3 y hy)
    have hz:([.lit (.int .i64 y.Seq), .lit (.string y.Part.Text), .lit (.bool y.Part.Last)]:List V)=[.lit (.int .i64 z.Seq), .lit (.string z.Part.Text), .lit (.bool z.Part.Last)]:=hz
    have:y=z:=by
      simp only [List.cons.injEq,AV.lit.injEq,AV.inl.injEq,Value.int.injEq,Value.string.injEq,Value.bool.injEq,true_and,and_true,heq_eq_eq] at hz
      exact xk_ y z hz
    subst this
    exact hw
theorem E7_ {n:Nat} {avs:List V} (h:aj_ cod T n 142 avs):∃x:ak_,avs=[.lit (.int .i64 x.Next), .inl false .held x.Held, .lit (.string x.Open), .inl false .str x.Ready]∧s8_ x:=by
  cases n with
  | zero=>exact h.elim
  | succ n=>
    obtain ⟨hl,hf⟩:=(h:avs.length=4∧∀f∈([(0,3),(1,140),(2,9),(3,61)]:List (Nat×TypeId)),∃tf,T f.2=some tf∧aj_ cod T n f.2 ((avs.drop f.1).take tf.size))
    obtain ⟨a0,a1,a2,a3,rfl⟩:=yu_ hl
    obtain ⟨t0,ht0,g0⟩:=hf (0,3) (by simp)
    obtain rfl:=Option.some.inj ht0
    obtain ⟨x0,e0,w0⟩:=sh3 (show aj_ cod T n 3 [a0] from g0)
    simp only [List.cons.injEq,and_true] at e0
    obtain ⟨t1,ht1,g1⟩:=hf (1,140) (by simp)
    obtain rfl:=Option.some.inj ht1
    obtain ⟨x1,e1,w1⟩:=FQ_ (show aj_ cod T n 140 [a1] from g1)
    simp only [List.cons.injEq,and_true] at e1
    obtain ⟨t2,ht2,g2⟩:=hf (2,9) (by simp)
    obtain rfl:=Option.some.inj ht2
    obtain ⟨x2,e2,w2⟩:=sh9 (show aj_ cod T n 9 [a2] from g2)
    simp only [List.cons.injEq,and_true] at e2
    obtain ⟨t3,ht3,g3⟩:=hf (3,61) (by simp)
    obtain rfl:=Option.some.inj ht3
    obtain ⟨x3,e3,w3⟩:=F4_ (show aj_ cod T n 61 [a3] from g3)
    simp only [List.cons.injEq,and_true] at e3
    obtain rfl:=e0
    obtain rfl:=e1
    obtain rfl:=e2
    obtain rfl:=e3
    exact ⟨⟨x0,x1,x2,x3⟩,rfl,w0,w1,w2,w3⟩
theorem Dz_ {n:Nat} {avs:List V} (h:aj_ cod T n 144 avs):∃x:an_,avs=[.lit (.int .i64 x.Number), .lit (.bool x.Up), .lit (.int .i64 x.Life), .lit (.int .i64 x.Peer), .lit (.int .i64 x.Since), .lit (.bool x.Owes), .lit (.int .i64 x.Send.Base), .inl false .item x.Send.Items, .lit (.int .i64 x.Take.Next), .inl false .held x.Take.Held, .lit (.string x.Take.Open), .inl false .str x.Take.Ready]∧xq_ x:=by
  cases n with
  | zero=>exact h.elim
  | succ n=>
    obtain ⟨hl,hf⟩:=(h:avs.length=12∧∀f∈([(0,3),(1,4),(2,3),(3,3),(4,3),(5,4),(6,139),(8,142)]:List (Nat×TypeId)),∃tf,T f.2=some tf∧aj_ cod T n f.2 ((avs.drop f.1).take tf.size))
    obtain ⟨a0,a1,a2,a3,a4,a5,a6,a7,a8,a9,a10,a11,rfl⟩:=Bj_ hl
    obtain ⟨t0,ht0,g0⟩:=hf (0,3) (by simp)
    obtain rfl:=Option.some.inj ht0
    obtain ⟨x0,e0,w0⟩:=sh3 (show aj_ cod T n 3 [a0] from g0)
    simp only [List.cons.injEq,and_true] at e0
    obtain ⟨t1,ht1,g1⟩:=hf (1,4) (by simp)
    obtain rfl:=Option.some.inj ht1
    obtain ⟨x1,e1,w1⟩:=sh4 (show aj_ cod T n 4 [a1] from g1)
    simp only [List.cons.injEq,and_true] at e1
    obtain ⟨t2,ht2,g2⟩:=hf (2,3) (by simp)
    obtain rfl:=Option.some.inj ht2
    obtain ⟨x2,e2,w2⟩:=sh3 (show aj_ cod T n 3 [a2] from g2)
    simp only [List.cons.injEq,and_true] at e2
    obtain ⟨t3,ht3,g3⟩:=hf (3,3) (by simp)
    obtain rfl:=Option.some.inj ht3
    obtain ⟨x3,e3,w3⟩:=sh3 (show aj_ cod T n 3 [a3] from g3)
    simp only [List.cons.injEq,and_true] at e3
    obtain ⟨t4,ht4,g4⟩:=hf (4,3) (by simp)
    obtain rfl:=Option.some.inj ht4
    obtain ⟨x4,e4,w4⟩:=sh3 (show aj_ cod T n 3 [a4] from g4)
    simp only [List.cons.injEq,and_true] at e4
    obtain ⟨t5,ht5,g5⟩:=hf (5,4) (by simp)
    obtain rfl:=Option.some.inj ht5
    obtain ⟨x5,e5,w5⟩:=sh4 (show aj_ cod T n 4 [a5] from g5)
    simp only [List.cons.injEq,and_true] at e5
    obtain ⟨t6,ht6,g6⟩:=hf (6,139) (by simp)
    obtain rfl:=Option.some.inj ht6
    obtain ⟨x6,e6,w6⟩:=Fc_ (show aj_ cod T n 139 [a6,a7] from g6)
    simp only [List.cons.injEq,and_true] at e6
    obtain ⟨t7,ht7,g7⟩:=hf (8,142) (by simp)
    obtain rfl:=Option.some.inj ht7
    obtain ⟨x7,e7,w7⟩:=E7_ (show aj_ cod T n 142 [a8,a9,a10,a11] from g7)
    simp only [List.cons.injEq,and_true] at e7
    obtain rfl:=e0
    obtain rfl:=e1
    obtain rfl:=e2
    obtain rfl:=e3
    obtain rfl:=e4
    obtain rfl:=e5
    obtain ⟨rfl,rfl⟩:=e6
    obtain ⟨rfl,rfl,rfl,rfl⟩:=e7
    exact ⟨⟨x0,x1,x2,x3,x4,x5,x6,x7⟩,rfl,w0,w1,w2,w3,w4,w5,w6,w7⟩
theorem F8_ {n:Nat} {avs:List V} (h:aj_ cod T n 41 avs):∃x:List an_,avs=[.inl false .end x]∧(x.length≤maxLen∧∀y∈x,An_ y):=by
  cases n with
  | zero=>exact h.elim
  | succ n=>
    obtain ⟨xs,h1,h2,h3⟩:=(h:∃xs:List (TyK .end),avs=[.inl false .end xs]∧xs.length≤maxLen∧∀x∈xs,aj_ cod T n 144 (vk_ .end x))
    refine ⟨xs,h1,h2,fun y hy=> ?_⟩
    obtain ⟨z,hz,hw⟩:=Dz_ (h3 y hy)
    have hz:([.lit (.int .i64 y.Number), .lit (.bool y.Up), .lit (.int .i64 y.Life), .lit (.int .i64 y.Peer), .lit (.int .i64 y.Since), .lit (.bool y.Owes), .lit (.int .i64 y.Send.Base), .inl false .item y.Send.Items, .lit (.int .i64 y.Take.Next), .inl false .held y.Take.Held, .lit (.string y.Take.Open), .inl false .str y.Take.Ready]:List V)=[.lit (.int .i64 z.Number), .lit (.bool z.Up), .lit (.int .i64 z.Life), .lit (.int .i64 z.Peer), .lit (.int .i64 z.Since), .lit (.bool z.Owes), .lit (.int .i64 z.Send.Base), .inl false .item z.Send.Items, .lit (.int .i64 z.Take.Next), .inl false .held z.Take.Held, .lit (.string z.Take.Open), .inl false .str z.Take.Ready]:=hz
    have:y=z:=by
      simp only [List.cons.injEq,AV.lit.injEq,AV.inl.injEq,Value.int.injEq,Value.string.injEq,Value.bool.injEq,true_and,and_true,heq_eq_eq] at hz
      exact Co_ y z hz
    subst this
    exact hw
theorem DW_ {n:Nat} {avs:List V} (h:aj_ cod T n 146 avs):∃x:ac_,avs=[.lit (.int .i64 x.To), .lit (.string x.Sent), .lit (.string x.Bytes)]∧jg_ x:=by
  cases n with
  | zero=>exact h.elim
  | succ n=>
    obtain ⟨hl,hf⟩:=(h:avs.length=3∧∀f∈([(0,3),(1,9),(2,9)]:List (Nat×TypeId)),∃tf,T f.2=some tf∧aj_ cod T n f.2 ((avs.drop f.1).take tf.size))
    obtain ⟨a0,a1,a2,rfl⟩:=yV_ hl
    obtain ⟨t0,ht0,g0⟩:=hf (0,3) (by simp)
    obtain rfl:=Option.some.inj ht0
    obtain ⟨x0,e0,w0⟩:=sh3 (show aj_ cod T n 3 [a0] from g0)
    simp only [List.cons.injEq,and_true] at e0
    obtain ⟨t1,ht1,g1⟩:=hf (1,9) (by simp)
    obtain rfl:=Option.some.inj ht1
    obtain ⟨x1,e1,w1⟩:=sh9 (show aj_ cod T n 9 [a1] from g1)
    simp only [List.cons.injEq,and_true] at e1
    obtain ⟨t2,ht2,g2⟩:=hf (2,9) (by simp)
    obtain rfl:=Option.some.inj ht2
    obtain ⟨x2,e2,w2⟩:=sh9 (show aj_ cod T n 9 [a2] from g2)
    simp only [List.cons.injEq,and_true] at e2
    obtain rfl:=e0
    obtain rfl:=e1
    obtain rfl:=e2
    exact ⟨⟨x0,x1,x2⟩,rfl,w0,w1,w2⟩
theorem Gf_ {n:Nat} {avs:List V} (h:aj_ cod T n 42 avs):∃x:List ac_,avs=[.inl false .parcel x]∧(x.length≤maxLen∧∀y∈x,qv_ y):=by
  cases n with
  | zero=>exact h.elim
  | succ n=>
    obtain ⟨xs,h1,h2,h3⟩:=(h:∃xs:List (TyK .parcel),avs=[.inl false .parcel xs]∧xs.length≤maxLen∧∀x∈xs,aj_ cod T n 146 (vk_ .parcel x))
    refine ⟨xs,h1,h2,fun y hy=> ?_⟩
    obtain ⟨z,hz,hw⟩:=DW_ (h3 y hy)
    have hz:([.lit (.int .i64 y.To), .lit (.string y.Sent), .lit (.string y.Bytes)]:List V)=[.lit (.int .i64 z.To), .lit (.string z.Sent), .lit (.string z.Bytes)]:=hz
    have:y=z:=by
      simp only [List.cons.injEq,AV.lit.injEq,AV.inl.injEq,Value.int.injEq,Value.string.injEq,Value.bool.injEq,true_and,and_true,heq_eq_eq] at hz
      exact yg_ y z hz
    subst this
    exact hw
theorem Eq_ {n:Nat} {avs:List V} (h:aj_ cod T n 148 avs):∃x:ab_,avs=[.lit (.int .i64 x.From), .lit (.int .i64 x.A), .lit (.int .i64 x.B), .lit (.string x.Text)]∧i8_ x:=by
  cases n with
  | zero=>exact h.elim
  | succ n=>
    obtain ⟨hl,hf⟩:=(h:avs.length=4∧∀f∈([(0,3),(1,3),(2,3),(3,9)]:List (Nat×TypeId)),∃tf,T f.2=some tf∧aj_ cod T n f.2 ((avs.drop f.1).take tf.size))
    obtain ⟨a0,a1,a2,a3,rfl⟩:=yu_ hl
    obtain ⟨t0,ht0,g0⟩:=hf (0,3) (by simp)
    obtain rfl:=Option.some.inj ht0
    obtain ⟨x0,e0,w0⟩:=sh3 (show aj_ cod T n 3 [a0] from g0)
    simp only [List.cons.injEq,and_true] at e0
    obtain ⟨t1,ht1,g1⟩:=hf (1,3) (by simp)
    obtain rfl:=Option.some.inj ht1
    obtain ⟨x1,e1,w1⟩:=sh3 (show aj_ cod T n 3 [a1] from g1)
    simp only [List.cons.injEq,and_true] at e1
    obtain ⟨t2,ht2,g2⟩:=hf (2,3) (by simp)
    obtain rfl:=Option.some.inj ht2
    obtain ⟨x2,e2,w2⟩:=sh3 (show aj_ cod T n 3 [a2] from g2)
    simp only [List.cons.injEq,and_true] at e2
    obtain ⟨t3,ht3,g3⟩:=hf (3,9) (by simp)
    obtain rfl:=Option.some.inj ht3
    obtain ⟨x3,e3,w3⟩:=sh9 (show aj_ cod T n 9 [a3] from g3)
    simp only [List.cons.injEq,and_true] at e3
    obtain rfl:=e0
    obtain rfl:=e1
    obtain rfl:=e2
    obtain rfl:=e3
    exact ⟨⟨x0,x1,x2,x3⟩,rfl,w0,w1,w2,w3⟩
theorem FZ_ {n:Nat} {avs:List V} (h:aj_ cod T n 43 avs):∃x:List ab_,avs=[.inl false .record x]∧(x.length≤maxLen∧∀y∈x,my_ y):=by
  cases n with
  | zero=>exact h.elim
  | succ n=>
    obtain ⟨xs,h1,h2,h3⟩:=(h:∃xs:List (TyK .record),avs=[.inl false .record xs]∧xs.length≤maxLen∧∀x∈xs,aj_ cod T n 148 (vk_ .record x))
    refine ⟨xs,h1,h2,fun y hy=> ?_⟩
    obtain ⟨z,hz,hw⟩:=Eq_ (h3 y hy)
    have hz:([.lit (.int .i64 y.From), .lit (.int .i64 y.A), .lit (.int .i64 y.B), .lit (.string y.Text)]:List V)=[.lit (.int .i64 z.From), .lit (.int .i64 z.A), .lit (.int .i64 z.B), .lit (.string z.Text)]:=hz
    have:y=z:=by
      simp only [List.cons.injEq,AV.lit.injEq,AV.inl.injEq,Value.int.injEq,Value.string.injEq,Value.bool.injEq,true_and,and_true,heq_eq_eq] at hz
      exact xZ_ y z hz
    subst this
    exact hw
theorem sh45 {n:Nat} {avs:List V} (h:aj_ cod T n 45 avs):∃x:ae_,avs=[.lit (.string x.Key), .lit (.int .i64 x.Width), .inl false .end x.Ends, .inl false .parcel x.Flight, .lit (.string x.Forged), .inl false .record x.Given, .inl false .record x.Taken]∧tv_ x:=by
  cases n with
  | zero=>exact h.elim
  | succ n=>
    obtain ⟨hl,hf⟩:=(h:avs.length=7∧∀f∈([(0,9),(1,3),(2,41),(3,42),(4,9),(5,43),(6,43)]:List (Nat×TypeId)),∃tf,T f.2=some tf∧aj_ cod T n f.2 ((avs.drop f.1).take tf.size))
    obtain ⟨a0,a1,a2,a3,a4,a5,a6,rfl⟩:=Fn_ hl
    obtain ⟨t0,ht0,g0⟩:=hf (0,9) (by simp)
    obtain rfl:=Option.some.inj ht0
    obtain ⟨x0,e0,w0⟩:=sh9 (show aj_ cod T n 9 [a0] from g0)
    simp only [List.cons.injEq,and_true] at e0
    obtain ⟨t1,ht1,g1⟩:=hf (1,3) (by simp)
    obtain rfl:=Option.some.inj ht1
    obtain ⟨x1,e1,w1⟩:=sh3 (show aj_ cod T n 3 [a1] from g1)
    simp only [List.cons.injEq,and_true] at e1
    obtain ⟨t2,ht2,g2⟩:=hf (2,41) (by simp)
    obtain rfl:=Option.some.inj ht2
    obtain ⟨x2,e2,w2⟩:=F8_ (show aj_ cod T n 41 [a2] from g2)
    simp only [List.cons.injEq,and_true] at e2
    obtain ⟨t3,ht3,g3⟩:=hf (3,42) (by simp)
    obtain rfl:=Option.some.inj ht3
    obtain ⟨x3,e3,w3⟩:=Gf_ (show aj_ cod T n 42 [a3] from g3)
    simp only [List.cons.injEq,and_true] at e3
    obtain ⟨t4,ht4,g4⟩:=hf (4,9) (by simp)
    obtain rfl:=Option.some.inj ht4
    obtain ⟨x4,e4,w4⟩:=sh9 (show aj_ cod T n 9 [a4] from g4)
    simp only [List.cons.injEq,and_true] at e4
    obtain ⟨t5,ht5,g5⟩:=hf (5,43) (by simp)
    obtain rfl:=Option.some.inj ht5
    obtain ⟨x5,e5,w5⟩:=FZ_ (show aj_ cod T n 43 [a5] from g5)
    simp only [List.cons.injEq,and_true] at e5
    obtain ⟨t6,ht6,g6⟩:=hf (6,43) (by simp)
    obtain rfl:=Option.some.inj ht6
    obtain ⟨x6,e6,w6⟩:=FZ_ (show aj_ cod T n 43 [a6] from g6)
    simp only [List.cons.injEq,and_true] at e6
    obtain rfl:=e0
    obtain rfl:=e1
    obtain rfl:=e2
    obtain rfl:=e3
    obtain rfl:=e4
    obtain rfl:=e5
    obtain rfl:=e6
    exact ⟨⟨x0,x1,x2,x3,x4,x5,x6⟩,rfl,w0,w1,w2,w3,w4,w5,w6⟩
theorem sh51 {n:Nat} {avs:List V} (h:aj_ cod T n 51 avs):∃x:bu_,avs=[.lit (.int .i64 x.Kind), .lit (.int .i64 x.A), .lit (.int .i64 x.B), .lit (.int .i64 x.C), .lit (.string x.Text)]∧sV_ x:=by
  cases n with
  | zero=>exact h.elim
  | succ n=>
    obtain ⟨hl,hf⟩:=(h:avs.length=5∧∀f∈([(0,3),(1,3),(2,3),(3,3),(4,9)]:List (Nat×TypeId)),∃tf,T f.2=some tf∧aj_ cod T n f.2 ((avs.drop f.1).take tf.size))
    obtain ⟨a0,a1,a2,a3,a4,rfl⟩:=DB_ hl
    obtain ⟨t0,ht0,g0⟩:=hf (0,3) (by simp)
    obtain rfl:=Option.some.inj ht0
    obtain ⟨x0,e0,w0⟩:=sh3 (show aj_ cod T n 3 [a0] from g0)
    simp only [List.cons.injEq,and_true] at e0
    obtain ⟨t1,ht1,g1⟩:=hf (1,3) (by simp)
    obtain rfl:=Option.some.inj ht1
    obtain ⟨x1,e1,w1⟩:=sh3 (show aj_ cod T n 3 [a1] from g1)
    simp only [List.cons.injEq,and_true] at e1
    obtain ⟨t2,ht2,g2⟩:=hf (2,3) (by simp)
    obtain rfl:=Option.some.inj ht2
    obtain ⟨x2,e2,w2⟩:=sh3 (show aj_ cod T n 3 [a2] from g2)
    simp only [List.cons.injEq,and_true] at e2
    obtain ⟨t3,ht3,g3⟩:=hf (3,3) (by simp)
    obtain rfl:=Option.some.inj ht3
    obtain ⟨x3,e3,w3⟩:=sh3 (show aj_ cod T n 3 [a3] from g3)
    simp only [List.cons.injEq,and_true] at e3
    obtain ⟨t4,ht4,g4⟩:=hf (4,9) (by simp)
    obtain rfl:=Option.some.inj ht4
    obtain ⟨x4,e4,w4⟩:=sh9 (show aj_ cod T n 9 [a4] from g4)
    simp only [List.cons.injEq,and_true] at e4
    obtain rfl:=e0
    obtain rfl:=e1
    obtain rfl:=e2
    obtain rfl:=e3
    obtain rfl:=e4
    exact ⟨⟨x0,x1,x2,x3,x4⟩,rfl,w0,w1,w2,w3,w4⟩
theorem Gp_ {n:Nat} {avs:List V} (h:aj_ cod T n 75 avs):∃x:ad_,avs=[.lit (.int .i64 x.Kind), .lit (.int .i64 x.From), .lit (.int .i64 x.Mine), .lit (.int .i64 x.Yours), .lit (.int .i64 x.Next), .lit (.int .i64 x.Mask), .lit (.int .i64 x.Seq), .lit (.bool x.Last), .lit (.string x.Part)]∧zj_ x:=by
  cases n with
  | zero=>exact h.elim
  | succ n=>
    obtain ⟨hl,hf⟩:=(h:avs.length=9∧∀f∈([(0,3),(1,3),(2,3),(3,3),(4,3),(5,3),(6,3),(7,4),(8,9)]:List (Nat×TypeId)),∃tf,T f.2=some tf∧aj_ cod T n f.2 ((avs.drop f.1).take tf.size))
    obtain ⟨a0,a1,a2,a3,a4,a5,a6,a7,a8,rfl⟩:=Fk_ hl
    obtain ⟨t0,ht0,g0⟩:=hf (0,3) (by simp)
    obtain rfl:=Option.some.inj ht0
    obtain ⟨x0,e0,w0⟩:=sh3 (show aj_ cod T n 3 [a0] from g0)
    simp only [List.cons.injEq,and_true] at e0
    obtain ⟨t1,ht1,g1⟩:=hf (1,3) (by simp)
    obtain rfl:=Option.some.inj ht1
    obtain ⟨x1,e1,w1⟩:=sh3 (show aj_ cod T n 3 [a1] from g1)
    simp only [List.cons.injEq,and_true] at e1
    obtain ⟨t2,ht2,g2⟩:=hf (2,3) (by simp)
    obtain rfl:=Option.some.inj ht2
    obtain ⟨x2,e2,w2⟩:=sh3 (show aj_ cod T n 3 [a2] from g2)
    simp only [List.cons.injEq,and_true] at e2
    obtain ⟨t3,ht3,g3⟩:=hf (3,3) (by simp)
    obtain rfl:=Option.some.inj ht3
    obtain ⟨x3,e3,w3⟩:=sh3 (show aj_ cod T n 3 [a3] from g3)
    simp only [List.cons.injEq,and_true] at e3
    obtain ⟨t4,ht4,g4⟩:=hf (4,3) (by simp)
    obtain rfl:=Option.some.inj ht4
    obtain ⟨x4,e4,w4⟩:=sh3 (show aj_ cod T n 3 [a4] from g4)
    simp only [List.cons.injEq,and_true] at e4
    obtain ⟨t5,ht5,g5⟩:=hf (5,3) (by simp)
    obtain rfl:=Option.some.inj ht5
    obtain ⟨x5,e5,w5⟩:=sh3 (show aj_ cod T n 3 [a5] from g5)
    simp only [List.cons.injEq,and_true] at e5
    obtain ⟨t6,ht6,g6⟩:=hf (6,3) (by simp)
    obtain rfl:=Option.some.inj ht6
    obtain ⟨x6,e6,w6⟩:=sh3 (show aj_ cod T n 3 [a6] from g6)
    simp only [List.cons.injEq,and_true] at e6
    obtain ⟨t7,ht7,g7⟩:=hf (7,4) (by simp)
    obtain rfl:=Option.some.inj ht7
    obtain ⟨x7,e7,w7⟩:=sh4 (show aj_ cod T n 4 [a7] from g7)
    simp only [List.cons.injEq,and_true] at e7
    obtain ⟨t8,ht8,g8⟩:=hf (8,9) (by simp)
    obtain rfl:=Option.some.inj ht8
    obtain ⟨x8,e8,w8⟩:=sh9 (show aj_ cod T n 9 [a8] from g8)
    simp only [List.cons.injEq,and_true] at e8
    obtain rfl:=e0
    obtain rfl:=e1
    obtain rfl:=e2
    obtain rfl:=e3
    obtain rfl:=e4
    obtain rfl:=e5
    obtain rfl:=e6
    obtain rfl:=e7
    obtain rfl:=e8
    exact ⟨⟨x0,x1,x2,x3,x4,x5,x6,x7,x8⟩,rfl,w0,w1,w2,w3,w4,w5,w6,w7,w8⟩
theorem FL_ {n:Nat} {avs:List V} (h:aj_ cod T n 150 avs):∃x:sJ_,avs=[.lit (.int .i64 x.to), .lit (.string x.bytes), .lit (.int .i64 x.n)]∧xH_ x:=by
  cases n with
  | zero=>exact h.elim
  | succ n=>
    obtain ⟨hl,hf⟩:=(h:avs.length=3∧∀f∈([(0,3),(1,9),(2,3)]:List (Nat×TypeId)),∃tf,T f.2=some tf∧aj_ cod T n f.2 ((avs.drop f.1).take tf.size))
    obtain ⟨a0,a1,a2,rfl⟩:=yV_ hl
    obtain ⟨t0,ht0,g0⟩:=hf (0,3) (by simp)
    obtain rfl:=Option.some.inj ht0
    obtain ⟨x0,e0,w0⟩:=sh3 (show aj_ cod T n 3 [a0] from g0)
    simp only [List.cons.injEq,and_true] at e0
    obtain ⟨t1,ht1,g1⟩:=hf (1,9) (by simp)
    obtain rfl:=Option.some.inj ht1
    obtain ⟨x1,e1,w1⟩:=sh9 (show aj_ cod T n 9 [a1] from g1)
    simp only [List.cons.injEq,and_true] at e1
    obtain ⟨t2,ht2,g2⟩:=hf (2,3) (by simp)
    obtain rfl:=Option.some.inj ht2
    obtain ⟨x2,e2,w2⟩:=sh3 (show aj_ cod T n 3 [a2] from g2)
    simp only [List.cons.injEq,and_true] at e2
    obtain rfl:=e0
    obtain rfl:=e1
    obtain rfl:=e2
    exact ⟨⟨x0,x1,x2⟩,rfl,w0,w1,w2⟩
def CI_ (e:Nat×TI K TyK):Prop:=∀e2 s n avs,e.2.shp= .slice e2 s→cod.bor s=false→aj_ cod T n e2 avs→∃x,cod.enc s x=avs
theorem A9_:∀e∈tbl,CI_ e:=
  all_cons (fun e s n avs h hb=>by cases h) (
  all_cons (fun e s n avs h hb=>by cases h) (
  all_cons (fun e s n avs h hb=>by cases h) (
  all_cons (fun e s n avs h hb=>by cases h) (
  all_cons (fun e s n avs h hb=>by cases h) (
  all_cons (fun e s n avs h hb=>by cases h) (
  all_cons (fun e s n avs h hb=>by cases h) (
  all_cons (fun e s n avs h hb hs=>by cases h;obtain ⟨x,hx,_⟩:=sh5 hs;exact ⟨x,hx.symm⟩) (
  all_cons (fun e s n avs h hb hs=>by cases h;obtain ⟨x,hx,_⟩:=Gc_ hs;exact ⟨x,hx.symm⟩) (
  all_cons (fun e s n avs h hb hs=>by cases h;obtain ⟨x,hx,_⟩:=Gg_ hs;exact ⟨x,hx.symm⟩) (
  all_cons (fun e s n avs h hb hs=>by cases h;obtain ⟨x,hx,_⟩:=Gl_ hs;exact ⟨x,hx.symm⟩) (
  all_cons (fun e s n avs h hb=>by cases h) (
  all_cons (fun e s n avs h hb hs=>by cases h;obtain ⟨x,hx,_⟩:=F5_ hs;exact ⟨x,hx.symm⟩) (
  all_cons (fun e s n avs h hb=>by cases h) (
  all_cons (fun e s n avs h hb hs=>by cases h;obtain ⟨x,hx,_⟩:=Dz_ hs;exact ⟨x,hx.symm⟩) (
  all_cons (fun e s n avs h hb hs=>by cases h;obtain ⟨x,hx,_⟩:=DW_ hs;exact ⟨x,hx.symm⟩) (
  all_cons (fun e s n avs h hb hs=>by cases h;obtain ⟨x,hx,_⟩:=Eq_ hs;exact ⟨x,hx.symm⟩) (
  all_cons (fun e s n avs h hb=>by cases h) (
  all_cons (fun e s n avs h hb=>by cases h) (
  all_cons (fun e s n avs h hb hs=>by cases h;obtain ⟨x,hx,_⟩:=Ek_ hs;exact ⟨x,hx.symm⟩) (
  all_cons (fun e s n avs h hb=>by cases h) (
  all_cons (fun e s n avs h hb hs=>by cases h;obtain ⟨x,hx,_⟩:=Eu_ hs;exact ⟨x,hx.symm⟩) (
  all_cons (fun e s n avs h hb hs=>by cases h;obtain ⟨x,hx,_⟩:=sh9 hs;exact ⟨x,hx.symm⟩) (
  all_cons (fun e s n avs h hb=>by cases h) (
  all_cons (fun e s n avs h hb=>by cases h) (
  all_cons (fun e s n avs h hb=>by cases h) (
  all_cons (fun e s n avs h hb=>by cases h) (
  all_cons (fun e s n avs h hb=>by cases h) (
  all_cons (fun e s n avs h hb hs=>by cases h;obtain ⟨x,hx,_⟩:=Gp_ hs;exact ⟨x,hx.symm⟩) (
  all_cons (fun e s n avs h hb=>by cases h) (
  all_cons (fun e s n avs h hb=>by cases h) (
  all_cons (fun e s n avs h hb=>by cases h) (
  all_cons (fun e s n avs h hb=>by cases h) (
  all_cons (fun e s n avs h hb=>by cases h) (
  all_cons (fun e s n avs h hb hs=>by cases h;obtain ⟨x,hx,_⟩:=FL_ hs;exact ⟨x,hx.symm⟩) (
  all_cons (fun e s n avs h hb=>by cases h) (
  all_cons (fun e s n avs h hb=>by cases h) (
  all_cons (fun e s n avs h hb hs=>by cases h;obtain ⟨x,hx,_⟩:=sh3 hs;exact ⟨x,hx.symm⟩) (
  all_cons (fun e s n avs h hb=>by cases h) (
  all_cons (fun e s n avs h hb=>by cases h;cases hb) (
  all_cons (fun e s n avs h hb=>by cases h) (
  all_cons (fun e s n avs h hb hs=>by cases h;obtain ⟨x,hx,_⟩:=Ej_ hs;exact ⟨x,hx.symm⟩) (
  all_cons (fun e s n avs h hb=>by cases h) (
  all_cons (fun e s n avs h hb hs=>by cases h;obtain ⟨x,hx,_⟩:=DY_ hs;exact ⟨x,hx.symm⟩) (
  all_cons (fun e s n avs h hb=>by cases h) (
  all_cons (fun e s n avs h hb=>by cases h) (
  all_cons (fun e s n avs h hb=>by cases h) (
  all_cons (fun e s n avs h hb=>by cases h) (
  all_cons (fun e s n avs h hb=>by cases h) (
  all_cons (fun e s n avs h hb=>by cases h) (
  all_cons (fun e s n avs h hb=>by cases h) (
  all_cons (fun e s n avs h hb=>by cases h) (
  all_cons (fun e s n avs h hb hs=>by cases h;obtain ⟨x,hx,_⟩:=Ch_ hs;exact ⟨x,hx.symm⟩) (
  all_cons (fun e s n avs h hb=>by cases h) (
  all_cons (fun e s n avs h hb=>by cases h) (
  all_cons (fun e s n avs h hb=>by cases h) (
  all_cons (fun e s n avs h hb=>by cases h) (
  all_cons (fun e s n avs h hb=>by cases h) (
  all_cons (fun e s n avs h hb=>by cases h) (
  all_cons (fun e s n avs h hb=>by cases h) (
  all_cons (fun e s n avs h hb=>by cases h) (
  all_cons (fun e s n avs h hb=>by cases h) (
  all_cons (fun e s n avs h hb=>by cases h) (aa_)))))))))))))))))))))))))))))))))))))))))))))))))))))))))))))))
theorem fullC:FullC cod T:=FullC.of (by kernel_rfl) (fun e he=>A9_ e he) (fun s=>by cases s<;>decide) trivial
end Km.X
