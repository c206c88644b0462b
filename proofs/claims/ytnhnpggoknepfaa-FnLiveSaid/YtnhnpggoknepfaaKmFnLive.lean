/- A part of the proof of FnLive: each function does what its reading says. There is no condition. -/
import Derived.Test.YtnhnpggoknepfaaKmSeat
import Derived.Test.YtnhnpggoknepfaaKxDef2
namespace Km.X
open Go Km Go.Proofs
set_option linter.unusedVariables false
set_option maxRecDepth 100000
set_option maxHeartbeats 4000000
noncomputable def bl_ (k:Nat):a3_ K TyK:=sm cod (Bool) [.bo, .bo, .bo] [.c (.i .i64), .c (.i .i64), .c (.i .i64)] [] (ax_) k [.c (.b)] [] (fun r=>(r,())) (fun v1=>v1) true
theorem a9_ (k:Nat):SummOk Try.prog cod 89 (bl_ k):=aE_ codOk Try.f89 (fun k=>ay_ []) [] false [.tmp 6] 0 [] aF_ Try.func89 (by kernel_rfl) (by kernel_rfl) (by kernel_rfl) (by kernel_rfl)
  (fun k=>Known.of tok eok codOk (ac_))
  (fun k=>QuietOk.of (ac_))
  (fun a=>rfl)
  (ac_)
  (fun k=>by (repeat intro _);show _=_;kernel_rfl)
noncomputable def dO_ (k:Nat):a3_ K TyK:=sm cod (Bool) [.bo] [.g [.i .i64, .l true .item]] [] (fun k v1 v2=>bD_ k (⟨v1,v2⟩:ak_)) k [.c (.b)] [] (fun r=>(r,())) (fun v1=>v1) true
noncomputable abbrev nm_:List (Nat×Cut K TyK (Bool)):=[(4,ct cod [1,3] [.c (.r 0 0), .c (.i .i64)] [.x [.i .i64, .l true .item]] aM_)]
theorem ew_ (k:Nat):SummOk Try.prog cod 105 (dO_ k):=aE_ codOk Try.f105 (fun k=>ay_ [(89,bl_ k)]) nm_ false [.tmp 2] 0 [] aF_ Try.func105 (by kernel_rfl) (by kernel_rfl) (by kernel_rfl) (by kernel_rfl)
  (fun k=>Known.of tok eok codOk (all_cons (a9_ k) (ac_)))
  (fun k=>QuietOk.of (all_cons (fun h r=>⟨rfl,rfl⟩) (ac_)))
  (fun a=>rfl)
  (all_cons (ao_ codOk (by kernel_rfl) (by (repeat intro _);show _=_;kernel_rfl) (fun k=>by (repeat intro _);show _=_;kernel_rfl)) (ac_))
  (fun k=>by (repeat intro _);show _=_;kernel_rfl)
noncomputable def iA_ (k:Nat):a3_ K TyK:=sm cod (Bool) [.bo, .bo] [.g [.i .i64, .l true .held, .s, .l true .str], .c (.i .i64)] [] (fun k v1 v2 v3 v4 v5=>g6_ k (⟨v1,v2,v3,v4⟩:ai_) v5) k [.c (.b)] [] (fun r=>(r,())) (fun v1=>v1) true
theorem ke_ (k:Nat):SummOk Try.prog cod 121 (iA_ k):=aE_ codOk Try.f121 (fun k=>ay_ [(89,bl_ k)]) [] false [.tmp 4] 0 [] aF_ Try.func121 (by kernel_rfl) (by kernel_rfl) (by kernel_rfl) (by kernel_rfl)
  (fun k=>Known.of tok eok codOk (all_cons (a9_ k) (ac_)))
  (fun k=>QuietOk.of (all_cons (fun h r=>⟨rfl,rfl⟩) (ac_)))
  (fun a=>rfl)
  (ac_)
  (fun k=>by (repeat intro _);show _=_;kernel_rfl)
noncomputable def i6_ (k:Nat):a3_ K TyK:=sm cod (Bool) [.bo, .bo] [.g [.i .i64, .l true .held, .s, .l true .str], .g [.s, .b]] [] (fun k v1 v2 v3 v4 v5 v6=>e9_ k (⟨v1,v2,v3,v4⟩:ai_) (⟨v5,v6⟩:az_)) k [.c (.b)] [] (fun r=>(r,())) (fun v1=>v1) true
theorem lo_ (k:Nat):SummOk Try.prog cod 157 (i6_ k):=aE_ codOk Try.f157 (fun k=>ay_ []) [] false [.tmp 4] 0 [] aF_ Try.func157 (by kernel_rfl) (by kernel_rfl) (by kernel_rfl) (by kernel_rfl)
  (fun k=>Known.of tok eok codOk (ac_))
  (fun k=>QuietOk.of (ac_))
  (fun a=>rfl)
  (ac_)
  (fun k=>by (repeat intro _);show _=_;kernel_rfl)
noncomputable def dE_ (k:Nat):a3_ K TyK:=sm cod (Bool) [.bo] [.g [.i .i64, .l true .held, .s, .l true .str]] [] (fun k v1 v2 v3 v4=>cZ_ k (⟨v1,v2,v3,v4⟩:ai_)) k [.c (.b)] [] (fun r=>(r,())) (fun v1=>v1) true
noncomputable abbrev ns_:List (Nat×Cut K TyK (Bool)):=[(4,ct cod [1,3] [.c (.r 0 0), .c (.i .i64)] [.x [.i .i64, .l true .held, .s, .l true .str]] cu_),
  (9,ct cod [1,4] [.c (.r 0 0), .c (.i .i64)] [.x [.i .i64, .l true .held, .s, .l true .str]] aK_)]
theorem eu_ (k:Nat):SummOk Try.prog cod 106 (dE_ k):=aE_ codOk Try.f106 (fun k=>ay_ [(89,bl_ k),(121,iA_ k),(157,i6_ k)]) ns_ false [.tmp 2] 0 [] aF_ Try.func106 (by kernel_rfl) (by kernel_rfl) (by kernel_rfl) (by kernel_rfl)
  (fun k=>Known.of tok eok codOk (all_cons (a9_ k) (all_cons (ke_ k) (all_cons (lo_ k) (ac_)))))
  (fun k=>QuietOk.of (all_cons (fun h r=>⟨rfl,rfl⟩) (all_cons (fun h r=>⟨rfl,rfl⟩) (all_cons (fun h r=>⟨rfl,rfl⟩) (ac_)))))
  (fun a=>rfl)
  (all_cons (ao_ codOk (by kernel_rfl) (by (repeat intro _);show _=_;kernel_rfl) (fun k=>by (repeat intro _);show _=_;kernel_rfl)) (all_cons (ao_ codOk (by kernel_rfl) (by (repeat intro _);show _=_;kernel_rfl) (fun k=>by (repeat intro _);show _=_;kernel_rfl)) (ac_)))
  (fun k=>by (repeat intro _);show _=_;kernel_rfl)
noncomputable def jE_ (k:Nat):a3_ K TyK:=sm cod (Bool) [.bo] [.g [.i .i64, .l true .item]] [] (fun k v1 v2=>gu_ k (⟨v1,v2⟩:ak_)) k [.c (.b)] [] (fun r=>(r,())) (fun v1=>v1) true
theorem nH_ (k:Nat):SummOk Try.prog cod 107 (jE_ k):=aE_ codOk Try.f107 (fun k=>ay_ []) [] false [.tmp 2] 0 [] aF_ Try.func107 (by kernel_rfl) (by kernel_rfl) (by kernel_rfl) (by kernel_rfl)
  (fun k=>Known.of tok eok codOk (ac_))
  (fun k=>QuietOk.of (ac_))
  (fun a=>rfl)
  (ac_)
  (fun k=>by (repeat intro _);show _=_;kernel_rfl)
noncomputable def i4_ (k:Nat):a3_ K TyK:=sm cod (Bool) [.bo] [.g [.i .i64, .l true .held, .s, .l true .str]] [] (fun k v1 v2 v3 v4=>gw_ k (⟨v1,v2,v3,v4⟩:ai_)) k [.c (.b)] [] (fun r=>(r,())) (fun v1=>v1) true
theorem nA_ (k:Nat):SummOk Try.prog cod 108 (i4_ k):=aE_ codOk Try.f108 (fun k=>ay_ []) [] false [.tmp 2] 0 [] aF_ Try.func108 (by kernel_rfl) (by kernel_rfl) (by kernel_rfl) (by kernel_rfl)
  (fun k=>Known.of tok eok codOk (ac_))
  (fun k=>QuietOk.of (ac_))
  (fun a=>rfl)
  (ac_)
  (fun k=>by (repeat intro _);show _=_;kernel_rfl)
noncomputable def bW_ (k:Nat):a3_ K TyK:=sm cod (Bool) [.bo] [.g [.i .i64, .b, .i .i64, .i .i64, .i .i64, .b, .i .i64, .l true .item, .i .i64, .l true .held, .s, .l true .str]] [] (fun k v1 v2 v3 v4 v5 v6 v7 v8 v9 v10 v11 v12=>bS_ k (⟨v1,v2,v3,v4,v5,v6,(⟨v7,v8⟩:ak_),(⟨v9,v10,v11,v12⟩:ai_)⟩:am_)) k [.c (.b)] [] (fun r=>(r,())) (fun v1=>v1) true
theorem cd_ (k:Nat):SummOk Try.prog cod 45 (bW_ k):=aE_ codOk Try.f45 (fun k=>ay_ [(89,bl_ k),(105,dO_ k),(106,dE_ k),(107,jE_ k),(108,i4_ k)]) [] false [.tmp 2] 0 [] aF_ Try.func45 (by kernel_rfl) (by kernel_rfl) (by kernel_rfl) (by kernel_rfl)
  (fun k=>Known.of tok eok codOk (all_cons (a9_ k) (all_cons (ew_ k) (all_cons (eu_ k) (all_cons (nH_ k) (all_cons (nA_ k) (ac_)))))))
  (fun k=>QuietOk.of (all_cons (fun h r=>⟨rfl,rfl⟩) (all_cons (fun h r=>⟨rfl,rfl⟩) (all_cons (fun h r=>⟨rfl,rfl⟩) (all_cons (fun h r=>⟨rfl,rfl⟩) (all_cons (fun h r=>⟨rfl,rfl⟩) (ac_)))))))
  (fun a=>rfl)
  (ac_)
  (fun k=>by (repeat intro _);show _=_;kernel_rfl)
noncomputable def fC_ (k:Nat):a3_ K TyK:=sm cod (ak_) [.bo] [.g [.i .i64, .l true .item]] [] (fun k v1 v2=>ee_ k (⟨v1,v2⟩:ak_)) k [.g [.i .i64, .o 0]] [.l .item] (fun r=>(r.Base,(),r.Items,())) (fun v1 v2=>(⟨v1,v2⟩:ak_)) false
theorem f6_ (k:Nat):SummOk Try.prog cod 118 (fC_ k):=aE_ codOk Try.f118 (fun k=>ay_ []) [] false [.cell 2 37] 0 [] aF_ Try.func118 (by kernel_rfl) (by kernel_rfl) (by kernel_rfl) (by kernel_rfl)
  (fun k=>Known.of tok eok codOk (ac_))
  (fun k=>QuietOk.of (ac_))
  (fun a=>rfl)
  (ac_)
  (fun k=>by (repeat intro _);show _=_;kernel_rfl)
noncomputable def gE_ (k:Nat):a3_ K TyK:=sm cod (ai_) [.bo] [.g [.i .i64, .l true .held, .s, .l true .str]] [] (fun k v1 v2 v3 v4=>e2_ k (⟨v1,v2,v3,v4⟩:ai_)) k [.g [.i .i64, .o 0, .s, .o 1]] [.l .held, .l .str] (fun r=>(r.Next,(),r.Open,(),r.Held,r.Ready,())) (fun v1 v2 v3 v4=>(⟨v1,v3,v2,v4⟩:ai_)) false
theorem hJ_ (k:Nat):SummOk Try.prog cod 119 (gE_ k):=aE_ codOk Try.f119 (fun k=>ay_ []) [] false [.cell 2 40] 0 [] aF_ Try.func119 (by kernel_rfl) (by kernel_rfl) (by kernel_rfl) (by kernel_rfl)
  (fun k=>Known.of tok eok codOk (ac_))
  (fun k=>QuietOk.of (ac_))
  (fun a=>rfl)
  (ac_)
  (fun k=>by (repeat intro _);show _=_;kernel_rfl)
noncomputable def dq_ (k:Nat):a3_ K TyK:=sm cod (am_) [.bo] [.g [.i .i64, .b, .i .i64, .i .i64, .i .i64, .b, .i .i64, .l true .item, .i .i64, .l true .held, .s, .l true .str]] [] (fun k v1 v2 v3 v4 v5 v6 v7 v8 v9 v10 v11 v12=>c0_ k (⟨v1,v2,v3,v4,v5,v6,(⟨v7,v8⟩:ak_),(⟨v9,v10,v11,v12⟩:ai_)⟩:am_)) k [.g [.i .i64, .b, .i .i64, .i .i64, .i .i64, .b, .i .i64, .o 0, .i .i64, .o 1, .s, .o 2]] [.l .item, .l .held, .l .str] (fun r=>(r.Number,r.Up,r.Life,r.Peer,r.Since,r.Owes,r.Send.Base,(),r.Take.Next,(),r.Take.Open,(),r.Send.Items,r.Take.Held,r.Take.Ready,())) (fun v1 v2 v3 v4 v5 v6 v7 v8 v9 v10 v11 v12=>(⟨v1,v2,v3,v4,v5,v6,(⟨v7,v10⟩:ak_),(⟨v8,v11,v9,v12⟩:ai_)⟩:am_)) false
theorem dP_ (k:Nat):SummOk Try.prog cod 52 (dq_ k):=aE_ codOk Try.f52 (fun k=>ay_ [(118,fC_ k),(119,gE_ k)]) [] false [.cell 2 42] 0 [] aF_ Try.func52 (by kernel_rfl) (by kernel_rfl) (by kernel_rfl) (by kernel_rfl)
  (fun k=>Known.of tok eok codOk (all_cons (f6_ k) (all_cons (hJ_ k) (ac_))))
  (fun k=>QuietOk.of (all_cons (fun h r=>by cases h) (all_cons (fun h r=>by cases h) (ac_))))
  (fun a=>rfl)
  (ac_)
  (fun k=>by (repeat intro _);show _=_;kernel_rfl)
noncomputable def kP_ (k:Nat):a3_ K TyK:=sm cod (Bool) [.bo] [.g [.i .i64, .i .i64, .i .i64, .i .i64, .i .i64, .i .i64, .i .i64, .b, .s]] [] (fun k v1 v2 v3 v4 v5 v6 v7 v8 v9=>gh_ k (⟨v1,v2,v3,v4,v5,v6,v7,v8,v9⟩:ae_)) k [.c (.b)] [] (fun r=>(r,())) (fun v1=>v1) true
theorem mP_ (k:Nat):SummOk Try.prog cod 53 (kP_ k):=aE_ codOk Try.f53 (fun k=>ay_ [(89,bl_ k)]) [] false [.tmp 2] 0 [] aF_ Try.func53 (by kernel_rfl) (by kernel_rfl) (by kernel_rfl) (by kernel_rfl)
  (fun k=>Known.of tok eok codOk (all_cons (a9_ k) (ac_)))
  (fun k=>QuietOk.of (all_cons (fun h r=>⟨rfl,rfl⟩) (ac_)))
  (fun a=>rfl)
  (ac_)
  (fun k=>by (repeat intro _);show _=_;kernel_rfl)
noncomputable def kl_ (k:Nat):a3_ K TyK:=sm cod (Int) [.bo] [.g [.i .i64, .l true .item]] [] (fun k v1 v2=>mN_ k (⟨v1,v2⟩:ak_)) k [.c (.i .i64)] [] (fun r=>(r,())) (fun v1=>v1) true
noncomputable abbrev qx_:List (Nat×Cut K TyK (Int)):=[(2,ct cod [1,3] [.c (.r 0 0), .c (.i .i64)] [.x [.i .i64, .l true .item]] dh_)]
theorem p0_ (k:Nat):SummOk Try.prog cod 120 (kl_ k):=aE_ codOk Try.f120 (fun k=>ay_ []) qx_ false [.tmp 2] 0 [] aF_ Try.func120 (by kernel_rfl) (by kernel_rfl) (by kernel_rfl) (by kernel_rfl)
  (fun k=>Known.of tok eok codOk (ac_))
  (fun k=>QuietOk.of (ac_))
  (fun a=>rfl)
  (all_cons (ao_ codOk (by kernel_rfl) (by (repeat intro _);show _=_;kernel_rfl) (fun k=>by (repeat intro _);show _=_;kernel_rfl)) (ac_))
  (fun k=>by (repeat intro _);show _=_;kernel_rfl)
noncomputable def ji_ (k:Nat):a3_ K TyK:=sm cod (ak_) [.bo, .bo, .bo] [.g [.i .i64, .l true .item], .c (.i .i64), .c (.i .i64)] [] (fun k v1 v2 v3 v4=>ft_ k (⟨v1,v2⟩:ak_) v3 v4) k [.g [.i .i64, .o 0]] [.l .item] (fun r=>(r.Base,(),r.Items,())) (fun v1 v2=>(⟨v1,v2⟩:ak_)) false
noncomputable abbrev pY_:List (Nat×Cut K TyK (ak_)):=[(9,ct cod [2,6,7,8] [.c (.i .i64), .c (.r 0 0), .c (.r 1 0), .c (.i .i64)] [.x [.i .i64, .o 2], .x [.i .i64, .o 3], .l .item, .l .item] bt_),
  (13,ct cod [2,6,7,8] [.c (.i .i64), .c (.r 0 0), .c (.r 1 0), .c (.i .i64)] [.x [.i .i64, .o 2], .x [.i .i64, .o 3], .l .item, .l .item] bh_)]
theorem nk_ (k:Nat):SummOk Try.prog cod 54 (ji_ k):=aE_ codOk Try.f54 (fun k=>ay_ [(105,dO_ k),(118,fC_ k),(120,kl_ k),(89,bl_ k)]) pY_ false [.cell 6 37] 0 [] aF_ Try.func54 (by kernel_rfl) (by kernel_rfl) (by kernel_rfl) (by kernel_rfl)
  (fun k=>Known.of tok eok codOk (all_cons (ew_ k) (all_cons (f6_ k) (all_cons (p0_ k) (all_cons (a9_ k) (ac_))))))
  (fun k=>QuietOk.of (all_cons (fun h r=>⟨rfl,rfl⟩) (all_cons (fun h r=>by cases h) (all_cons (fun h r=>⟨rfl,rfl⟩) (all_cons (fun h r=>⟨rfl,rfl⟩) (ac_))))))
  (fun a=>rfl)
  (all_cons (ao_ codOk (by kernel_rfl) (by (repeat intro _);show _=_;kernel_rfl) (fun k=>by (repeat intro _);show _=_;kernel_rfl)) (all_cons (ao_ codOk (by kernel_rfl) (by (repeat intro _);show _=_;kernel_rfl) (fun k=>by (repeat intro _);show _=_;kernel_rfl)) (ac_)))
  (fun k=>by (repeat intro _);show _=_;kernel_rfl)
noncomputable def kX_ (k:Nat):a3_ K TyK:=sm cod (ai_) [.mv] [.g [.i .i64, .o 0, .s, .o 1]] [.l .held, .l .str] (fun k v1 v2 v3 v4=>i2_ k (⟨v1,v3,v2,v4⟩:ai_)) k [.g [.i .i64, .o 2, .s, .o 3]] [.d, .d, .l .held, .l .str] (fun r=>(r.Next,(),r.Open,(),r.Held,r.Ready,())) (fun v1 v2 v3 v4=>(⟨v1,v3,v2,v4⟩:ai_)) false
noncomputable abbrev vo_:List (Nat×Cut K TyK (ai_)):=[(1,ct cod [1,2] [.c (.r 2 0), .c (.r 3 0)] [.d, .d, .x [.i .i64, .o 4, .s, .o 5], .x [.i .i64, .o 6, .s, .o 7], .l .held, .l .str, .l .held, .l .str] cT_)]
theorem m8_ (k:Nat):SummOk Try.prog cod 122 (kX_ k):=aE_ codOk Try.f122 (fun k=>ay_ [(157,i6_ k)]) vo_ false [.cell 2 40] 2 [true,true] aF_ Try.func122 (by kernel_rfl) (by kernel_rfl) (by kernel_rfl) (by kernel_rfl)
  (fun k=>Known.of tok eok codOk (all_cons (lo_ k) (ac_)))
  (fun k=>QuietOk.of (all_cons (fun h r=>⟨rfl,rfl⟩) (ac_)))
  (fun a=>rfl)
  (all_cons (ao_ codOk (by kernel_rfl) (by (repeat intro _);show _=_;kernel_rfl) (fun k=>by (repeat intro _);show _=_;kernel_rfl)) (ac_))
  (fun k=>by (repeat intro _);show _=_;kernel_rfl)
noncomputable def iZ_ (k:Nat):a3_ K TyK:=sm cod (ai_) [.bo, .bo, .bo] [.g [.i .i64, .l true .held, .s, .l true .str], .c (.i .i64), .g [.s, .b]] [] (fun k v1 v2 v3 v4 v5 v6 v7=>fv_ k (⟨v1,v2,v3,v4⟩:ai_) v5 (⟨v6,v7⟩:az_)) k [.g [.i .i64, .o 0, .s, .o 1]] [.l .held, .l .str] (fun r=>(r.Next,(),r.Open,(),r.Held,r.Ready,())) (fun v1 v2 v3 v4=>(⟨v1,v3,v2,v4⟩:ai_)) false
noncomputable abbrev oC_:List (Nat×Cut K TyK (ai_)):=[(9,ct cod [1,3,5,6,7,8,9,10] [.c (.i .i64), .c (.r 0 0), .c (.r 1 0), .c (.r 2 0), .c (.r 3 0), .c (.o 4), .c (.b), .c (.i .i64)] [.x [.i .i64, .l true .held, .s, .l true .str], .x [.s, .b], .x [.i .i64, .o 5, .s, .o 6], .x [.i .i64, .o 7, .s, .o 8], .l .held, .l .held, .l .str, .l .held, .l .str] bu_),
  (16,ct cod [1,3,5,6,7,8,9,10] [.c (.i .i64), .c (.r 0 0), .c (.r 1 0), .c (.r 2 0), .c (.r 3 0), .c (.o 4), .c (.b), .c (.i .i64)] [.x [.i .i64, .l true .held, .s, .l true .str], .x [.s, .b], .x [.i .i64, .o 5, .s, .o 6], .x [.i .i64, .o 7, .s, .o 8], .l .held, .l .held, .l .str, .l .held, .l .str] bK_),
  (19,ct cod [6,7,8] [.c (.r 0 0), .c (.r 1 0), .c (.o 2)] [.x [.i .i64, .o 3, .s, .o 4], .x [.i .i64, .o 5, .s, .o 6], .l .held, .l .held, .l .str, .l .held, .l .str] c9_)]
theorem nz_ (k:Nat):SummOk Try.prog cod 55 (iZ_ k):=aE_ codOk Try.f55 (fun k=>ay_ [(106,dE_ k),(119,gE_ k),(121,iA_ k),(122,kX_ k)]) oC_ false [.cell 6 40] 0 [] aF_ Try.func55 (by kernel_rfl) (by kernel_rfl) (by kernel_rfl) (by kernel_rfl)
  (fun k=>Known.of tok eok codOk (all_cons (eu_ k) (all_cons (hJ_ k) (all_cons (ke_ k) (all_cons (m8_ k) (ac_))))))
  (fun k=>QuietOk.of (all_cons (fun h r=>⟨rfl,rfl⟩) (all_cons (fun h r=>by cases h) (all_cons (fun h r=>⟨rfl,rfl⟩) (all_cons (fun h r=>by cases h) (ac_))))))
  (fun a=>rfl)
  (all_cons (ao_ codOk (by kernel_rfl) (by (repeat intro _);show _=_;kernel_rfl) (fun k=>by (repeat intro _);show _=_;kernel_rfl)) (all_cons (ao_ codOk (by kernel_rfl) (by (repeat intro _);show _=_;kernel_rfl) (fun k=>by (repeat intro _);show _=_;kernel_rfl)) (all_cons (ao_ codOk (by kernel_rfl) (by (repeat intro _);show _=_;kernel_rfl) (fun k=>by (repeat intro _);show _=_;kernel_rfl)) (ac_))))
  (fun k=>by (repeat intro _);show _=_;kernel_rfl)
noncomputable def km_ (k:Nat):a3_ K TyK:=sm cod (aw_) [.bo, .bo] [.g [.i .i64, .b, .i .i64, .i .i64, .i .i64, .b, .i .i64, .l true .item, .i .i64, .l true .held, .s, .l true .str], .g [.i .i64, .i .i64, .i .i64, .i .i64, .i .i64, .i .i64, .i .i64, .b, .s]] [] (fun k v1 v2 v3 v4 v5 v6 v7 v8 v9 v10 v11 v12 v13 v14 v15 v16 v17 v18 v19 v20 v21=>hf_ k (⟨v1,v2,v3,v4,v5,v6,(⟨v7,v8⟩:ak_),(⟨v9,v10,v11,v12⟩:ai_)⟩:am_) (⟨v13,v14,v15,v16,v17,v18,v19,v20,v21⟩:ae_)) k [.g [.i .i64, .i .i64, .b, .i .i64, .i .i64, .i .i64, .b, .i .i64, .o 0, .i .i64, .o 1, .s, .o 2, .o 3, .s]] [.l .item, .l .held, .l .str, .l .packet] (fun r=>(r.Code,r.End.Number,r.End.Up,r.End.Life,r.End.Peer,r.End.Since,r.End.Owes,r.End.Send.Base,(),r.End.Take.Next,(),r.End.Take.Open,(),(),r.Text,r.End.Send.Items,r.End.Take.Held,r.End.Take.Ready,r.Out,())) (fun v1 v2 v3 v4 v5 v6 v7 v8 v9 v10 v11 v12 v13 v14 v15=>(⟨v1,(⟨v2,v3,v4,v5,v6,v7,(⟨v8,v12⟩:ak_),(⟨v9,v13,v10,v14⟩:ai_)⟩:am_),v15,v11⟩:aw_)) false
noncomputable abbrev qv_:List (Nat×Cut K TyK (aw_)):=[(11,ct cod [3,4,5] [.c (.r 0 0), .c (.r 1 0), .c (.r 2 0)] [.x [.i .i64, .i .i64, .i .i64, .i .i64, .i .i64, .i .i64, .i .i64, .b, .s], .x [.i .i64, .i .i64, .b, .i .i64, .i .i64, .i .i64, .b, .i .i64, .o 3, .i .i64, .o 4, .s, .o 5, .o 6, .s], .x [.i .i64, .b, .i .i64, .i .i64, .i .i64, .b, .i .i64, .o 7, .i .i64, .o 8, .s, .o 9], .l .item, .l .held, .l .str, .l .packet, .l .item, .l .held, .l .str] dD_)]
theorem pJ_ (k:Nat):SummOk Try.prog cod 12 (km_ k):=aE_ codOk Try.f12 (fun k=>ay_ [(45,bW_ k),(52,dq_ k),(53,kP_ k),(54,ji_ k),(55,iZ_ k)]) qv_ false [.cell 4 45] 0 [] aF_ Try.func12 (by kernel_rfl) (by kernel_rfl) (by kernel_rfl) (by kernel_rfl)
  (fun k=>Known.of tok eok codOk (all_cons (cd_ k) (all_cons (dP_ k) (all_cons (mP_ k) (all_cons (nk_ k) (all_cons (nz_ k) (ac_)))))))
  (fun k=>QuietOk.of (all_cons (fun h r=>⟨rfl,rfl⟩) (all_cons (fun h r=>by cases h) (all_cons (fun h r=>⟨rfl,rfl⟩) (all_cons (fun h r=>by cases h) (all_cons (fun h r=>by cases h) (ac_)))))))
  (fun a=>rfl)
  (all_cons (ao_ codOk (by kernel_rfl) (by (repeat intro _);show _=_;kernel_rfl) (fun k=>by (repeat intro _);show _=_;kernel_rfl)) (ac_))
  (fun k=>by (repeat intro _);show _=_;kernel_rfl)
noncomputable def gi_ (k:Nat):a3_ K TyK:=sm cod (Bool) [.bo, .bo, .bo] [.c (.i .i64), .c (.i .i64), .c (.i .i64)] [] (aN_) k [.c (.b)] [] (fun r=>(r,())) (fun v1=>v1) true
theorem fV_ (k:Nat):SummOk Try.prog cod 75 (gi_ k):=aE_ codOk Try.f75 (fun k=>ay_ []) [] false [.tmp 6] 0 [] aF_ Try.func75 (by kernel_rfl) (by kernel_rfl) (by kernel_rfl) (by kernel_rfl)
  (fun k=>Known.of tok eok codOk (ac_))
  (fun k=>QuietOk.of (ac_))
  (fun a=>rfl)
  (ac_)
  (fun k=>by (repeat intro _);show _=_;kernel_rfl)
noncomputable def dL_ (k:Nat):a3_ K TyK:=sm cod (Bool) [.bo] [.g [.i .i64, .l true .item]] [] (fun k v1 v2=>bq_ k (⟨v1,v2⟩:ak_)) k [.c (.b)] [] (fun r=>(r,())) (fun v1=>v1) true
noncomputable abbrev nG_:List (Nat×Cut K TyK (Bool)):=[(4,ct cod [25,26,27] [.c (.l true .item), .c (.i .i64), .c (.i .i64)] [] by_)]
theorem er_ (k:Nat):SummOk Try.prog cod 109 (dL_ k):=aE_ codOk Try.f109 (fun k=>ay_ [(75,gi_ k)]) nG_ false [.tmp 2] 0 [] aF_ Try.func109 (by kernel_rfl) (by kernel_rfl) (by kernel_rfl) (by kernel_rfl)
  (fun k=>Known.of tok eok codOk (all_cons (fV_ k) (ac_)))
  (fun k=>QuietOk.of (all_cons (fun h r=>⟨rfl,rfl⟩) (ac_)))
  (fun a=>rfl)
  (all_cons (ao_ codOk (by kernel_rfl) (by (repeat intro _);show _=_;kernel_rfl) (fun k=>by (repeat intro _);show _=_;kernel_rfl)) (ac_))
  (fun k=>by (repeat intro _);show _=_;kernel_rfl)
noncomputable def kM_ (k:Nat):a3_ K TyK:=sm cod (Bool) [.bo, .bo] [.g [.i .i64, .l true .held, .s, .l true .str], .g [.s, .b]] [] (fun k v1 v2 v3 v4 v5 v6=>gP_ k (⟨v1,v2,v3,v4⟩:ai_) (⟨v5,v6⟩:az_)) k [.c (.b)] [] (fun r=>(r,())) (fun v1=>v1) true
theorem m2_ (k:Nat):SummOk Try.prog cod 158 (kM_ k):=aE_ codOk Try.f158 (fun k=>ay_ []) [] false [.tmp 4] 0 [] aF_ Try.func158 (by kernel_rfl) (by kernel_rfl) (by kernel_rfl) (by kernel_rfl)
  (fun k=>Known.of tok eok codOk (ac_))
  (fun k=>QuietOk.of (ac_))
  (fun a=>rfl)
  (ac_)
  (fun k=>by (repeat intro _);show _=_;kernel_rfl)
noncomputable def dB_ (k:Nat):a3_ K TyK:=sm cod (Bool) [.bo] [.g [.i .i64, .l true .held, .s, .l true .str]] [] (fun k v1 v2 v3 v4=>bR_ k (⟨v1,v2,v3,v4⟩:ai_)) k [.c (.b)] [] (fun r=>(r,())) (fun v1=>v1) true
noncomputable abbrev nq_:List (Nat×Cut K TyK (Bool)):=[(4,ct cod [1,30,31,32] [.c (.r 0 0), .c (.l true .held), .c (.i .i64), .c (.i .i64)] [.x [.i .i64, .l true .held, .s, .l true .str]] aL_),
  (12,ct cod [88,89,90] [.c (.l true .str), .c (.i .i64), .c (.i .i64)] [] ca_)]
theorem ev_ (k:Nat):SummOk Try.prog cod 110 (dB_ k):=aE_ codOk Try.f110 (fun k=>ay_ [(75,gi_ k),(158,kM_ k)]) nq_ false [.tmp 2] 0 [] aF_ Try.func110 (by kernel_rfl) (by kernel_rfl) (by kernel_rfl) (by kernel_rfl)
  (fun k=>Known.of tok eok codOk (all_cons (fV_ k) (all_cons (m2_ k) (ac_))))
  (fun k=>QuietOk.of (all_cons (fun h r=>⟨rfl,rfl⟩) (all_cons (fun h r=>⟨rfl,rfl⟩) (ac_))))
  (fun a=>rfl)
  (all_cons (ao_ codOk (by kernel_rfl) (by (repeat intro _);show _=_;kernel_rfl) (fun k=>by (repeat intro _);show _=_;kernel_rfl)) (all_cons (ao_ codOk (by kernel_rfl) (by (repeat intro _);show _=_;kernel_rfl) (fun k=>by (repeat intro _);show _=_;kernel_rfl)) (ac_)))
  (fun k=>by (repeat intro _);show _=_;kernel_rfl)
noncomputable def lc_ (k:Nat):a3_ K TyK:=sm cod (Bool) [.bo] [.g [.i .i64, .l true .item]] [] (fun k v1 v2=>iq_ k (⟨v1,v2⟩:ak_)) k [.c (.b)] [] (fun r=>(r,())) (fun v1=>v1) true
theorem qE_ (k:Nat):SummOk Try.prog cod 111 (lc_ k):=aE_ codOk Try.f111 (fun k=>ay_ []) [] false [.tmp 2] 0 [] aF_ Try.func111 (by kernel_rfl) (by kernel_rfl) (by kernel_rfl) (by kernel_rfl)
  (fun k=>Known.of tok eok codOk (ac_))
  (fun k=>QuietOk.of (ac_))
  (fun a=>rfl)
  (ac_)
  (fun k=>by (repeat intro _);show _=_;kernel_rfl)
noncomputable def lk_ (k:Nat):a3_ K TyK:=sm cod (Bool) [.bo] [.g [.i .i64, .l true .held, .s, .l true .str]] [] (fun k v1 v2 v3 v4=>ig_ k (⟨v1,v2,v3,v4⟩:ai_)) k [.c (.b)] [] (fun r=>(r,())) (fun v1=>v1) true
theorem qB_ (k:Nat):SummOk Try.prog cod 112 (lk_ k):=aE_ codOk Try.f112 (fun k=>ay_ []) [] false [.tmp 2] 0 [] aF_ Try.func112 (by kernel_rfl) (by kernel_rfl) (by kernel_rfl) (by kernel_rfl)
  (fun k=>Known.of tok eok codOk (ac_))
  (fun k=>QuietOk.of (ac_))
  (fun a=>rfl)
  (ac_)
  (fun k=>by (repeat intro _);show _=_;kernel_rfl)
noncomputable def bY_ (k:Nat):a3_ K TyK:=sm cod (Bool) [.bo] [.g [.i .i64, .b, .i .i64, .i .i64, .i .i64, .b, .i .i64, .l true .item, .i .i64, .l true .held, .s, .l true .str]] [] (fun k v1 v2 v3 v4 v5 v6 v7 v8 v9 v10 v11 v12=>bQ_ k (⟨v1,v2,v3,v4,v5,v6,(⟨v7,v8⟩:ak_),(⟨v9,v10,v11,v12⟩:ai_)⟩:am_)) k [.c (.b)] [] (fun r=>(r,())) (fun v1=>v1) true
theorem cc_ (k:Nat):SummOk Try.prog cod 46 (bY_ k):=aE_ codOk Try.f46 (fun k=>ay_ [(75,gi_ k),(109,dL_ k),(110,dB_ k),(111,lc_ k),(112,lk_ k)]) [] false [.tmp 2] 0 [] aF_ Try.func46 (by kernel_rfl) (by kernel_rfl) (by kernel_rfl) (by kernel_rfl)
  (fun k=>Known.of tok eok codOk (all_cons (fV_ k) (all_cons (er_ k) (all_cons (ev_ k) (all_cons (qE_ k) (all_cons (qB_ k) (ac_)))))))
  (fun k=>QuietOk.of (all_cons (fun h r=>⟨rfl,rfl⟩) (all_cons (fun h r=>⟨rfl,rfl⟩) (all_cons (fun h r=>⟨rfl,rfl⟩) (all_cons (fun h r=>⟨rfl,rfl⟩) (all_cons (fun h r=>⟨rfl,rfl⟩) (ac_)))))))
  (fun a=>rfl)
  (ac_)
  (fun k=>by (repeat intro _);show _=_;kernel_rfl)
noncomputable def d6_ (k:Nat):a3_ K TyK:=sm cod (ak_) [.bo] [.g [.i .i64, .l true .item]] [] (fun k v1 v2=>ex_ k (⟨v1,v2⟩:ak_)) k [.g [.i .i64, .o 0]] [.l .item] (fun r=>(r.Base,(),r.Items,())) (fun v1 v2=>(⟨v1,v2⟩:ak_)) false
theorem eZ_ (k:Nat):SummOk Try.prog cod 126 (d6_ k):=aE_ codOk Try.f126 (fun k=>ay_ []) [] false [.cell 2 37] 0 [] aF_ Try.func126 (by kernel_rfl) (by kernel_rfl) (by kernel_rfl) (by kernel_rfl)
  (fun k=>Known.of tok eok codOk (ac_))
  (fun k=>QuietOk.of (ac_))
  (fun a=>rfl)
  (ac_)
  (fun k=>by (repeat intro _);show _=_;kernel_rfl)
noncomputable def fo_ (k:Nat):a3_ K TyK:=sm cod (ai_) [.bo] [.g [.i .i64, .l true .held, .s, .l true .str]] [] (fun k v1 v2 v3 v4=>fD_ k (⟨v1,v2,v3,v4⟩:ai_)) k [.g [.i .i64, .o 0, .s, .o 1]] [.l .held, .l .str] (fun r=>(r.Next,(),r.Open,(),r.Held,r.Ready,())) (fun v1 v2 v3 v4=>(⟨v1,v3,v2,v4⟩:ai_)) false
theorem gl_ (k:Nat):SummOk Try.prog cod 127 (fo_ k):=aE_ codOk Try.f127 (fun k=>ay_ []) [] false [.cell 2 40] 0 [] aF_ Try.func127 (by kernel_rfl) (by kernel_rfl) (by kernel_rfl) (by kernel_rfl)
  (fun k=>Known.of tok eok codOk (ac_))
  (fun k=>QuietOk.of (ac_))
  (fun a=>rfl)
  (ac_)
  (fun k=>by (repeat intro _);show _=_;kernel_rfl)
noncomputable def cX_ (k:Nat):a3_ K TyK:=sm cod (am_) [.bo] [.g [.i .i64, .b, .i .i64, .i .i64, .i .i64, .b, .i .i64, .l true .item, .i .i64, .l true .held, .s, .l true .str]] [] (fun k v1 v2 v3 v4 v5 v6 v7 v8 v9 v10 v11 v12=>cS_ k (⟨v1,v2,v3,v4,v5,v6,(⟨v7,v8⟩:ak_),(⟨v9,v10,v11,v12⟩:ai_)⟩:am_)) k [.g [.i .i64, .b, .i .i64, .i .i64, .i .i64, .b, .i .i64, .o 0, .i .i64, .o 1, .s, .o 2]] [.l .item, .l .held, .l .str] (fun r=>(r.Number,r.Up,r.Life,r.Peer,r.Since,r.Owes,r.Send.Base,(),r.Take.Next,(),r.Take.Open,(),r.Send.Items,r.Take.Held,r.Take.Ready,())) (fun v1 v2 v3 v4 v5 v6 v7 v8 v9 v10 v11 v12=>(⟨v1,v2,v3,v4,v5,v6,(⟨v7,v10⟩:ak_),(⟨v8,v11,v9,v12⟩:ai_)⟩:am_)) false
theorem dj_ (k:Nat):SummOk Try.prog cod 58 (cX_ k):=aE_ codOk Try.f58 (fun k=>ay_ [(126,d6_ k),(127,fo_ k)]) [] false [.cell 2 42] 0 [] aF_ Try.func58 (by kernel_rfl) (by kernel_rfl) (by kernel_rfl) (by kernel_rfl)
  (fun k=>Known.of tok eok codOk (all_cons (eZ_ k) (all_cons (gl_ k) (ac_))))
  (fun k=>QuietOk.of (all_cons (fun h r=>by cases h) (all_cons (fun h r=>by cases h) (ac_))))
  (fun a=>rfl)
  (ac_)
  (fun k=>by (repeat intro _);show _=_;kernel_rfl)
noncomputable def dY_ (k:Nat):a3_ K TyK:=sm cod (Bool) [.bo] [.g [.i .i64, .i .i64, .i .i64, .i .i64, .i .i64, .i .i64, .i .i64, .b, .s]] [] (fun k v1 v2 v3 v4 v5 v6 v7 v8 v9=>be_ k (⟨v1,v2,v3,v4,v5,v6,v7,v8,v9⟩:ae_)) k [.c (.b)] [] (fun r=>(r,())) (fun v1=>v1) true
theorem e4_ (k:Nat):SummOk Try.prog cod 59 (dY_ k):=aE_ codOk Try.f59 (fun k=>ay_ [(75,gi_ k)]) [] false [.tmp 2] 0 [] aF_ Try.func59 (by kernel_rfl) (by kernel_rfl) (by kernel_rfl) (by kernel_rfl)
  (fun k=>Known.of tok eok codOk (all_cons (fV_ k) (ac_)))
  (fun k=>QuietOk.of (all_cons (fun h r=>⟨rfl,rfl⟩) (ac_)))
  (fun a=>rfl)
  (ac_)
  (fun k=>by (repeat intro _);show _=_;kernel_rfl)
noncomputable def jq_ (k:Nat):a3_ K TyK:=sm cod (ak_) [.bo, .bo, .bo] [.g [.i .i64, .l true .item], .c (.i .i64), .c (.i .i64)] [] (fun k v1 v2 v3 v4=>gx_ k (⟨v1,v2⟩:ak_) v3 v4) k [.g [.i .i64, .o 0]] [.l .item] (fun r=>(r.Base,(),r.Items,())) (fun v1 v2=>(⟨v1,v2⟩:ak_)) false
noncomputable abbrev oq_:List (Nat×Cut K TyK (ak_)):=[(5,ct cod [1,2,6,7,8] [.c (.i .i64), .c (.i .i64), .c (.r 0 0), .c (.r 1 0), .c (.i .i64)] [.x [.i .i64, .o 2], .x [.i .i64, .o 3], .l .item, .l .item] cN_),
  (12,ct cod [2,6,7,9] [.c (.i .i64), .c (.r 0 0), .c (.r 1 0), .c (.i .i64)] [.x [.i .i64, .o 2], .x [.i .i64, .o 3], .l .item, .l .item] bA_),
  (13,ct cod [2,6,7,9] [.c (.i .i64), .c (.r 0 0), .c (.r 1 0), .c (.i .i64)] [.x [.i .i64, .o 2], .x [.i .i64, .o 3], .l .item, .l .item] cr_)]
theorem nI_ (k:Nat):SummOk Try.prog cod 60 (jq_ k):=aE_ codOk Try.f60 (fun k=>ay_ [(109,dL_ k),(126,d6_ k),(75,gi_ k)]) oq_ false [.cell 6 37] 0 [] aF_ Try.func60 (by kernel_rfl) (by kernel_rfl) (by kernel_rfl) (by kernel_rfl)
  (fun k=>Known.of tok eok codOk (all_cons (er_ k) (all_cons (eZ_ k) (all_cons (fV_ k) (ac_)))))
  (fun k=>QuietOk.of (all_cons (fun h r=>⟨rfl,rfl⟩) (all_cons (fun h r=>by cases h) (all_cons (fun h r=>⟨rfl,rfl⟩) (ac_)))))
  (fun a=>rfl)
  (all_cons (ao_ codOk (by kernel_rfl) (by (repeat intro _);show _=_;kernel_rfl) (fun k=>by (repeat intro _);show _=_;kernel_rfl)) (all_cons (ao_ codOk (by kernel_rfl) (by (repeat intro _);show _=_;kernel_rfl) (fun k=>by (repeat intro _);show _=_;kernel_rfl)) (all_cons (ao_ codOk (by kernel_rfl) (by (repeat intro _);show _=_;kernel_rfl) (fun k=>by (repeat intro _);show _=_;kernel_rfl)) (ac_))))
  (fun k=>by (repeat intro _);show _=_;kernel_rfl)
noncomputable def k1_ (k:Nat):a3_ K TyK:=sm cod (ai_) [.mv] [.g [.i .i64, .o 0, .s, .o 1]] [.l .held, .l .str] (fun k v1 v2 v3 v4=>fu_ k (⟨v1,v3,v2,v4⟩:ai_)) k [.g [.i .i64, .o 2, .s, .o 3]] [.d, .d, .l .held, .l .str] (fun r=>(r.Next,(),r.Open,(),r.Held,r.Ready,())) (fun v1 v2 v3 v4=>(⟨v1,v3,v2,v4⟩:ai_)) false
noncomputable abbrev vE_:List (Nat×Cut K TyK (ai_)):=[(1,ct cod [1,2] [.c (.r 2 0), .c (.r 3 0)] [.d, .d, .x [.i .i64, .o 4, .s, .o 5], .x [.i .i64, .o 6, .s, .o 7], .l .held, .l .str, .l .held, .l .str] fb_)]
theorem mV_ (k:Nat):SummOk Try.prog cod 128 (k1_ k):=aE_ codOk Try.f128 (fun k=>ay_ [(158,kM_ k)]) vE_ false [.cell 2 40] 2 [true,true] aF_ Try.func128 (by kernel_rfl) (by kernel_rfl) (by kernel_rfl) (by kernel_rfl)
  (fun k=>Known.of tok eok codOk (all_cons (m2_ k) (ac_)))
  (fun k=>QuietOk.of (all_cons (fun h r=>⟨rfl,rfl⟩) (ac_)))
  (fun a=>rfl)
  (all_cons (ao_ codOk (by kernel_rfl) (by (repeat intro _);show _=_;kernel_rfl) (fun k=>by (repeat intro _);show _=_;kernel_rfl)) (ac_))
  (fun k=>by (repeat intro _);show _=_;kernel_rfl)
noncomputable def jl_ (k:Nat):a3_ K TyK:=sm cod (ai_) [.bo, .bo, .bo] [.g [.i .i64, .l true .held, .s, .l true .str], .c (.i .i64), .g [.s, .b]] [] (fun k v1 v2 v3 v4 v5 v6 v7=>gF_ k (⟨v1,v2,v3,v4⟩:ai_) v5 (⟨v6,v7⟩:az_)) k [.g [.i .i64, .o 0, .s, .o 1]] [.l .held, .l .str] (fun r=>(r.Next,(),r.Open,(),r.Held,r.Ready,())) (fun v1 v2 v3 v4=>(⟨v1,v3,v2,v4⟩:ai_)) false
noncomputable abbrev qi_:List (Nat×Cut K TyK (ai_)):=[(7,ct cod [1,5,6,7,8] [.c (.i .i64), .c (.r 0 0), .c (.r 1 0), .c (.r 2 0), .c (.i .i64)] [.x [.s, .b], .x [.i .i64, .o 3, .s, .o 4], .x [.i .i64, .o 5, .s, .o 6], .l .held, .l .str, .l .held, .l .str] cG_)]
theorem nK_ (k:Nat):SummOk Try.prog cod 61 (jl_ k):=aE_ codOk Try.f61 (fun k=>ay_ [(110,dB_ k),(127,fo_ k),(75,gi_ k),(128,k1_ k)]) qi_ false [.cell 6 40] 0 [] aF_ Try.func61 (by kernel_rfl) (by kernel_rfl) (by kernel_rfl) (by kernel_rfl)
  (fun k=>Known.of tok eok codOk (all_cons (ev_ k) (all_cons (gl_ k) (all_cons (fV_ k) (all_cons (mV_ k) (ac_))))))
  (fun k=>QuietOk.of (all_cons (fun h r=>⟨rfl,rfl⟩) (all_cons (fun h r=>by cases h) (all_cons (fun h r=>⟨rfl,rfl⟩) (all_cons (fun h r=>by cases h) (ac_))))))
  (fun a=>rfl)
  (all_cons (ao_ codOk (by kernel_rfl) (by (repeat intro _);show _=_;kernel_rfl) (fun k=>by (repeat intro _);show _=_;kernel_rfl)) (ac_))
  (fun k=>by (repeat intro _);show _=_;kernel_rfl)
noncomputable def ka_ (k:Nat):a3_ K TyK:=sm cod (aw_) [.bo, .bo] [.g [.i .i64, .b, .i .i64, .i .i64, .i .i64, .b, .i .i64, .l true .item, .i .i64, .l true .held, .s, .l true .str], .g [.i .i64, .i .i64, .i .i64, .i .i64, .i .i64, .i .i64, .i .i64, .b, .s]] [] (fun k v1 v2 v3 v4 v5 v6 v7 v8 v9 v10 v11 v12 v13 v14 v15 v16 v17 v18 v19 v20 v21=>hn_ k (⟨v1,v2,v3,v4,v5,v6,(⟨v7,v8⟩:ak_),(⟨v9,v10,v11,v12⟩:ai_)⟩:am_) (⟨v13,v14,v15,v16,v17,v18,v19,v20,v21⟩:ae_)) k [.g [.i .i64, .i .i64, .b, .i .i64, .i .i64, .i .i64, .b, .i .i64, .o 0, .i .i64, .o 1, .s, .o 2, .o 3, .s]] [.l .item, .l .held, .l .str, .l .packet] (fun r=>(r.Code,r.End.Number,r.End.Up,r.End.Life,r.End.Peer,r.End.Since,r.End.Owes,r.End.Send.Base,(),r.End.Take.Next,(),r.End.Take.Open,(),(),r.Text,r.End.Send.Items,r.End.Take.Held,r.End.Take.Ready,r.Out,())) (fun v1 v2 v3 v4 v5 v6 v7 v8 v9 v10 v11 v12 v13 v14 v15=>(⟨v1,(⟨v2,v3,v4,v5,v6,v7,(⟨v8,v12⟩:ak_),(⟨v9,v13,v10,v14⟩:ai_)⟩:am_),v15,v11⟩:aw_)) false
noncomputable abbrev qt_:List (Nat×Cut K TyK (aw_)):=[(9,ct cod [3,4,5,6] [.c (.r 0 0), .c (.r 1 0), .c (.r 2 0), .c (.r 2 1)] [.x [.i .i64, .i .i64, .i .i64, .i .i64, .i .i64, .i .i64, .i .i64, .b, .s], .x [.i .i64, .i .i64, .b, .i .i64, .i .i64, .i .i64, .b, .i .i64, .o 3, .i .i64, .o 4, .s, .o 5, .o 6, .s], .x [.i .i64, .i .i64, .b, .i .i64, .i .i64, .i .i64, .b, .i .i64, .o 7, .i .i64, .o 8, .s, .o 9, .o 10, .s], .l .item, .l .held, .l .str, .l .packet, .l .item, .l .held, .l .str, .l .packet] ei_),
  (16,ct cod [4,5] [.c (.r 0 0), .c (.r 1 0)] [.x [.i .i64, .i .i64, .b, .i .i64, .i .i64, .i .i64, .b, .i .i64, .o 2, .i .i64, .o 3, .s, .o 4, .o 5, .s], .x [.i .i64, .i .i64, .b, .i .i64, .i .i64, .i .i64, .b, .i .i64, .o 6, .i .i64, .o 7, .s, .o 8, .o 9, .s], .l .item, .l .held, .l .str, .l .packet, .l .item, .l .held, .l .str, .l .packet] dN_)]
theorem pH_ (k:Nat):SummOk Try.prog cod 15 (ka_ k):=aE_ codOk Try.f15 (fun k=>ay_ [(46,bY_ k),(58,cX_ k),(59,dY_ k),(60,jq_ k),(61,jl_ k)]) qt_ false [.cell 4 45] 0 [] aF_ Try.func15 (by kernel_rfl) (by kernel_rfl) (by kernel_rfl) (by kernel_rfl)
  (fun k=>Known.of tok eok codOk (all_cons (cc_ k) (all_cons (dj_ k) (all_cons (e4_ k) (all_cons (nI_ k) (all_cons (nK_ k) (ac_)))))))
  (fun k=>QuietOk.of (all_cons (fun h r=>⟨rfl,rfl⟩) (all_cons (fun h r=>by cases h) (all_cons (fun h r=>⟨rfl,rfl⟩) (all_cons (fun h r=>by cases h) (all_cons (fun h r=>by cases h) (ac_)))))))
  (fun a=>rfl)
  (all_cons (ao_ codOk (by kernel_rfl) (by (repeat intro _);show _=_;kernel_rfl) (fun k=>by (repeat intro _);show _=_;kernel_rfl)) (all_cons (ao_ codOk (by kernel_rfl) (by (repeat intro _);show _=_;kernel_rfl) (fun k=>by (repeat intro _);show _=_;kernel_rfl)) (ac_)))
  (fun k=>by (repeat intro _);show _=_;kernel_rfl)
noncomputable def lw_ (k:Nat):a3_ K TyK:=sm cod (as_) [.pe] [.c (.l false .byte)] [] (ir_) k [.c (.r 0 0)] [.x [.l false .byte, .i .i64]] (fun r=>((),r.b,r.p,())) (fun v1 v2=>(⟨v1,v2⟩:as_)) false
noncomputable abbrev rJ_:List (Nat×Cut K TyK (as_)):=[(3,ct cod [0] [.c (.l false .byte)] [] eJ_)]
theorem qq_ (k:Nat):SummOk Try.prog cod 70 (lw_ k):=aE_ codOk Try.f70 (fun k=>ay_ []) rJ_ false [.tmp 2] 0 [] aF_ Try.func70 (by kernel_rfl) (by kernel_rfl) (by kernel_rfl) (by kernel_rfl)
  (fun k=>Known.of tok eok codOk (ac_))
  (fun k=>QuietOk.of (ac_))
  (fun a=>rfl)
  (all_cons (ao_ codOk (by kernel_rfl) (by (repeat intro _);show _=_;kernel_rfl) (fun k=>by (repeat intro _);show _=_;kernel_rfl)) (ac_))
  (fun k=>by (repeat intro _);show _=_;kernel_rfl)
noncomputable def in_ (k:Nat):a3_ K TyK:=sm cod (ByteArray) [.bo, .bo] [.c (.s), .c (.i .i64)] [] (ef_) k [.c (.s)] [] (fun r=>(r,())) (fun v1=>v1) true
noncomputable abbrev sL_:List (Nat×Cut K TyK (ByteArray)):=[(2,ct cod [0,1,5] [.c (.s), .c (.i .i64), .c (.s)] [] c2_),
  (5,ct cod [0,1,5] [.c (.s), .c (.i .i64), .c (.s)] [] eG_)]
theorem kp_ (k:Nat):SummOk Try.prog cod 94 (in_ k):=aE_ codOk Try.f94 (fun k=>ay_ []) sL_ false [.tmp 4] 0 [] aF_ Try.func94 (by kernel_rfl) (by kernel_rfl) (by kernel_rfl) (by kernel_rfl)
  (fun k=>Known.of tok eok codOk (ac_))
  (fun k=>QuietOk.of (ac_))
  (fun a=>rfl)
  (all_cons (ao_ codOk (by kernel_rfl) (by (repeat intro _);show _=_;kernel_rfl) (fun k=>by (repeat intro _);show _=_;kernel_rfl)) (all_cons (ao_ codOk (by kernel_rfl) (by (repeat intro _);show _=_;kernel_rfl) (fun k=>by (repeat intro _);show _=_;kernel_rfl)) (ac_)))
  (fun k=>by (repeat intro _);show _=_;kernel_rfl)
noncomputable def cM_ (k:Nat):a3_ K TyK:=sm cod (Int×as_) [.mv, .bo] [.c (.r 0 0), .c (.i .i64)] [.x [.l false .byte, .i .i64]] (fun k v1 v2 v3=>ah_ k (⟨v2,v3⟩:as_) v1) k [.c (.i .i64)] [.x [.l false .byte, .i .i64]] (fun r=>(r.1,r.2.b,r.2.p,())) (fun v1 v2 v3=>(v1,(⟨v2,v3⟩:as_))) false
theorem dk_ (k:Nat):SummOk Try.prog cod 73 (cM_ k):=aE_ codOk Try.f73 (fun k=>ay_ []) [] false [.tmp 4] 1 [false] aF_ Try.func73 (by kernel_rfl) (by kernel_rfl) (by kernel_rfl) (by kernel_rfl)
  (fun k=>Known.of tok eok codOk (ac_))
  (fun k=>QuietOk.of (ac_))
  (fun a=>rfl)
  (ac_)
  (fun k=>by (repeat intro _);show _=_;kernel_rfl)
noncomputable def m6_ (k:Nat):a3_ K TyK:=sm cod (ByteArray×as_) [.bo] [.c (.r 0 0)] [.x [.l false .byte, .i .i64]] (fun k v1 v2=>jG_ k (⟨v1,v2⟩:as_)) k [.c (.s)] [.x [.l false .byte, .i .i64]] (fun r=>(r.1,r.2.b,r.2.p,())) (fun v1 v2 v3=>(v1,(⟨v2,v3⟩:as_))) false
theorem r7_ (k:Nat):SummOk Try.prog cod 147 (m6_ k):=aE_ codOk Try.f147 (fun k=>ay_ [(94,in_ k),(73,cM_ k)]) [] false [.tmp 2] 1 [false] aF_ Try.func147 (by kernel_rfl) (by kernel_rfl) (by kernel_rfl) (by kernel_rfl)
  (fun k=>Known.of tok eok codOk (all_cons (kp_ k) (all_cons (dk_ k) (ac_))))
  (fun k=>QuietOk.of (all_cons (fun h r=>⟨rfl,rfl⟩) (all_cons (fun h r=>by cases h) (ac_))))
  (fun a=>rfl)
  (ac_)
  (fun k=>by (repeat intro _);show _=_;kernel_rfl)
noncomputable def kf_ (k:Nat):a3_ K TyK:=sm cod (Int×as_) [.bo] [.c (.r 0 0)] [.x [.l false .byte, .i .i64]] (fun k v1 v2=>hC_ k (⟨v1,v2⟩:as_)) k [.c (.i .i64)] [.x [.l false .byte, .i .i64]] (fun r=>(r.1,r.2.b,r.2.p,())) (fun v1 v2 v3=>(v1,(⟨v2,v3⟩:as_))) false
theorem ox_ (k:Nat):SummOk Try.prog cod 148 (kf_ k):=aE_ codOk Try.f148 (fun k=>ay_ [(73,cM_ k)]) [] false [.tmp 2] 1 [false] aF_ Try.func148 (by kernel_rfl) (by kernel_rfl) (by kernel_rfl) (by kernel_rfl)
  (fun k=>Known.of tok eok codOk (all_cons (dk_ k) (ac_)))
  (fun k=>QuietOk.of (all_cons (fun h r=>by cases h) (ac_)))
  (fun a=>rfl)
  (ac_)
  (fun k=>by (repeat intro _);show _=_;kernel_rfl)
noncomputable def lC_ (k:Nat):a3_ K TyK:=sm cod (am_) [.bo] [.c (.i .i64)] [] (gY_) k [.g [.i .i64, .b, .i .i64, .i .i64, .i .i64, .b, .i .i64, .o 0, .i .i64, .o 1, .s, .o 2]] [.l .item, .l .held, .l .str] (fun r=>(r.Number,r.Up,r.Life,r.Peer,r.Since,r.Owes,r.Send.Base,(),r.Take.Next,(),r.Take.Open,(),r.Send.Items,r.Take.Held,r.Take.Ready,())) (fun v1 v2 v3 v4 v5 v6 v7 v8 v9 v10 v11 v12=>(⟨v1,v2,v3,v4,v5,v6,(⟨v7,v10⟩:ak_),(⟨v8,v11,v9,v12⟩:ai_)⟩:am_)) false
theorem qy_ (k:Nat):SummOk Try.prog cod 172 (lC_ k):=aE_ codOk Try.f172 (fun k=>ay_ [(89,bl_ k)]) [] false [.cell 2 42] 0 [] aF_ Try.func172 (by kernel_rfl) (by kernel_rfl) (by kernel_rfl) (by kernel_rfl)
  (fun k=>Known.of tok eok codOk (all_cons (a9_ k) (ac_)))
  (fun k=>QuietOk.of (all_cons (fun h r=>⟨rfl,rfl⟩) (ac_)))
  (fun a=>rfl)
  (ac_)
  (fun k=>by (repeat intro _);show _=_;kernel_rfl)
noncomputable def jz_ (k:Nat):a3_ K TyK:=sm cod (ab_) [.bo, .bo] [.c (.s), .c (.i .i64)] [] (gC_) k [.g [.s, .i .i64, .o 0, .o 1, .s, .o 2, .o 3]] [.l .end, .l .parcel, .l .record, .l .record] (fun r=>(r.Key,r.Width,(),(),r.Forged,(),(),r.Ends,r.Flight,r.Given,r.Taken,())) (fun v1 v2 v3 v4 v5 v6 v7=>(⟨v1,v2,v4,v5,v3,v6,v7⟩:ab_)) false
theorem nt_ (k:Nat):SummOk Try.prog cod 146 (jz_ k):=aE_ codOk Try.f146 (fun k=>ay_ [(89,bl_ k),(172,lC_ k)]) [] false [.cell 4 60] 0 [] aF_ Try.func146 (by kernel_rfl) (by kernel_rfl) (by kernel_rfl) (by kernel_rfl)
  (fun k=>Known.of tok eok codOk (all_cons (a9_ k) (all_cons (qy_ k) (ac_))))
  (fun k=>QuietOk.of (all_cons (fun h r=>⟨rfl,rfl⟩) (all_cons (fun h r=>by cases h) (ac_))))
  (fun a=>rfl)
  (ac_)
  (fun k=>by (repeat intro _);show _=_;kernel_rfl)
noncomputable def hi_ (k:Nat):a3_ K TyK:=sm cod (Bool) [.bo] [.c (.l true .record)] [] (eX_) k [.c (.b)] [] (fun r=>(r,())) (fun v1=>v1) true
noncomputable abbrev lK_:List (Nat×Cut K TyK (Bool)):=[(2,ct cod [0,3] [.c (.l true .record), .c (.i .i64)] [] bM_)]
theorem k0_ (k:Nat):SummOk Try.prog cod 90 (hi_ k):=aE_ codOk Try.f90 (fun k=>ay_ [(89,bl_ k)]) lK_ false [.tmp 2] 0 [] aF_ Try.func90 (by kernel_rfl) (by kernel_rfl) (by kernel_rfl) (by kernel_rfl)
  (fun k=>Known.of tok eok codOk (all_cons (a9_ k) (ac_)))
  (fun k=>QuietOk.of (all_cons (fun h r=>⟨rfl,rfl⟩) (ac_)))
  (fun a=>rfl)
  (all_cons (ao_ codOk (by kernel_rfl) (by (repeat intro _);show _=_;kernel_rfl) (fun k=>by (repeat intro _);show _=_;kernel_rfl)) (ac_))
  (fun k=>by (repeat intro _);show _=_;kernel_rfl)
noncomputable def eo_ (k:Nat):a3_ K TyK:=sm cod (Bool) [.bo] [.g [.s, .i .i64, .l true .end, .l true .parcel, .s, .l true .record, .l true .record]] [] (fun k v1 v2 v3 v4 v5 v6 v7=>cw_ k (⟨v1,v2,v3,v4,v5,v6,v7⟩:ab_)) k [.c (.b)] [] (fun r=>(r,())) (fun v1=>v1) true
noncomputable abbrev me_:List (Nat×Cut K TyK (Bool)):=[(4,ct cod [1,3] [.c (.r 0 0), .c (.i .i64)] [.x [.s, .i .i64, .l true .end, .l true .parcel, .s, .l true .record, .l true .record]] b7_),
  (9,ct cod [1,4] [.c (.r 0 0), .c (.i .i64)] [.x [.s, .i .i64, .l true .end, .l true .parcel, .s, .l true .record, .l true .record]] b8_)]
theorem fs_ (k:Nat):SummOk Try.prog cod 34 (eo_ k):=aE_ codOk Try.f34 (fun k=>ay_ [(89,bl_ k),(45,bW_ k),(90,hi_ k)]) me_ false [.tmp 2] 0 [] aF_ Try.func34 (by kernel_rfl) (by kernel_rfl) (by kernel_rfl) (by kernel_rfl)
  (fun k=>Known.of tok eok codOk (all_cons (a9_ k) (all_cons (cd_ k) (all_cons (k0_ k) (ac_)))))
  (fun k=>QuietOk.of (all_cons (fun h r=>⟨rfl,rfl⟩) (all_cons (fun h r=>⟨rfl,rfl⟩) (all_cons (fun h r=>⟨rfl,rfl⟩) (ac_)))))
  (fun a=>rfl)
  (all_cons (ao_ codOk (by kernel_rfl) (by (repeat intro _);show _=_;kernel_rfl) (fun k=>by (repeat intro _);show _=_;kernel_rfl)) (all_cons (ao_ codOk (by kernel_rfl) (by (repeat intro _);show _=_;kernel_rfl) (fun k=>by (repeat intro _);show _=_;kernel_rfl)) (ac_)))
  (fun k=>by (repeat intro _);show _=_;kernel_rfl)
noncomputable def im_ (k:Nat):a3_ K TyK:=sm cod (ab_) [.bo] [.g [.s, .i .i64, .l true .end, .l true .parcel, .s, .l true .record, .l true .record]] [] (fun k v1 v2 v3 v4 v5 v6 v7=>en_ k (⟨v1,v2,v3,v4,v5,v6,v7⟩:ab_)) k [.g [.s, .i .i64, .o 0, .o 1, .s, .o 2, .o 3]] [.l .end, .l .parcel, .l .record, .l .record] (fun r=>(r.Key,r.Width,(),(),r.Forged,(),(),r.Ends,r.Flight,r.Given,r.Taken,())) (fun v1 v2 v3 v4 v5 v6 v7=>(⟨v1,v2,v4,v5,v3,v6,v7⟩:ab_)) false
noncomputable abbrev sC_:List (Nat×Cut K TyK (ab_)):=[(4,ct cod [1,2,3,4] [.c (.r 0 0), .c (.r 1 0), .c (.r 2 0), .c (.i .i64)] [.x [.s, .i .i64, .l true .end, .l true .parcel, .s, .l true .record, .l true .record], .x [.s, .i .i64, .o 3, .o 4, .s, .o 5, .o 6], .x [.s, .i .i64, .o 7, .l true .parcel, .s, .l true .record, .l true .record], .l .end, .l .parcel, .l .record, .l .record, .l .end] dW_)]
theorem kt_ (k:Nat):SummOk Try.prog cod 85 (im_ k):=aE_ codOk Try.f85 (fun k=>ay_ [(52,dq_ k)]) sC_ false [.cell 2 60] 0 [] aF_ Try.func85 (by kernel_rfl) (by kernel_rfl) (by kernel_rfl) (by kernel_rfl)
  (fun k=>Known.of tok eok codOk (all_cons (dP_ k) (ac_)))
  (fun k=>QuietOk.of (all_cons (fun h r=>by cases h) (ac_)))
  (fun a=>rfl)
  (all_cons (ao_ codOk (by kernel_rfl) (by (repeat intro _);show _=_;kernel_rfl) (fun k=>by (repeat intro _);show _=_;kernel_rfl)) (ac_))
  (fun k=>by (repeat intro _);show _=_;kernel_rfl)
noncomputable def iQ_ (k:Nat):a3_ K TyK:=sm cod (ak_×List Int) [.bo] [.g [.i .i64, .l true .item]] [] (fun k v1 v2=>fz_ k (⟨v1,v2⟩:ak_)) k [.g [.i .i64, .o 0], .c (.o 1)] [.l .item, .l .int] (fun r=>(r.1.Base,(),(),r.1.Items,r.2,())) (fun v1 v2 v3=>((⟨v1,v2⟩:ak_),v3)) false
noncomputable abbrev oO_:List (Nat×Cut K TyK (ak_×List Int)):=[(6,ct cod [1,2,4,5,6] [.c (.r 0 0), .c (.r 1 0), .c (.o 2), .c (.r 3 0), .c (.i .i64)] [.x [.i .i64, .l true .item], .x [.i .i64, .o 4], .l .int, .x [.i .i64, .o 5], .l .item, .l .item] cL_),
  (7,ct cod [1,2,4,5,6] [.c (.r 0 0), .c (.r 1 0), .c (.o 2), .c (.r 3 0), .c (.i .i64)] [.x [.i .i64, .l true .item], .x [.i .i64, .o 4], .l .int, .x [.i .i64, .o 5], .l .item, .l .item] cf_)]
theorem nu_ (k:Nat):SummOk Try.prog cod 101 (iQ_ k):=aE_ codOk Try.f101 (fun k=>ay_ [(105,dO_ k),(118,fC_ k)]) oO_ false [.cell 2 37, .tmp 3] 0 [] aF_ Try.func101 (by kernel_rfl) (by kernel_rfl) (by kernel_rfl) (by kernel_rfl)
  (fun k=>Known.of tok eok codOk (all_cons (ew_ k) (all_cons (f6_ k) (ac_))))
  (fun k=>QuietOk.of (all_cons (fun h r=>⟨rfl,rfl⟩) (all_cons (fun h r=>by cases h) (ac_))))
  (fun a=>rfl)
  (all_cons (ao_ codOk (by kernel_rfl) (by (repeat intro _);show _=_;kernel_rfl) (fun k=>by (repeat intro _);show _=_;kernel_rfl)) (all_cons (ao_ codOk (by kernel_rfl) (by (repeat intro _);show _=_;kernel_rfl) (fun k=>by (repeat intro _);show _=_;kernel_rfl)) (ac_)))
  (fun k=>by (repeat intro _);show _=_;kernel_rfl)
noncomputable def jv_ (k:Nat):a3_ K TyK:=sm cod (Int×Int) [.bo] [.g [.i .i64, .l true .held, .s, .l true .str]] [] (fun k v1 v2 v3 v4=>ez_ k (⟨v1,v2,v3,v4⟩:ai_)) k [.c (.i .i64), .c (.i .i64)] [] (fun r=>(r.1,r.2,())) (fun v1 v2=>(v1,v2)) true
noncomputable abbrev py_:List (Nat×Cut K TyK (Int×Int)):=[(5,ct cod [1,4,5] [.c (.r 0 0), .c (.i .i64), .c (.i .i64)] [.x [.i .i64, .l true .held, .s, .l true .str]] cg_),
  (9,ct cod [1,4,5,6,7] [.c (.r 0 0), .c (.i .i64), .c (.i .i64), .c (.i .i64), .c (.i .i64)] [.x [.i .i64, .l true .held, .s, .l true .str]] cH_)]
theorem nD_ (k:Nat):SummOk Try.prog cod 102 (jv_ k):=aE_ codOk Try.f102 (fun k=>ay_ [(106,dE_ k)]) py_ false [.tmp 2, .tmp 3] 0 [] aF_ Try.func102 (by kernel_rfl) (by kernel_rfl) (by kernel_rfl) (by kernel_rfl)
  (fun k=>Known.of tok eok codOk (all_cons (eu_ k) (ac_)))
  (fun k=>QuietOk.of (all_cons (fun h r=>⟨rfl,rfl⟩) (ac_)))
  (fun a=>rfl)
  (all_cons (ao_ codOk (by kernel_rfl) (by (repeat intro _);show _=_;kernel_rfl) (fun k=>by (repeat intro _);show _=_;kernel_rfl)) (all_cons (ao_ codOk (by kernel_rfl) (by (repeat intro _);show _=_;kernel_rfl) (fun k=>by (repeat intro _);show _=_;kernel_rfl)) (ac_)))
  (fun k=>by (repeat intro _);show _=_;kernel_rfl)
noncomputable def ks_ (k:Nat):a3_ K TyK:=sm cod (aw_) [.bo] [.g [.i .i64, .b, .i .i64, .i .i64, .i .i64, .b, .i .i64, .l true .item, .i .i64, .l true .held, .s, .l true .str]] [] (fun k v1 v2 v3 v4 v5 v6 v7 v8 v9 v10 v11 v12=>hu_ k (⟨v1,v2,v3,v4,v5,v6,(⟨v7,v8⟩:ak_),(⟨v9,v10,v11,v12⟩:ai_)⟩:am_)) k [.g [.i .i64, .i .i64, .b, .i .i64, .i .i64, .i .i64, .b, .i .i64, .o 0, .i .i64, .o 1, .s, .o 2, .o 3, .s]] [.l .item, .l .held, .l .str, .l .packet] (fun r=>(r.Code,r.End.Number,r.End.Up,r.End.Life,r.End.Peer,r.End.Since,r.End.Owes,r.End.Send.Base,(),r.End.Take.Next,(),r.End.Take.Open,(),(),r.Text,r.End.Send.Items,r.End.Take.Held,r.End.Take.Ready,r.Out,())) (fun v1 v2 v3 v4 v5 v6 v7 v8 v9 v10 v11 v12 v13 v14 v15=>(⟨v1,(⟨v2,v3,v4,v5,v6,v7,(⟨v8,v12⟩:ak_),(⟨v9,v13,v10,v14⟩:ai_)⟩:am_),v15,v11⟩:aw_)) false
noncomputable abbrev qK_:List (Nat×Cut K TyK (aw_)):=[(9,ct cod [2,3,4] [.c (.r 0 0), .c (.r 1 0), .c (.o 2)] [.x [.i .i64, .i .i64, .b, .i .i64, .i .i64, .i .i64, .b, .i .i64, .o 3, .i .i64, .o 4, .s, .o 5, .o 6, .s], .x [.i .i64, .b, .i .i64, .i .i64, .i .i64, .b, .i .i64, .o 7, .i .i64, .o 8, .s, .o 9], .l .packet, .l .item, .l .held, .l .str, .l .packet, .l .item, .l .held, .l .str] d4_),
  (13,ct cod [2,3,4,5,6,7] [.c (.r 0 0), .c (.r 1 0), .c (.o 2), .c (.r 3 0), .c (.o 4), .c (.i .i64)] [.x [.i .i64, .i .i64, .b, .i .i64, .i .i64, .i .i64, .b, .i .i64, .o 5, .i .i64, .o 6, .s, .o 7, .o 8, .s], .x [.i .i64, .b, .i .i64, .i .i64, .i .i64, .b, .i .i64, .o 9, .i .i64, .o 10, .s, .o 11], .l .packet, .x [.i .i64, .o 9], .l .int, .l .item, .l .held, .l .str, .l .packet, .l .item, .l .held, .l .str] cP_),
  (17,ct cod [2,3,4] [.c (.r 0 0), .c (.r 1 0), .c (.o 2)] [.x [.i .i64, .i .i64, .b, .i .i64, .i .i64, .i .i64, .b, .i .i64, .o 3, .i .i64, .o 4, .s, .o 5, .o 6, .s], .x [.i .i64, .b, .i .i64, .i .i64, .i .i64, .b, .i .i64, .o 7, .i .i64, .o 8, .s, .o 9], .l .packet, .l .item, .l .held, .l .str, .l .packet, .l .item, .l .held, .l .str] dI_),
  (22,ct cod [2,3,4] [.c (.r 0 0), .c (.r 1 0), .c (.o 2)] [.x [.i .i64, .i .i64, .b, .i .i64, .i .i64, .i .i64, .b, .i .i64, .o 3, .i .i64, .o 4, .s, .o 5, .o 6, .s], .x [.i .i64, .b, .i .i64, .i .i64, .i .i64, .b, .i .i64, .o 7, .i .i64, .o 8, .s, .o 9], .l .packet, .l .item, .l .held, .l .str, .l .packet, .l .item, .l .held, .l .str] ce_)]
theorem qb_ (k:Nat):SummOk Try.prog cod 42 (ks_ k):=aE_ codOk Try.f42 (fun k=>ay_ [(45,bW_ k),(52,dq_ k),(101,iQ_ k),(102,jv_ k)]) qK_ false [.cell 2 45] 0 [] aF_ Try.func42 (by kernel_rfl) (by kernel_rfl) (by kernel_rfl) (by kernel_rfl)
  (fun k=>Known.of tok eok codOk (all_cons (cd_ k) (all_cons (dP_ k) (all_cons (nu_ k) (all_cons (nD_ k) (ac_))))))
  (fun k=>QuietOk.of (all_cons (fun h r=>⟨rfl,rfl⟩) (all_cons (fun h r=>by cases h) (all_cons (fun h r=>by cases h) (all_cons (fun h r=>⟨rfl,rfl⟩) (ac_))))))
  (fun a=>rfl)
  (all_cons (ao_ codOk (by kernel_rfl) (by (repeat intro _);show _=_;kernel_rfl) (fun k=>by (repeat intro _);show _=_;kernel_rfl)) (all_cons (ao_ codOk (by kernel_rfl) (by (repeat intro _);show _=_;kernel_rfl) (fun k=>by (repeat intro _);show _=_;kernel_rfl)) (all_cons (ao_ codOk (by kernel_rfl) (by (repeat intro _);show _=_;kernel_rfl) (fun k=>by (repeat intro _);show _=_;kernel_rfl)) (all_cons (ao_ codOk (by kernel_rfl) (by (repeat intro _);show _=_;kernel_rfl) (fun k=>by (repeat intro _);show _=_;kernel_rfl)) (ac_)))))
  (fun k=>by (repeat intro _);show _=_;kernel_rfl)
noncomputable def jF_ (k:Nat):a3_ K TyK:=sm cod (ByteArray) [.bo, .bo] [.c (.i .i64), .c (.i .i64)] [] (bP_) k [.c (.s)] [] (fun r=>(r,())) (fun v1=>v1) true
noncomputable abbrev pE_:List (Nat×Cut K TyK (ByteArray)):=[(3,ct cod [0,1,5,6] [.c (.i .i64), .c (.i .i64), .c (.s), .c (.i .i64)] [] cR_)]
theorem nB_ (k:Nat):SummOk Try.prog cod 180 (jF_ k):=aE_ codOk Try.f180 (fun k=>ay_ []) pE_ false [.tmp 4] 0 [] aF_ Try.func180 (by kernel_rfl) (by kernel_rfl) (by kernel_rfl) (by kernel_rfl)
  (fun k=>Known.of tok eok codOk (ac_))
  (fun k=>QuietOk.of (ac_))
  (fun a=>rfl)
  (all_cons (ao_ codOk (by kernel_rfl) (by (repeat intro _);show _=_;kernel_rfl) (fun k=>by (repeat intro _);show _=_;kernel_rfl)) (ac_))
  (fun k=>by (repeat intro _);show _=_;kernel_rfl)
noncomputable def lg_ (k:Nat):a3_ K TyK:=sm cod (ByteArray) [.bo] [.g [.i .i64, .i .i64, .i .i64, .i .i64, .i .i64, .i .i64, .i .i64, .b, .s]] [] (fun k v1 v2 v3 v4 v5 v6 v7 v8 v9=>gT_ k (⟨v1,v2,v3,v4,v5,v6,v7,v8,v9⟩:ae_)) k [.c (.s)] [] (fun r=>(r,())) (fun v1=>v1) true
noncomputable abbrev se_:List (Nat×Cut K TyK (ByteArray)):=[(7,ct cod [1,3,4] [.c (.r 0 0), .c (.s), .c (.i .i64)] [.x [.i .i64, .i .i64, .i .i64, .i .i64, .i .i64, .i .i64, .i .i64, .b, .s]] eK_)]
theorem qH_ (k:Nat):SummOk Try.prog cod 169 (lg_ k):=aE_ codOk Try.f169 (fun k=>ay_ [(180,jF_ k)]) se_ false [.tmp 2] 0 [] aF_ Try.func169 (by kernel_rfl) (by kernel_rfl) (by kernel_rfl) (by kernel_rfl)
  (fun k=>Known.of tok eok codOk (all_cons (nB_ k) (ac_)))
  (fun k=>QuietOk.of (all_cons (fun h r=>⟨rfl,rfl⟩) (ac_)))
  (fun a=>rfl)
  (all_cons (ao_ codOk (by kernel_rfl) (by (repeat intro _);show _=_;kernel_rfl) (fun k=>by (repeat intro _);show _=_;kernel_rfl)) (ac_))
  (fun k=>by (repeat intro _);show _=_;kernel_rfl)
noncomputable def q1_ (k:Nat):a3_ K TyK:=sm cod (ByteArray) [.bo, .bo, .bo] [.c (.s), .c (.s), .c (.i .i64)] [] (oa_) k [.c (.s)] [] (fun r=>(r,())) (fun v1=>v1) true
noncomputable abbrev xZ_:List (Nat×Cut K TyK (ByteArray)):=[(6,ct cod [2,7,8,9] [.c (.i .i64), .c (.s), .c (.i .u64), .c (.i .i64)] [] fI_),
  (11,ct cod [2,8,10,11] [.c (.i .i64), .c (.i .u64), .c (.s), .c (.i .i64)] [] fj_)]
theorem vb_ (k:Nat):SummOk Try.prog cod 168 (q1_ k):=aE_ codOk Try.f168 (fun k=>ay_ [(89,bl_ k)]) xZ_ false [.tmp 6] 0 [] aF_ Try.func168 (by kernel_rfl) (by kernel_rfl) (by kernel_rfl) (by kernel_rfl)
  (fun k=>Known.of tok eok codOk (all_cons (a9_ k) (ac_)))
  (fun k=>QuietOk.of (all_cons (fun h r=>⟨rfl,rfl⟩) (ac_)))
  (fun a=>rfl)
  (all_cons (ao_ codOk (by kernel_rfl) (by (repeat intro _);show _=_;kernel_rfl) (fun k=>by (repeat intro _);show _=_;kernel_rfl)) (all_cons (ao_ codOk (by kernel_rfl) (by (repeat intro _);show _=_;kernel_rfl) (fun k=>by (repeat intro _);show _=_;kernel_rfl)) (ac_)))
  (fun k=>by (repeat intro _);show _=_;kernel_rfl)
noncomputable def fQ_ (k:Nat):a3_ K TyK:=sm cod (ByteArray) [.bo, .bo, .bo] [.g [.i .i64, .i .i64, .i .i64, .i .i64, .i .i64, .i .i64, .i .i64, .b, .s], .c (.s), .c (.i .i64)] [] (fun k v1 v2 v3 v4 v5 v6 v7 v8 v9 v10 v11=>di_ k (⟨v1,v2,v3,v4,v5,v6,v7,v8,v9⟩:ae_) v10 v11) k [.c (.s)] [] (fun r=>(r,())) (fun v1=>v1) true
theorem hF_ (k:Nat):SummOk Try.prog cod 140 (fQ_ k):=aE_ codOk Try.f140 (fun k=>ay_ [(53,kP_ k),(89,bl_ k),(169,lg_ k),(168,q1_ k)]) [] false [.tmp 6] 0 [] aF_ Try.func140 (by kernel_rfl) (by kernel_rfl) (by kernel_rfl) (by kernel_rfl)
  (fun k=>Known.of tok eok codOk (all_cons (mP_ k) (all_cons (a9_ k) (all_cons (qH_ k) (all_cons (vb_ k) (ac_))))))
  (fun k=>QuietOk.of (all_cons (fun h r=>⟨rfl,rfl⟩) (all_cons (fun h r=>⟨rfl,rfl⟩) (all_cons (fun h r=>⟨rfl,rfl⟩) (all_cons (fun h r=>⟨rfl,rfl⟩) (ac_))))))
  (fun a=>rfl)
  (ac_)
  (fun k=>by (repeat intro _);show _=_;kernel_rfl)
noncomputable def gB_ (k:Nat):a3_ K TyK:=sm cod (ab_) [.mv] [.g [.s, .i .i64, .o 0, .o 1, .s, .o 2, .o 3]] [.l .end, .l .parcel, .l .record, .l .record] (fun k v1 v2 v3 v4 v5 v6 v7=>fX_ k (⟨v1,v2,v4,v5,v3,v6,v7⟩:ab_)) k [.g [.s, .i .i64, .o 4, .o 5, .s, .o 6, .o 7]] [.d, .d, .d, .d, .l .end, .l .parcel, .l .record, .l .record] (fun r=>(r.Key,r.Width,(),(),r.Forged,(),(),r.Ends,r.Flight,r.Given,r.Taken,())) (fun v1 v2 v3 v4 v5 v6 v7=>(⟨v1,v2,v4,v5,v3,v6,v7⟩:ab_)) false
noncomputable abbrev sj_:List (Nat×Cut K TyK (ab_)):=[(2,ct cod [1,2,3] [.c (.r 4 0), .c (.r 5 0), .c (.i .i64)] [.d, .d, .d, .d, .x [.s, .i .i64, .o 6, .o 7, .s, .o 8, .o 9], .x [.s, .i .i64, .o 10, .o 11, .s, .o 12, .o 13], .l .end, .l .parcel, .l .record, .l .record, .l .end, .l .parcel, .l .record, .l .record] bU_),
  (7,ct cod [1,2,3,4,5] [.c (.r 4 0), .c (.r 5 0), .c (.i .i64), .c (.r 6 0), .c (.i .i64)] [.d, .d, .d, .d, .x [.s, .i .i64, .o 7, .o 8, .s, .o 9, .o 10], .x [.s, .i .i64, .o 11, .o 12, .s, .o 13, .o 14], .x [.i .i64, .i .i64, .b, .i .i64, .i .i64, .i .i64, .b, .i .i64, .o 15, .i .i64, .o 16, .s, .o 17, .o 18, .s], .l .end, .l .parcel, .l .record, .l .record, .l .end, .l .parcel, .l .record, .l .record, .d, .d, .d, .l .packet] dU_)]
theorem hM_ (k:Nat):SummOk Try.prog cod 141 (gB_ k):=aE_ codOk Try.f141 (fun k=>ay_ [(42,ks_ k),(140,fQ_ k)]) sj_ false [.cell 2 60] 4 [true,true,true,true] aF_ Try.func141 (by kernel_rfl) (by kernel_rfl) (by kernel_rfl) (by kernel_rfl)
  (fun k=>Known.of tok eok codOk (all_cons (qb_ k) (all_cons (hF_ k) (ac_))))
  (fun k=>QuietOk.of (all_cons (fun h r=>by cases h) (all_cons (fun h r=>⟨rfl,rfl⟩) (ac_))))
  (fun a=>rfl)
  (all_cons (ao_ codOk (by kernel_rfl) (by (repeat intro _);show _=_;kernel_rfl) (fun k=>by (repeat intro _);show _=_;kernel_rfl)) (all_cons (ao_ codOk (by kernel_rfl) (by (repeat intro _);show _=_;kernel_rfl) (fun k=>by (repeat intro _);show _=_;kernel_rfl)) (ac_)))
  (fun k=>by (repeat intro _);show _=_;kernel_rfl)
noncomputable def i1_ (k:Nat):a3_ K TyK:=sm cod (List aI_×Bool) [.mv, .mv, .mv] [.c (.o 0), .g [.i .i64, .s, .s], .c (.i .i64)] [.l .l7count] (fun k v1 v2 v3 v4 v5=>gA_ k v5 (⟨v1,v2,v3⟩:ad_) v4) k [.c (.o 1), .c (.b)] [.d, .l .l7count] (fun r=>((),r.2,r.1,())) (fun v1 v2=>(v2,v1)) false
noncomputable abbrev pQ_:List (Nat×Cut K TyK (List aI_×Bool)):=[(2,ct cod [0,2,4,8] [.c (.o 1), .c (.i .i64), .c (.r 2 0), .c (.i .i64)] [.d, .l .l7count, .x [.i .i64, .s, .s]] bG_)]
theorem nF_ (k:Nat):SummOk Try.prog cod 142 (i1_ k):=aE_ codOk Try.f142 (fun k=>ay_ []) pQ_ false [.tmp 6, .tmp 7] 1 [true] aF_ Try.func142 (by kernel_rfl) (by kernel_rfl) (by kernel_rfl) (by kernel_rfl)
  (fun k=>Known.of tok eok codOk (ac_))
  (fun k=>QuietOk.of (ac_))
  (fun a=>rfl)
  (all_cons (ao_ codOk (by kernel_rfl) (by (repeat intro _);show _=_;kernel_rfl) (fun k=>by (repeat intro _);show _=_;kernel_rfl)) (ac_))
  (fun k=>by (repeat intro _);show _=_;kernel_rfl)
noncomputable def eT_ (k:Nat):a3_ K TyK:=sm cod (List ad_) [.bo, .bo] [.c (.l true .parcel), .c (.i .i64)] [] (dR_) k [.c (.o 0)] [.l .parcel] (fun r=>((),r,())) (fun v1=>v1) false
theorem fU_ (k:Nat):SummOk Try.prog cod 144 (eT_ k):=aE_ codOk Try.f144 (fun k=>ay_ []) [] false [.tmp 4] 0 [] aF_ Try.func144 (by kernel_rfl) (by kernel_rfl) (by kernel_rfl) (by kernel_rfl)
  (fun k=>Known.of tok eok codOk (ac_))
  (fun k=>QuietOk.of (ac_))
  (fun a=>rfl)
  (ac_)
  (fun k=>by (repeat intro _);show _=_;kernel_rfl)
noncomputable def lH_ (k:Nat):a3_ K TyK:=sm cod (Int) [.bo] [.c (.s)] [] (fK_) k [.c (.i .i64)] [] (fun r=>(r,())) (fun v1=>v1) true
noncomputable abbrev r8_:List (Nat×Cut K TyK (Int)):=[(3,ct cod [0,3,4] [.c (.s), .c (.i .i64), .c (.i .i64)] [] dT_)]
theorem qz_ (k:Nat):SummOk Try.prog cod 153 (lH_ k):=aE_ codOk Try.f153 (fun k=>ay_ []) r8_ false [.tmp 2] 0 [] aF_ Try.func153 (by kernel_rfl) (by kernel_rfl) (by kernel_rfl) (by kernel_rfl)
  (fun k=>Known.of tok eok codOk (ac_))
  (fun k=>QuietOk.of (ac_))
  (fun a=>rfl)
  (all_cons (ao_ codOk (by kernel_rfl) (by (repeat intro _);show _=_;kernel_rfl) (fun k=>by (repeat intro _);show _=_;kernel_rfl)) (ac_))
  (fun k=>by (repeat intro _);show _=_;kernel_rfl)
noncomputable def h2_ (k:Nat):a3_ K TyK:=sm cod (ae_×Bool) [.bo, .bo, .bo] [.c (.s), .c (.s), .c (.i .i64)] [] (fw_) k [.g [.i .i64, .i .i64, .i .i64, .i .i64, .i .i64, .i .i64, .i .i64, .b, .s], .c (.b)] [] (fun r=>(r.1.Kind,r.1.From,r.1.Mine,r.1.Yours,r.1.Next,r.1.Mask,r.1.Seq,r.1.Last,r.1.Part,r.2,())) (fun v1 v2 v3 v4 v5 v6 v7 v8 v9 v10=>((⟨v1,v2,v3,v4,v5,v6,v7,v8,v9⟩:ae_),v10)) true
noncomputable abbrev my_:List (Nat×Cut K TyK (ae_×Bool)):=[(11,ct cod [0,1,2,6,9] [.c (.s), .c (.s), .c (.i .i64), .c (.r 0 0), .c (.r 1 0)] [.x [.i .i64, .i .i64, .i .i64, .i .i64, .i .i64, .i .i64, .i .i64, .b, .s], .x [.i .i64, .i .i64, .i .i64, .i .i64, .i .i64, .i .i64, .i .i64, .b, .s]] cx_)]
theorem lu_ (k:Nat):SummOk Try.prog cod 88 (h2_ k):=aE_ codOk Try.f88 (fun k=>ay_ [(89,bl_ k),(153,lH_ k),(140,fQ_ k)]) my_ false [.cell 6 48, .tmp 7] 0 [] aF_ Try.func88 (by kernel_rfl) (by kernel_rfl) (by kernel_rfl) (by kernel_rfl)
  (fun k=>Known.of tok eok codOk (all_cons (a9_ k) (all_cons (qz_ k) (all_cons (hF_ k) (ac_)))))
  (fun k=>QuietOk.of (all_cons (fun h r=>⟨rfl,rfl⟩) (all_cons (fun h r=>⟨rfl,rfl⟩) (all_cons (fun h r=>⟨rfl,rfl⟩) (ac_)))))
  (fun a=>rfl)
  (all_cons (ao_ codOk (by kernel_rfl) (by (repeat intro _);show _=_;kernel_rfl) (fun k=>by (repeat intro _);show _=_;kernel_rfl)) (ac_))
  (fun k=>by (repeat intro _);show _=_;kernel_rfl)
noncomputable def f2_ (k:Nat):a3_ K TyK:=sm cod (ab_) [.mv, .mv] [.g [.s, .i .i64, .o 0, .o 1, .s, .o 2, .o 3], .c (.i .i64)] [.l .end, .l .parcel, .l .record, .l .record] (fun k v1 v2 v3 v4 v5 v6 v7 v8=>fd_ k (⟨v1,v2,v5,v6,v3,v7,v8⟩:ab_) v4) k [.g [.s, .i .i64, .o 4, .o 5, .s, .o 6, .o 7]] [.d, .d, .d, .d, .l .end, .l .parcel, .l .record, .l .record] (fun r=>(r.Key,r.Width,(),(),r.Forged,(),(),r.Ends,r.Flight,r.Given,r.Taken,())) (fun v1 v2 v3 v4 v5 v6 v7=>(⟨v1,v2,v4,v5,v3,v6,v7⟩:ab_)) false
noncomputable abbrev qO_:List (Nat×Cut K TyK (ab_)):=[(8,ct cod [2,4,5,6] [.c (.r 4 0), .c (.r 5 0), .c (.r 6 0), .c (.r 7 0)] [.d, .d, .d, .d, .x [.s, .i .i64, .o 8, .o 9, .s, .o 10, .o 11], .x [.s, .i .i64, .o 12, .o 13, .s, .o 14, .o 15], .x [.i .i64, .s, .s], .x [.i .i64, .i .i64, .i .i64, .i .i64, .i .i64, .i .i64, .i .i64, .b, .s], .l .end, .l .parcel, .l .record, .l .record, .l .end, .l .parcel, .l .record, .l .record] de_)]
theorem g5_ (k:Nat):SummOk Try.prog cod 143 (f2_ k):=aE_ codOk Try.f143 (fun k=>ay_ [(144,eT_ k),(88,h2_ k),(12,km_ k)]) qO_ false [.cell 4 60] 4 [true,true,true,true] aF_ Try.func143 (by kernel_rfl) (by kernel_rfl) (by kernel_rfl) (by kernel_rfl)
  (fun k=>Known.of tok eok codOk (all_cons (fU_ k) (all_cons (lu_ k) (all_cons (pJ_ k) (ac_)))))
  (fun k=>QuietOk.of (all_cons (fun h r=>by cases h) (all_cons (fun h r=>⟨rfl,rfl⟩) (all_cons (fun h r=>by cases h) (ac_)))))
  (fun a=>rfl)
  (all_cons (ao_ codOk (by kernel_rfl) (by (repeat intro _);show _=_;kernel_rfl) (fun k=>by (repeat intro _);show _=_;kernel_rfl)) (ac_))
  (fun k=>by (repeat intro _);show _=_;kernel_rfl)
noncomputable def kr_ (k:Nat):a3_ K TyK:=sm cod (am_) [.bo] [.g [.i .i64, .b, .i .i64, .i .i64, .i .i64, .b, .i .i64, .l true .item, .i .i64, .l true .held, .s, .l true .str]] [] (fun k v1 v2 v3 v4 v5 v6 v7 v8 v9 v10 v11 v12=>hG_ k (⟨v1,v2,v3,v4,v5,v6,(⟨v7,v8⟩:ak_),(⟨v9,v10,v11,v12⟩:ai_)⟩:am_)) k [.g [.i .i64, .b, .i .i64, .i .i64, .i .i64, .b, .i .i64, .o 0, .i .i64, .o 1, .s, .o 2]] [.l .item, .l .held, .l .str] (fun r=>(r.Number,r.Up,r.Life,r.Peer,r.Since,r.Owes,r.Send.Base,(),r.Take.Next,(),r.Take.Open,(),r.Send.Items,r.Take.Held,r.Take.Ready,())) (fun v1 v2 v3 v4 v5 v6 v7 v8 v9 v10 v11 v12=>(⟨v1,v2,v3,v4,v5,v6,(⟨v7,v10⟩:ak_),(⟨v8,v11,v9,v12⟩:ai_)⟩:am_)) false
theorem oQ_ (k:Nat):SummOk Try.prog cod 170 (kr_ k):=aE_ codOk Try.f170 (fun k=>ay_ [(45,bW_ k)]) [] false [.cell 2 42] 0 [] aF_ Try.func170 (by kernel_rfl) (by kernel_rfl) (by kernel_rfl) (by kernel_rfl)
  (fun k=>Known.of tok eok codOk (all_cons (cd_ k) (ac_)))
  (fun k=>QuietOk.of (all_cons (fun h r=>⟨rfl,rfl⟩) (ac_)))
  (fun a=>rfl)
  (ac_)
  (fun k=>by (repeat intro _);show _=_;kernel_rfl)
noncomputable def ki_ (k:Nat):a3_ K TyK:=sm cod (am_) [.bo] [.g [.i .i64, .b, .i .i64, .i .i64, .i .i64, .b, .i .i64, .l true .item, .i .i64, .l true .held, .s, .l true .str]] [] (fun k v1 v2 v3 v4 v5 v6 v7 v8 v9 v10 v11 v12=>hg_ k (⟨v1,v2,v3,v4,v5,v6,(⟨v7,v8⟩:ak_),(⟨v9,v10,v11,v12⟩:ai_)⟩:am_)) k [.g [.i .i64, .b, .i .i64, .i .i64, .i .i64, .b, .i .i64, .o 0, .i .i64, .o 1, .s, .o 2]] [.l .item, .l .held, .l .str] (fun r=>(r.Number,r.Up,r.Life,r.Peer,r.Since,r.Owes,r.Send.Base,(),r.Take.Next,(),r.Take.Open,(),r.Send.Items,r.Take.Held,r.Take.Ready,())) (fun v1 v2 v3 v4 v5 v6 v7 v8 v9 v10 v11 v12=>(⟨v1,v2,v3,v4,v5,v6,(⟨v7,v10⟩:ak_),(⟨v8,v11,v9,v12⟩:ai_)⟩:am_)) false
theorem o9_ (k:Nat):SummOk Try.prog cod 171 (ki_ k):=aE_ codOk Try.f171 (fun k=>ay_ [(45,bW_ k),(52,dq_ k)]) [] false [.cell 2 42] 0 [] aF_ Try.func171 (by kernel_rfl) (by kernel_rfl) (by kernel_rfl) (by kernel_rfl)
  (fun k=>Known.of tok eok codOk (all_cons (cd_ k) (all_cons (dP_ k) (ac_))))
  (fun k=>QuietOk.of (all_cons (fun h r=>⟨rfl,rfl⟩) (all_cons (fun h r=>by cases h) (ac_))))
  (fun a=>rfl)
  (ac_)
  (fun k=>by (repeat intro _);show _=_;kernel_rfl)
noncomputable def rk_ (k:Nat):a3_ K TyK:=sm cod (List az_) [.bo] [.c (.s)] [] (jQ_) k [.c (.o 0)] [.l .part] (fun r=>((),r,())) (fun v1=>v1) false
noncomputable abbrev yh_:List (Nat×Cut K TyK (List az_)):=[(4,ct cod [0,3] [.c (.s), .c (.o 0)] [.l .part] e6_)]
theorem vn_ (k:Nat):SummOk Try.prog cod 156 (rk_ k):=aE_ codOk Try.f156 (fun k=>ay_ []) yh_ false [.tmp 2] 0 [] aF_ Try.func156 (by kernel_rfl) (by kernel_rfl) (by kernel_rfl) (by kernel_rfl)
  (fun k=>Known.of tok eok codOk (ac_))
  (fun k=>QuietOk.of (ac_))
  (fun a=>rfl)
  (all_cons (ao_ codOk (by kernel_rfl) (by (repeat intro _);show _=_;kernel_rfl) (fun k=>by (repeat intro _);show _=_;kernel_rfl)) (ac_))
  (fun k=>by (repeat intro _);show _=_;kernel_rfl)
noncomputable def jx_ (k:Nat):a3_ K TyK:=sm cod (ak_×Int) [.bo, .bo] [.g [.i .i64, .l true .item], .c (.s)] [] (fun k v1 v2 v3=>dw_ k (⟨v1,v2⟩:ak_) v3) k [.g [.i .i64, .o 0], .c (.i .i64)] [.l .item] (fun r=>(r.1.Base,(),r.2,r.1.Items,())) (fun v1 v2 v3=>((⟨v1,v3⟩:ak_),v2)) false
noncomputable abbrev oA_:List (Nat×Cut K TyK (ak_×Int)):=[(9,ct cod [4,6,8,9] [.c (.r 0 0), .c (.o 1), .c (.r 2 0), .c (.i .i64)] [.x [.i .i64, .o 3], .l .part, .x [.i .i64, .o 4], .l .item, .l .item] cF_)]
theorem nl_ (k:Nat):SummOk Try.prog cod 103 (jx_ k):=aE_ codOk Try.f103 (fun k=>ay_ [(105,dO_ k),(156,rk_ k),(118,fC_ k)]) oA_ false [.cell 4 37, .tmp 5] 0 [] aF_ Try.func103 (by kernel_rfl) (by kernel_rfl) (by kernel_rfl) (by kernel_rfl)
  (fun k=>Known.of tok eok codOk (all_cons (ew_ k) (all_cons (vn_ k) (all_cons (f6_ k) (ac_)))))
  (fun k=>QuietOk.of (all_cons (fun h r=>⟨rfl,rfl⟩) (all_cons (fun h r=>by cases h) (all_cons (fun h r=>by cases h) (ac_)))))
  (fun a=>rfl)
  (all_cons (ao_ codOk (by kernel_rfl) (by (repeat intro _);show _=_;kernel_rfl) (fun k=>by (repeat intro _);show _=_;kernel_rfl)) (ac_))
  (fun k=>by (repeat intro _);show _=_;kernel_rfl)
noncomputable def kg_ (k:Nat):a3_ K TyK:=sm cod (aw_) [.bo, .bo] [.g [.i .i64, .b, .i .i64, .i .i64, .i .i64, .b, .i .i64, .l true .item, .i .i64, .l true .held, .s, .l true .str], .c (.s)] [] (fun k v1 v2 v3 v4 v5 v6 v7 v8 v9 v10 v11 v12 v13=>hA_ k (⟨v1,v2,v3,v4,v5,v6,(⟨v7,v8⟩:ak_),(⟨v9,v10,v11,v12⟩:ai_)⟩:am_) v13) k [.g [.i .i64, .i .i64, .b, .i .i64, .i .i64, .i .i64, .b, .i .i64, .o 0, .i .i64, .o 1, .s, .o 2, .o 3, .s]] [.l .item, .l .held, .l .str, .l .packet] (fun r=>(r.Code,r.End.Number,r.End.Up,r.End.Life,r.End.Peer,r.End.Since,r.End.Owes,r.End.Send.Base,(),r.End.Take.Next,(),r.End.Take.Open,(),(),r.Text,r.End.Send.Items,r.End.Take.Held,r.End.Take.Ready,r.Out,())) (fun v1 v2 v3 v4 v5 v6 v7 v8 v9 v10 v11 v12 v13 v14 v15=>(⟨v1,(⟨v2,v3,v4,v5,v6,v7,(⟨v8,v12⟩:ak_),(⟨v9,v13,v10,v14⟩:ai_)⟩:am_),v15,v11⟩:aw_)) false
theorem oo_ (k:Nat):SummOk Try.prog cod 43 (kg_ k):=aE_ codOk Try.f43 (fun k=>ay_ [(45,bW_ k),(103,jx_ k),(52,dq_ k)]) [] false [.cell 4 45] 0 [] aF_ Try.func43 (by kernel_rfl) (by kernel_rfl) (by kernel_rfl) (by kernel_rfl)
  (fun k=>Known.of tok eok codOk (all_cons (cd_ k) (all_cons (nl_ k) (all_cons (dP_ k) (ac_)))))
  (fun k=>QuietOk.of (all_cons (fun h r=>⟨rfl,rfl⟩) (all_cons (fun h r=>by cases h) (all_cons (fun h r=>by cases h) (ac_)))))
  (fun a=>rfl)
  (ac_)
  (fun k=>by (repeat intro _);show _=_;kernel_rfl)
noncomputable def jf_ (k:Nat):a3_ K TyK:=sm cod (ai_×ByteArray×Bool) [.bo] [.g [.i .i64, .l true .held, .s, .l true .str]] [] (fun k v1 v2 v3 v4=>fx_ k (⟨v1,v2,v3,v4⟩:ai_)) k [.g [.i .i64, .o 0, .s, .o 1], .c (.s), .c (.b)] [.l .held, .l .str] (fun r=>(r.1.Next,(),r.1.Open,(),r.2.1,r.2.2,r.1.Held,r.1.Ready,())) (fun v1 v2 v3 v4 v5 v6=>((⟨v1,v5,v2,v6⟩:ai_),v3,v4)) false
theorem nr_ (k:Nat):SummOk Try.prog cod 104 (jf_ k):=aE_ codOk Try.f104 (fun k=>ay_ [(106,dE_ k),(119,gE_ k),(122,kX_ k)]) [] false [.cell 2 40, .tmp 3, .tmp 4] 0 [] aF_ Try.func104 (by kernel_rfl) (by kernel_rfl) (by kernel_rfl) (by kernel_rfl)
  (fun k=>Known.of tok eok codOk (all_cons (eu_ k) (all_cons (hJ_ k) (all_cons (m8_ k) (ac_)))))
  (fun k=>QuietOk.of (all_cons (fun h r=>⟨rfl,rfl⟩) (all_cons (fun h r=>by cases h) (all_cons (fun h r=>by cases h) (ac_)))))
  (fun a=>rfl)
  (ac_)
  (fun k=>by (repeat intro _);show _=_;kernel_rfl)
noncomputable def ko_ (k:Nat):a3_ K TyK:=sm cod (aw_) [.bo] [.g [.i .i64, .b, .i .i64, .i .i64, .i .i64, .b, .i .i64, .l true .item, .i .i64, .l true .held, .s, .l true .str]] [] (fun k v1 v2 v3 v4 v5 v6 v7 v8 v9 v10 v11 v12=>hh_ k (⟨v1,v2,v3,v4,v5,v6,(⟨v7,v8⟩:ak_),(⟨v9,v10,v11,v12⟩:ai_)⟩:am_)) k [.g [.i .i64, .i .i64, .b, .i .i64, .i .i64, .i .i64, .b, .i .i64, .o 0, .i .i64, .o 1, .s, .o 2, .o 3, .s]] [.l .item, .l .held, .l .str, .l .packet] (fun r=>(r.Code,r.End.Number,r.End.Up,r.End.Life,r.End.Peer,r.End.Since,r.End.Owes,r.End.Send.Base,(),r.End.Take.Next,(),r.End.Take.Open,(),(),r.Text,r.End.Send.Items,r.End.Take.Held,r.End.Take.Ready,r.Out,())) (fun v1 v2 v3 v4 v5 v6 v7 v8 v9 v10 v11 v12 v13 v14 v15=>(⟨v1,(⟨v2,v3,v4,v5,v6,v7,(⟨v8,v12⟩:ak_),(⟨v9,v13,v10,v14⟩:ai_)⟩:am_),v15,v11⟩:aw_)) false
theorem pa_ (k:Nat):SummOk Try.prog cod 44 (ko_ k):=aE_ codOk Try.f44 (fun k=>ay_ [(45,bW_ k),(104,jf_ k),(52,dq_ k)]) [] false [.cell 2 45] 0 [] aF_ Try.func44 (by kernel_rfl) (by kernel_rfl) (by kernel_rfl) (by kernel_rfl)
  (fun k=>Known.of tok eok codOk (all_cons (cd_ k) (all_cons (nr_ k) (all_cons (dP_ k) (ac_)))))
  (fun k=>QuietOk.of (all_cons (fun h r=>⟨rfl,rfl⟩) (all_cons (fun h r=>by cases h) (all_cons (fun h r=>by cases h) (ac_)))))
  (fun a=>rfl)
  (ac_)
  (fun k=>by (repeat intro _);show _=_;kernel_rfl)
noncomputable def i8_ (k:Nat):a3_ K TyK:=sm cod (ab_) [.mv, .mv] [.g [.s, .i .i64, .o 0, .o 1, .s, .o 2, .o 3], .g [.i .i64, .i .i64, .i .i64, .i .i64, .s]] [.l .end, .l .parcel, .l .record, .l .record] (fun k v1 v2 v3 v4 v5 v6 v7 v8 v9 v10 v11 v12=>gM_ k (⟨v1,v2,v9,v10,v3,v11,v12⟩:ab_) (⟨v4,v5,v6,v7,v8⟩:aS_)) k [.g [.s, .i .i64, .o 4, .o 5, .s, .o 6, .o 7]] [.d, .d, .d, .d, .l .end, .l .parcel, .l .record, .l .record] (fun r=>(r.Key,r.Width,(),(),r.Forged,(),(),r.Ends,r.Flight,r.Given,r.Taken,())) (fun v1 v2 v3 v4 v5 v6 v7=>(⟨v1,v2,v4,v5,v3,v6,v7⟩:ab_)) false
noncomputable abbrev uo_:List (Nat×Cut K TyK (ab_)):=[(18,ct cod [2,4] [.c (.r 4 0), .c (.r 5 0)] [.d, .d, .d, .d, .x [.s, .i .i64, .o 6, .o 7, .s, .o 8, .o 9], .x [.s, .i .i64, .o 10, .o 11, .s, .o 12, .o 13], .l .end, .l .parcel, .l .record, .l .record, .l .end, .l .parcel, .l .record, .l .record] bd_)]
theorem lb_ (k:Nat):SummOk Try.prog cod 145 (i8_ k):=aE_ codOk Try.f145 (fun k=>ay_ [(170,kr_ k),(171,ki_ k),(43,kg_ k),(44,ko_ k)]) uo_ false [.cell 4 60] 4 [true,true,true,true] aF_ Try.func145 (by kernel_rfl) (by kernel_rfl) (by kernel_rfl) (by kernel_rfl)
  (fun k=>Known.of tok eok codOk (all_cons (oQ_ k) (all_cons (o9_ k) (all_cons (oo_ k) (all_cons (pa_ k) (ac_))))))
  (fun k=>QuietOk.of (all_cons (fun h r=>by cases h) (all_cons (fun h r=>by cases h) (all_cons (fun h r=>by cases h) (all_cons (fun h r=>by cases h) (ac_))))))
  (fun a=>rfl)
  (all_cons (ao_ codOk (by kernel_rfl) (by (repeat intro _);show _=_;kernel_rfl) (fun k=>by (repeat intro _);show _=_;kernel_rfl)) (ac_))
  (fun k=>by (repeat intro _);show _=_;kernel_rfl)
noncomputable def oG_ (k:Nat):a3_ K TyK:=sm cod (ab_) [.bo, .bo, .bo] [.g [.s, .i .i64, .l true .end, .l true .parcel, .s, .l true .record, .l true .record], .c (.i .i64), .c (.i .i64)] [] (fun k v1 v2 v3 v4 v5 v6 v7 v8 v9=>lX_ k (⟨v1,v2,v3,v4,v5,v6,v7⟩:ab_) v8 v9) k [.g [.s, .i .i64, .o 0, .o 1, .s, .o 2, .o 3]] [.l .end, .l .parcel, .l .record, .l .record] (fun r=>(r.Key,r.Width,(),(),r.Forged,(),(),r.Ends,r.Flight,r.Given,r.Taken,())) (fun v1 v2 v3 v4 v5 v6 v7=>(⟨v1,v2,v4,v5,v3,v6,v7⟩:ab_)) false
noncomputable abbrev vH_:List (Nat×Cut K TyK (ab_)):=[(6,ct cod [1,2,6,7,8,9] [.c (.i .i64), .c (.i .i64), .c (.r 0 0), .c (.r 1 0), .c (.o 2), .c (.i .i64)] [.x [.s, .i .i64, .o 3, .o 4, .s, .o 5, .o 6], .x [.s, .i .i64, .o 7, .o 8, .s, .o 9, .o 10], .l .l7count, .l .end, .l .parcel, .l .record, .l .record, .l .end, .l .parcel, .l .record, .l .record] fg_),
  (9,ct cod [1,2,6,7,8,9] [.c (.i .i64), .c (.i .i64), .c (.r 0 0), .c (.r 1 0), .c (.o 2), .c (.i .i64)] [.x [.s, .i .i64, .o 3, .o 4, .s, .o 5, .o 6], .x [.s, .i .i64, .o 7, .o 8, .s, .o 9, .o 10], .l .l7count, .l .end, .l .parcel, .l .record, .l .record, .l .end, .l .parcel, .l .record, .l .record] d5_),
  (16,ct cod [1,2,6,7,8,9,12] [.c (.i .i64), .c (.i .i64), .c (.r 0 0), .c (.r 1 0), .c (.o 2), .c (.i .i64), .c (.i .i64)] [.x [.s, .i .i64, .o 3, .o 4, .s, .o 5, .o 6], .x [.s, .i .i64, .o 7, .o 8, .s, .o 9, .o 10], .l .l7count, .l .end, .l .parcel, .l .record, .l .record, .l .end, .l .parcel, .l .record, .l .record] cl_),
  (19,ct cod [1,2,6,7,8,9,12,13] [.c (.i .i64), .c (.i .i64), .c (.r 0 0), .c (.r 1 0), .c (.o 2), .c (.i .i64), .c (.i .i64), .c (.i .i64)] [.x [.s, .i .i64, .o 3, .o 4, .s, .o 5, .o 6], .x [.s, .i .i64, .o 7, .o 8, .s, .o 9, .o 10], .l .l7count, .l .end, .l .parcel, .l .record, .l .record, .l .end, .l .parcel, .l .record, .l .record] et_)]
theorem ti_ (k:Nat):SummOk Try.prog cod 72 (oG_ k):=aE_ codOk Try.f72 (fun k=>ay_ [(34,eo_ k),(89,bl_ k),(85,im_ k),(141,gB_ k),(142,i1_ k),(143,f2_ k),(144,eT_ k),(145,i8_ k)]) vH_ false [.cell 6 60] 0 [] aF_ Try.func72 (by kernel_rfl) (by kernel_rfl) (by kernel_rfl) (by kernel_rfl)
  (fun k=>Known.of tok eok codOk (all_cons (fs_ k) (all_cons (a9_ k) (all_cons (kt_ k) (all_cons (hM_ k) (all_cons (nF_ k) (all_cons (g5_ k) (all_cons (fU_ k) (all_cons (lb_ k) (ac_))))))))))
  (fun k=>QuietOk.of (all_cons (fun h r=>⟨rfl,rfl⟩) (all_cons (fun h r=>⟨rfl,rfl⟩) (all_cons (fun h r=>by cases h) (all_cons (fun h r=>by cases h) (all_cons (fun h r=>by cases h) (all_cons (fun h r=>by cases h) (all_cons (fun h r=>by cases h) (all_cons (fun h r=>by cases h) (ac_))))))))))
  (fun a=>rfl)
  (all_cons (ao_ codOk (by kernel_rfl) (by (repeat intro _);show _=_;kernel_rfl) (fun k=>by (repeat intro _);show _=_;kernel_rfl)) (all_cons (ao_ codOk (by kernel_rfl) (by (repeat intro _);show _=_;kernel_rfl) (fun k=>by (repeat intro _);show _=_;kernel_rfl)) (all_cons (ao_ codOk (by kernel_rfl) (by (repeat intro _);show _=_;kernel_rfl) (fun k=>by (repeat intro _);show _=_;kernel_rfl)) (all_cons (ao_ codOk (by kernel_rfl) (by (repeat intro _);show _=_;kernel_rfl) (fun k=>by (repeat intro _);show _=_;kernel_rfl)) (ac_)))))
  (fun k=>by (repeat intro _);show _=_;kernel_rfl)
noncomputable def iB_ (k:Nat):a3_ K TyK:=sm cod (ByteArray×as_) [.bo] [.c (.r 0 0)] [.x [.l false .byte, .i .i64]] (fun k v1 v2=>c3_ k (⟨v1,v2⟩:as_)) k [.c (.s)] [.x [.l false .byte, .i .i64]] (fun r=>(r.1,r.2.b,r.2.p,())) (fun v1 v2 v3=>(v1,(⟨v2,v3⟩:as_))) false
noncomputable abbrev ni_:List (Nat×Cut K TyK (ByteArray×as_)):=[(12,ct cod [0,3,4] [.c (.r 0 0), .c (.s), .c (.i .i64)] [.x [.l false .byte, .i .i64]] b3_)]
theorem mo_ (k:Nat):SummOk Try.prog cod 95 (iB_ k):=aE_ codOk Try.f95 (fun k=>ay_ [(73,cM_ k),(94,in_ k)]) ni_ false [.tmp 2] 1 [false] aF_ Try.func95 (by kernel_rfl) (by kernel_rfl) (by kernel_rfl) (by kernel_rfl)
  (fun k=>Known.of tok eok codOk (all_cons (dk_ k) (all_cons (kp_ k) (ac_))))
  (fun k=>QuietOk.of (all_cons (fun h r=>by cases h) (all_cons (fun h r=>⟨rfl,rfl⟩) (ac_))))
  (fun a=>rfl)
  (all_cons (ao_ codOk (by kernel_rfl) (by (repeat intro _);show _=_;kernel_rfl) (fun k=>by (repeat intro _);show _=_;kernel_rfl)) (ac_))
  (fun k=>by (repeat intro _);show _=_;kernel_rfl)
noncomputable def j7_ (k:Nat):a3_ K TyK:=sm cod (aS_×as_) [.bo] [.c (.r 0 0)] [.x [.l false .byte, .i .i64]] (fun k v1 v2=>hB_ k (⟨v1,v2⟩:as_)) k [.g [.i .i64, .i .i64, .i .i64, .i .i64, .s]] [.x [.l false .byte, .i .i64]] (fun r=>(r.1.Kind,r.1.A,r.1.B,r.1.C,r.1.Text,r.2.b,r.2.p,())) (fun v1 v2 v3 v4 v5 v6 v7=>((⟨v1,v2,v3,v4,v5⟩:aS_),(⟨v6,v7⟩:as_))) false
noncomputable abbrev qw_:List (Nat×Cut K TyK (aS_×as_)):=[(5,ct cod [0,2,3,4] [.c (.r 0 0), .c (.r 1 0), .c (.i .i64), .c (.i .i64)] [.x [.l false .byte, .i .i64], .x [.i .i64, .i .i64, .i .i64, .i .i64, .s]] ea_),
  (17,ct cod [2,4] [.c (.r 1 0), .c (.i .i64)] [.x [.l false .byte, .i .i64], .x [.i .i64, .i .i64, .i .i64, .i .i64, .s]] dH_),
  (18,ct cod [0,2,4,5,35] [.c (.r 0 0), .c (.r 1 0), .c (.i .i64), .c (.i .i64), .c (.i .i64)] [.x [.l false .byte, .i .i64], .x [.i .i64, .i .i64, .i .i64, .i .i64, .s]] gp_),
  (20,ct cod [2,4] [.c (.r 1 0), .c (.i .i64)] [.x [.l false .byte, .i .i64], .x [.i .i64, .i .i64, .i .i64, .i .i64, .s]] dC_),
  (21,ct cod [0,2,4,5,35] [.c (.r 0 0), .c (.r 1 0), .c (.i .i64), .c (.i .i64), .c (.i .i64)] [.x [.l false .byte, .i .i64], .x [.i .i64, .i .i64, .i .i64, .i .i64, .s]] eV_)]
theorem o1_ (k:Nat):SummOk Try.prog cod 87 (j7_ k):=aE_ codOk Try.f87 (fun k=>ay_ [(73,cM_ k),(95,iB_ k)]) qw_ false [.cell 2 71] 1 [false] aF_ Try.func87 (by kernel_rfl) (by kernel_rfl) (by kernel_rfl) (by kernel_rfl)
  (fun k=>Known.of tok eok codOk (all_cons (dk_ k) (all_cons (mo_ k) (ac_))))
  (fun k=>QuietOk.of (all_cons (fun h r=>by cases h) (all_cons (fun h r=>by cases h) (ac_))))
  (fun a=>rfl)
  (all_cons (ao_ codOk (by kernel_rfl) (by (repeat intro _);show _=_;kernel_rfl) (fun k=>by (repeat intro _);show _=_;kernel_rfl)) (all_cons (ao_ codOk (by kernel_rfl) (by (repeat intro _);show _=_;kernel_rfl) (fun k=>by (repeat intro _);show _=_;kernel_rfl)) (all_cons (ao_ codOk (by kernel_rfl) (by (repeat intro _);show _=_;kernel_rfl) (fun k=>by (repeat intro _);show _=_;kernel_rfl)) (all_cons (ao_ codOk (by kernel_rfl) (by (repeat intro _);show _=_;kernel_rfl) (fun k=>by (repeat intro _);show _=_;kernel_rfl)) (all_cons (ao_ codOk (by kernel_rfl) (by (repeat intro _);show _=_;kernel_rfl) (fun k=>by (repeat intro _);show _=_;kernel_rfl)) (ac_))))))
  (fun k=>by (repeat intro _);show _=_;kernel_rfl)
noncomputable def jt_ (k:Nat):a3_ K TyK:=sm cod (ab_) [.mv, .mv] [.g [.s, .i .i64, .o 0, .o 1, .s, .o 2, .o 3], .g [.i .i64, .i .i64, .i .i64, .i .i64, .s]] [.l .end, .l .parcel, .l .record, .l .record] (fun k v1 v2 v3 v4 v5 v6 v7 v8 v9 v10 v11 v12=>gv_ k (⟨v1,v2,v9,v10,v3,v11,v12⟩:ab_) (⟨v4,v5,v6,v7,v8⟩:aS_)) k [.g [.s, .i .i64, .o 4, .o 5, .s, .o 6, .o 7]] [.d, .d, .d, .d, .l .end, .l .parcel, .l .record, .l .record] (fun r=>(r.Key,r.Width,(),(),r.Forged,(),(),r.Ends,r.Flight,r.Given,r.Taken,())) (fun v1 v2 v3 v4 v5 v6 v7=>(⟨v1,v2,v4,v5,v3,v6,v7⟩:ab_)) false
noncomputable abbrev pi_:List (Nat×Cut K TyK (ab_)):=[(11,ct cod [2,4] [.c (.r 4 0), .c (.r 5 0)] [.d, .d, .d, .d, .x [.s, .i .i64, .o 6, .o 7, .s, .o 8, .o 9], .x [.s, .i .i64, .o 10, .o 11, .s, .o 12, .o 13], .l .end, .l .parcel, .l .record, .l .record, .l .end, .l .parcel, .l .record, .l .record] db_),
  (22,ct cod [2,3,4,5] [.c (.r 4 0), .c (.r 5 0), .c (.r 6 0), .c (.r 7 0)] [.d, .d, .d, .d, .x [.s, .i .i64, .o 8, .o 9, .s, .o 10, .o 11], .x [.i .i64, .i .i64, .i .i64, .i .i64, .s], .x [.s, .i .i64, .o 12, .o 13, .s, .o 14, .o 15], .x [.i .i64, .s, .s], .l .end, .l .parcel, .l .record, .l .record, .l .end, .l .parcel, .l .record, .l .record] aJ_)]
theorem ny_ (k:Nat):SummOk Try.prog cod 152 (jt_ k):=aE_ codOk Try.f152 (fun k=>ay_ [(143,f2_ k),(144,eT_ k)]) pi_ false [.cell 4 60] 4 [true,true,true,true] aF_ Try.func152 (by kernel_rfl) (by kernel_rfl) (by kernel_rfl) (by kernel_rfl)
  (fun k=>Known.of tok eok codOk (all_cons (g5_ k) (all_cons (fU_ k) (ac_))))
  (fun k=>QuietOk.of (all_cons (fun h r=>by cases h) (all_cons (fun h r=>by cases h) (ac_))))
  (fun a=>rfl)
  (all_cons (ao_ codOk (by kernel_rfl) (by (repeat intro _);show _=_;kernel_rfl) (fun k=>by (repeat intro _);show _=_;kernel_rfl)) (all_cons (ao_ codOk (by kernel_rfl) (by (repeat intro _);show _=_;kernel_rfl) (fun k=>by (repeat intro _);show _=_;kernel_rfl)) (ac_)))
  (fun k=>by (repeat intro _);show _=_;kernel_rfl)
noncomputable def oh_ (k:Nat):a3_ K TyK:=sm cod (ab_) [.mv, .mv] [.g [.s, .i .i64, .o 0, .o 1, .s, .o 2, .o 3], .g [.i .i64, .i .i64, .i .i64, .i .i64, .s]] [.l .end, .l .parcel, .l .record, .l .record] (fun k v1 v2 v3 v4 v5 v6 v7 v8 v9 v10 v11 v12=>hU_ k (⟨v1,v2,v9,v10,v3,v11,v12⟩:ab_) (⟨v4,v5,v6,v7,v8⟩:aS_)) k [.g [.s, .i .i64, .o 4, .o 5, .s, .o 6, .o 7]] [.d, .d, .d, .d, .l .end, .l .parcel, .l .record, .l .record] (fun r=>(r.Key,r.Width,(),(),r.Forged,(),(),r.Ends,r.Flight,r.Given,r.Taken,())) (fun v1 v2 v3 v4 v5 v6 v7=>(⟨v1,v2,v4,v5,v3,v6,v7⟩:ab_)) false
theorem s8_ (k:Nat):SummOk Try.prog cod 86 (oh_ k):=aE_ codOk Try.f86 (fun k=>ay_ [(141,gB_ k),(89,bl_ k),(152,jt_ k),(145,i8_ k)]) [] false [.cell 4 60] 4 [true,true,true,true] aF_ Try.func86 (by kernel_rfl) (by kernel_rfl) (by kernel_rfl) (by kernel_rfl)
  (fun k=>Known.of tok eok codOk (all_cons (hM_ k) (all_cons (a9_ k) (all_cons (ny_ k) (all_cons (lb_ k) (ac_))))))
  (fun k=>QuietOk.of (all_cons (fun h r=>by cases h) (all_cons (fun h r=>⟨rfl,rfl⟩) (all_cons (fun h r=>by cases h) (all_cons (fun h r=>by cases h) (ac_))))))
  (fun a=>rfl)
  (ac_)
  (fun k=>by (repeat intro _);show _=_;kernel_rfl)
noncomputable def iE_ (k:Nat):a3_ K TyK:=sm cod (ab_×as_) [.bo] [.c (.r 0 0)] [.x [.l false .byte, .i .i64]] (fun k v1 v2=>f8_ k (⟨v1,v2⟩:as_)) k [.g [.s, .i .i64, .o 1, .o 2, .s, .o 3, .o 4]] [.x [.l false .byte, .i .i64], .l .end, .l .parcel, .l .record, .l .record] (fun r=>(r.1.Key,r.1.Width,(),(),r.1.Forged,(),(),r.2.b,r.2.p,r.1.Ends,r.1.Flight,r.1.Given,r.1.Taken,())) (fun v1 v2 v3 v4 v5 v6 v7 v8 v9=>((⟨v1,v2,v6,v7,v3,v8,v9⟩:ab_),(⟨v4,v5⟩:as_))) false
noncomputable abbrev nC_:List (Nat×Cut K TyK (ab_×as_)):=[(4,ct cod [0,2,3] [.c (.r 0 0), .c (.r 1 0), .c (.r 2 0)] [.x [.l false .byte, .i .i64], .x [.s, .i .i64, .o 3, .o 4, .s, .o 5, .o 6], .x [.s, .i .i64, .o 7, .o 8, .s, .o 9, .o 10], .l .end, .l .parcel, .l .record, .l .record, .l .end, .l .parcel, .l .record, .l .record] da_),
  (6,ct cod [0,2,3,4,5] [.c (.r 0 0), .c (.r 1 0), .c (.r 2 0), .c (.i .i64), .c (.i .i64)] [.x [.l false .byte, .i .i64], .x [.s, .i .i64, .o 3, .o 4, .s, .o 5, .o 6], .x [.s, .i .i64, .o 7, .o 8, .s, .o 9, .o 10], .l .end, .l .parcel, .l .record, .l .record, .l .end, .l .parcel, .l .record, .l .record] bi_),
  (12,ct cod [0,2,3,4,5,6] [.c (.r 0 0), .c (.r 1 0), .c (.r 2 0), .c (.i .i64), .c (.i .i64), .c (.i .i64)] [.x [.l false .byte, .i .i64], .x [.s, .i .i64, .o 3, .o 4, .s, .o 5, .o 6], .x [.s, .i .i64, .o 7, .o 8, .s, .o 9, .o 10], .l .end, .l .parcel, .l .record, .l .record, .l .end, .l .parcel, .l .record, .l .record] b5_),
  (15,ct cod [0,2,3,4,5] [.c (.r 0 0), .c (.r 1 0), .c (.r 2 0), .c (.i .i64), .c (.i .i64)] [.x [.l false .byte, .i .i64], .x [.s, .i .i64, .o 3, .o 4, .s, .o 5, .o 6], .x [.s, .i .i64, .o 7, .o 8, .s, .o 9, .o 10], .l .end, .l .parcel, .l .record, .l .record, .l .end, .l .parcel, .l .record, .l .record] b2_),
  (7,ct cod [0,2,3,4,5] [.c (.r 0 0), .c (.r 1 0), .c (.r 2 0), .c (.i .i64), .c (.i .i64)] [.x [.l false .byte, .i .i64], .x [.s, .i .i64, .o 3, .o 4, .s, .o 5, .o 6], .x [.s, .i .i64, .o 7, .o 8, .s, .o 9, .o 10], .l .end, .l .parcel, .l .record, .l .record, .l .end, .l .parcel, .l .record, .l .record] c7_)]
theorem l4_ (k:Nat):SummOk Try.prog cod 74 (iE_ k):=aE_ codOk Try.f74 (fun k=>ay_ [(147,m6_ k),(148,kf_ k),(146,jz_ k),(73,cM_ k),(72,oG_ k),(87,j7_ k),(86,oh_ k),(141,gB_ k),(143,f2_ k),(85,im_ k)]) nC_ false [.cell 2 60] 1 [false] aF_ Try.func74 (by kernel_rfl) (by kernel_rfl) (by kernel_rfl) (by kernel_rfl)
  (fun k=>Known.of tok eok codOk (all_cons (r7_ k) (all_cons (ox_ k) (all_cons (nt_ k) (all_cons (dk_ k) (all_cons (ti_ k) (all_cons (o1_ k) (all_cons (s8_ k) (all_cons (hM_ k) (all_cons (g5_ k) (all_cons (kt_ k) (ac_))))))))))))
  (fun k=>QuietOk.of (all_cons (fun h r=>by cases h) (all_cons (fun h r=>by cases h) (all_cons (fun h r=>by cases h) (all_cons (fun h r=>by cases h) (all_cons (fun h r=>by cases h) (all_cons (fun h r=>by cases h) (all_cons (fun h r=>by cases h) (all_cons (fun h r=>by cases h) (all_cons (fun h r=>by cases h) (all_cons (fun h r=>by cases h) (ac_))))))))))))
  (fun a=>rfl)
  (all_cons (ao_ codOk (by kernel_rfl) (by (repeat intro _);show _=_;kernel_rfl) (fun k=>by (repeat intro _);show _=_;kernel_rfl)) (all_cons (ao_ codOk (by kernel_rfl) (by (repeat intro _);show _=_;kernel_rfl) (fun k=>by (repeat intro _);show _=_;kernel_rfl)) (all_cons (ao_ codOk (by kernel_rfl) (by (repeat intro _);show _=_;kernel_rfl) (fun k=>by (repeat intro _);show _=_;kernel_rfl)) (all_cons (ao_ codOk (by kernel_rfl) (by (repeat intro _);show _=_;kernel_rfl) (fun k=>by (repeat intro _);show _=_;kernel_rfl)) (all_cons (ao_ codOk (by kernel_rfl) (by (repeat intro _);show _=_;kernel_rfl) (fun k=>by (repeat intro _);show _=_;kernel_rfl)) (ac_))))))
  (fun k=>by (repeat intro _);show _=_;kernel_rfl)
noncomputable def cq_ (k:Nat):a3_ K TyK:=sm cod (Bool) [.bo] [.g [.s, .i .i64, .l true .end, .l true .parcel, .s, .l true .record, .l true .record]] [] (fun k v1 v2 v3 v4 v5 v6 v7=>b0_ k (⟨v1,v2,v3,v4,v5,v6,v7⟩:ab_)) k [.c (.b)] [] (fun r=>(r,())) (fun v1=>v1) true
noncomputable abbrev mB_:List (Nat×Cut K TyK (Bool)):=[(4,ct cod [1,48,49,50] [.c (.r 0 0), .c (.l true .end), .c (.i .i64), .c (.i .i64)] [.x [.s, .i .i64, .l true .end, .l true .parcel, .s, .l true .record, .l true .record]] b6_),
  (10,ct cod [1,67,68,69] [.c (.r 0 0), .c (.l true .parcel), .c (.i .i64), .c (.i .i64)] [.x [.s, .i .i64, .l true .end, .l true .parcel, .s, .l true .record, .l true .record]] a8_),
  (16,ct cod [98,99,100] [.c (.o 0), .c (.i .i64), .c (.i .i64)] [.l .lrecord] bb_),
  (19,ct cod [98,99,100,104,105,106] [.c (.o 0), .c (.i .i64), .c (.i .i64), .c (.l true .record), .c (.i .i64), .c (.i .i64)] [.l .lrecord] ba_)]
theorem cV_ (k:Nat):SummOk Try.prog cod 27 (cq_ k):=aE_ codOk Try.f27 (fun k=>ay_ [(46,bY_ k),(75,gi_ k)]) mB_ false [.tmp 2] 0 [] aF_ Try.func27 (by kernel_rfl) (by kernel_rfl) (by kernel_rfl) (by kernel_rfl)
  (fun k=>Known.of tok eok codOk (all_cons (cc_ k) (all_cons (fV_ k) (ac_))))
  (fun k=>QuietOk.of (all_cons (fun h r=>⟨rfl,rfl⟩) (all_cons (fun h r=>⟨rfl,rfl⟩) (ac_))))
  (fun a=>rfl)
  (all_cons (ao_ codOk (by kernel_rfl) (by (repeat intro _);show _=_;kernel_rfl) (fun k=>by (repeat intro _);show _=_;kernel_rfl)) (all_cons (ao_ codOk (by kernel_rfl) (by (repeat intro _);show _=_;kernel_rfl) (fun k=>by (repeat intro _);show _=_;kernel_rfl)) (all_cons (ao_ codOk (by kernel_rfl) (by (repeat intro _);show _=_;kernel_rfl) (fun k=>by (repeat intro _);show _=_;kernel_rfl)) (all_cons (ao_ codOk (by kernel_rfl) (by (repeat intro _);show _=_;kernel_rfl) (fun k=>by (repeat intro _);show _=_;kernel_rfl)) (ac_)))))
  (fun k=>by (repeat intro _);show _=_;kernel_rfl)
noncomputable def mO_ (k:Nat):a3_ K TyK:=sm cod (Bool) [.bo] [.g [.s, .i .i64, .l true .end, .l true .parcel, .s, .l true .record, .l true .record]] [] (fun k v1 v2 v3 v4 v5 v6 v7=>jS_ k (⟨v1,v2,v3,v4,v5,v6,v7⟩:ab_)) k [.c (.b)] [] (fun r=>(r,())) (fun v1=>v1) true
noncomputable abbrev tB_:List (Nat×Cut K TyK (Bool)):=[(5,ct cod [1,3,16,17,18] [.c (.r 0 0), .c (.m 1), .c (.l true .record), .c (.i .i64), .c (.i .i64)] [.x [.s, .i .i64, .l true .end, .l true .parcel, .s, .l true .record, .l true .record], .m .pair .lstr] cW_),
  (12,ct cod [3,7,41,42,43] [.c (.m 0), .c (.m 1), .c (.l true .record), .c (.i .i64), .c (.i .i64)] [.m .pair .lstr, .m .pair .int] aO_),
  (17,ct cod [3,7,10,41,42,43] [.c (.m 0), .c (.m 1), .c (.r 2 0), .c (.l true .record), .c (.i .i64), .c (.i .i64)] [.m .pair .lstr, .m .pair .int, .x [.i .i64, .i .i64, .i .i64]] a1_)]
theorem r5_ (k:Nat):SummOk Try.prog cod 22 (mO_ k):=aE_ codOk Try.f22 (fun k=>ay_ [(27,cq_ k)]) tB_ false [.tmp 2] 0 [] aF_ Try.func22 (by kernel_rfl) (by kernel_rfl) (by kernel_rfl) (by kernel_rfl)
  (fun k=>Known.of tok eok codOk (all_cons (cV_ k) (ac_)))
  (fun k=>QuietOk.of (all_cons (fun h r=>⟨rfl,rfl⟩) (ac_)))
  (fun a=>rfl)
  (all_cons (ao_ codOk (by kernel_rfl) (by (repeat intro _);show _=_;kernel_rfl) (fun k=>by (repeat intro _);show _=_;kernel_rfl)) (all_cons (ao_ codOk (by kernel_rfl) (by (repeat intro _);show _=_;kernel_rfl) (fun k=>by (repeat intro _);show _=_;kernel_rfl)) (all_cons (ao_ codOk (by kernel_rfl) (by (repeat intro _);show _=_;kernel_rfl) (fun k=>by (repeat intro _);show _=_;kernel_rfl)) (ac_))))
  (fun k=>by (repeat intro _);show _=_;kernel_rfl)
noncomputable def mU_ (k:Nat):a3_ K TyK:=sm cod (Bool) [.bo] [.g [.s, .i .i64, .l true .end, .l true .parcel, .s, .l true .record, .l true .record]] [] (fun k v1 v2 v3 v4 v5 v6 v7=>jN_ k (⟨v1,v2,v3,v4,v5,v6,v7⟩:ab_)) k [.c (.b)] [] (fun r=>(r,())) (fun v1=>v1) true
noncomputable abbrev t9_:List (Nat×Cut K TyK (Bool)):=[(4,ct cod [1,3] [.c (.r 0 0), .c (.i .i64)] [.x [.s, .i .i64, .l true .end, .l true .parcel, .s, .l true .record, .l true .record]] dp_),
  (9,ct cod [1,3,4,5,6] [.c (.r 0 0), .c (.i .i64), .c (.r 1 0), .c (.i .i64), .c (.i .i64)] [.x [.s, .i .i64, .l true .end, .l true .parcel, .s, .l true .record, .l true .record], .x [.i .i64, .i .i64, .i .i64, .s]] eD_),
  (10,ct cod [1,3,4,5,6] [.c (.r 0 0), .c (.i .i64), .c (.r 1 0), .c (.i .i64), .c (.i .i64)] [.x [.s, .i .i64, .l true .end, .l true .parcel, .s, .l true .record, .l true .record], .x [.i .i64, .i .i64, .i .i64, .s]] cp_),
  (15,ct cod [1,3,4,5,7,8] [.c (.r 0 0), .c (.i .i64), .c (.r 1 0), .c (.i .i64), .c (.b), .c (.i .i64)] [.x [.s, .i .i64, .l true .end, .l true .parcel, .s, .l true .record, .l true .record], .x [.i .i64, .i .i64, .i .i64, .s]] cY_),
  (16,ct cod [1,3,4,5,7,8] [.c (.r 0 0), .c (.i .i64), .c (.r 1 0), .c (.i .i64), .c (.b), .c (.i .i64)] [.x [.s, .i .i64, .l true .end, .l true .parcel, .s, .l true .record, .l true .record], .x [.i .i64, .i .i64, .i .i64, .s]] bF_)]
theorem sB_ (k:Nat):SummOk Try.prog cod 23 (mU_ k):=aE_ codOk Try.f23 (fun k=>ay_ [(34,eo_ k)]) t9_ false [.tmp 2] 0 [] aF_ Try.func23 (by kernel_rfl) (by kernel_rfl) (by kernel_rfl) (by kernel_rfl)
  (fun k=>Known.of tok eok codOk (all_cons (fs_ k) (ac_)))
  (fun k=>QuietOk.of (all_cons (fun h r=>⟨rfl,rfl⟩) (ac_)))
  (fun a=>rfl)
  (all_cons (ao_ codOk (by kernel_rfl) (by (repeat intro _);show _=_;kernel_rfl) (fun k=>by (repeat intro _);show _=_;kernel_rfl)) (all_cons (ao_ codOk (by kernel_rfl) (by (repeat intro _);show _=_;kernel_rfl) (fun k=>by (repeat intro _);show _=_;kernel_rfl)) (all_cons (ao_ codOk (by kernel_rfl) (by (repeat intro _);show _=_;kernel_rfl) (fun k=>by (repeat intro _);show _=_;kernel_rfl)) (all_cons (ao_ codOk (by kernel_rfl) (by (repeat intro _);show _=_;kernel_rfl) (fun k=>by (repeat intro _);show _=_;kernel_rfl)) (all_cons (ao_ codOk (by kernel_rfl) (by (repeat intro _);show _=_;kernel_rfl) (fun k=>by (repeat intro _);show _=_;kernel_rfl)) (ac_))))))
  (fun k=>by (repeat intro _);show _=_;kernel_rfl)
noncomputable def pj_ (k:Nat):a3_ K TyK:=sm cod (Bool) [.bo] [.g [.s, .i .i64, .l true .end, .l true .parcel, .s, .l true .record, .l true .record]] [] (fun k v1 v2 v3 v4 v5 v6 v7=>lm_ k (⟨v1,v2,v3,v4,v5,v6,v7⟩:ab_)) k [.c (.b)] [] (fun r=>(r,())) (fun v1=>v1) true
noncomputable abbrev vz_:List (Nat×Cut K TyK (Bool)):=[(4,ct cod [1,9,10,11] [.c (.r 0 0), .c (.l true .end), .c (.i .i64), .c (.i .i64)] [.x [.s, .i .i64, .l true .end, .l true .parcel, .s, .l true .record, .l true .record]] fh_)]
theorem to_ (k:Nat):SummOk Try.prog cod 24 (pj_ k):=aE_ codOk Try.f24 (fun k=>ay_ [(27,cq_ k)]) vz_ false [.tmp 2] 0 [] aF_ Try.func24 (by kernel_rfl) (by kernel_rfl) (by kernel_rfl) (by kernel_rfl)
  (fun k=>Known.of tok eok codOk (all_cons (cV_ k) (ac_)))
  (fun k=>QuietOk.of (all_cons (fun h r=>⟨rfl,rfl⟩) (ac_)))
  (fun a=>rfl)
  (all_cons (ao_ codOk (by kernel_rfl) (by (repeat intro _);show _=_;kernel_rfl) (fun k=>by (repeat intro _);show _=_;kernel_rfl)) (ac_))
  (fun k=>by (repeat intro _);show _=_;kernel_rfl)
noncomputable def hv_ (k:Nat):a3_ K TyK:=sm cod (ab_) [.pe] [.c (.l false .byte)] [] (eU_) k [.g [.s, .i .i64, .o 0, .o 1, .s, .o 2, .o 3]] [.l .end, .l .parcel, .l .record, .l .record] (fun r=>(r.Key,r.Width,(),(),r.Forged,(),(),r.Ends,r.Flight,r.Given,r.Taken,())) (fun v1 v2 v3 v4 v5 v6 v7=>(⟨v1,v2,v4,v5,v3,v6,v7⟩:ab_)) false
theorem kS_ (k:Nat):SummOk Try.prog cod 26 (hv_ k):=aE_ codOk Try.f26 (fun k=>ay_ [(70,lw_ k),(74,iE_ k)]) [] false [.cell 2 60] 0 [] aF_ Try.func26 (by kernel_rfl) (by kernel_rfl) (by kernel_rfl) (by kernel_rfl)
  (fun k=>Known.of tok eok codOk (all_cons (qq_ k) (all_cons (l4_ k) (ac_))))
  (fun k=>QuietOk.of (all_cons (fun h r=>by cases h) (all_cons (fun h r=>by cases h) (ac_))))
  (fun a=>rfl)
  (ac_)
  (fun k=>by (repeat intro _);show _=_;kernel_rfl)
noncomputable def t8_ (k:Nat):a3_ K TyK:=sm cod (ByteArray) [.bo, .bo] [.c (.i .i64), .c (.i .i64)] [] (gN_) k [.c (.s)] [] (fun r=>(r,())) (fun v1=>v1) true
noncomputable abbrev zX_:List (Nat×Cut K TyK (ByteArray)):=[(3,ct cod [0,5,6] [.c (.i .i64), .c (.o 0), .c (.i .i64)] [.l .byte] gL_)]
theorem xi_ (k:Nat):SummOk Try.prog cod 76 (t8_ k):=aE_ codOk Try.f76 (fun k=>ay_ []) zX_ false [.tmp 4] 0 [] aF_ Try.func76 (by kernel_rfl) (by kernel_rfl) (by kernel_rfl) (by kernel_rfl)
  (fun k=>Known.of tok eok codOk (ac_))
  (fun k=>QuietOk.of (ac_))
  (fun a=>rfl)
  (all_cons (ao_ codOk (by kernel_rfl) (by (repeat intro _);show _=_;kernel_rfl) (fun k=>by (repeat intro _);show _=_;kernel_rfl)) (ac_))
  (fun k=>by (repeat intro _);show _=_;kernel_rfl)
noncomputable def q9_ (k:Nat):a3_ K TyK:=sm cod (ByteArray) [.bo, .bo, .bo] [.c (.s), .c (.s), .c (.i .i64)] [] (nR_) k [.c (.s)] [] (fun r=>(r,())) (fun v1=>v1) true
noncomputable abbrev xK_:List (Nat×Cut K TyK (ByteArray)):=[(6,ct cod [2,7,8,9] [.c (.i .i64), .c (.i .u64), .c (.s), .c (.i .i64)] [] fO_),
  (11,ct cod [2,7,10,11] [.c (.i .i64), .c (.i .u64), .c (.z 0 0), .c (.i .i64)] [.l .byte] fi_)]
theorem uZ_ (k:Nat):SummOk Try.prog cod 77 (q9_ k):=aE_ codOk Try.f77 (fun k=>ay_ []) xK_ false [.tmp 6] 0 [] aF_ Try.func77 (by kernel_rfl) (by kernel_rfl) (by kernel_rfl) (by kernel_rfl)
  (fun k=>Known.of tok eok codOk (ac_))
  (fun k=>QuietOk.of (ac_))
  (fun a=>rfl)
  (all_cons (ao_ codOk (by kernel_rfl) (by (repeat intro _);show _=_;kernel_rfl) (fun k=>by (repeat intro _);show _=_;kernel_rfl)) (all_cons (ao_ codOk (by kernel_rfl) (by (repeat intro _);show _=_;kernel_rfl) (fun k=>by (repeat intro _);show _=_;kernel_rfl)) (ac_)))
  (fun k=>by (repeat intro _);show _=_;kernel_rfl)
noncomputable def fN_ (k:Nat):a3_ K TyK:=sm cod (ByteArray) [.bo, .bo, .bo] [.g [.i .i64, .i .i64, .i .i64, .i .i64, .i .i64, .i .i64, .i .i64, .b, .s], .c (.s), .c (.i .i64)] [] (fun k v1 v2 v3 v4 v5 v6 v7 v8 v9 v10 v11=>dl_ k (⟨v1,v2,v3,v4,v5,v6,v7,v8,v9⟩:ae_) v10 v11) k [.c (.s)] [] (fun r=>(r,())) (fun v1=>v1) true
noncomputable abbrev mD_:List (Nat×Cut K TyK (ByteArray)):=[(10,ct cod [1,2,7] [.c (.s), .c (.i .i64), .c (.s)] [] cz_),
  (9,ct cod [1,2,3,7,8] [.c (.s), .c (.i .i64), .c (.r 0 0), .c (.s), .c (.i .i64)] [.x [.i .i64, .i .i64, .i .i64, .i .i64, .i .i64, .i .i64, .i .i64, .b, .s]] cU_)]
theorem hy_ (k:Nat):SummOk Try.prog cod 28 (fN_ k):=aE_ codOk Try.f28 (fun k=>ay_ [(59,dY_ k),(76,t8_ k),(77,q9_ k)]) mD_ false [.tmp 6] 0 [] aF_ Try.func28 (by kernel_rfl) (by kernel_rfl) (by kernel_rfl) (by kernel_rfl)
  (fun k=>Known.of tok eok codOk (all_cons (e4_ k) (all_cons (xi_ k) (all_cons (uZ_ k) (ac_)))))
  (fun k=>QuietOk.of (all_cons (fun h r=>⟨rfl,rfl⟩) (all_cons (fun h r=>⟨rfl,rfl⟩) (all_cons (fun h r=>⟨rfl,rfl⟩) (ac_)))))
  (fun a=>rfl)
  (all_cons (ao_ codOk (by kernel_rfl) (by (repeat intro _);show _=_;kernel_rfl) (fun k=>by (repeat intro _);show _=_;kernel_rfl)) (all_cons (ao_ codOk (by kernel_rfl) (by (repeat intro _);show _=_;kernel_rfl) (fun k=>by (repeat intro _);show _=_;kernel_rfl)) (ac_)))
  (fun k=>by (repeat intro _);show _=_;kernel_rfl)
noncomputable def gm_ (k:Nat):a3_ K TyK:=sm cod (ab_) [.bo] [.g [.s, .i .i64, .l true .end, .l true .parcel, .s, .l true .record, .l true .record]] [] (fun k v1 v2 v3 v4 v5 v6 v7=>eL_ k (⟨v1,v2,v3,v4,v5,v6,v7⟩:ab_)) k [.g [.s, .i .i64, .o 0, .o 1, .s, .o 2, .o 3]] [.l .end, .l .parcel, .l .record, .l .record] (fun r=>(r.Key,r.Width,(),(),r.Forged,(),(),r.Ends,r.Flight,r.Given,r.Taken,())) (fun v1 v2 v3 v4 v5 v6 v7=>(⟨v1,v2,v4,v5,v3,v6,v7⟩:ab_)) false
noncomputable abbrev nx_:List (Nat×Cut K TyK (ab_)):=[(3,ct cod [1,2,10,11] [.c (.r 0 0), .c (.r 1 0), .c (.i .i64), .c (.i .i64)] [.x [.s, .i .i64, .o 2, .l true .parcel, .s, .l true .record, .l true .record], .x [.s, .i .i64, .o 3, .o 4, .s, .o 5, .o 6], .l .end, .l .end, .l .parcel, .l .record, .l .record] ct_)]
theorem hQ_ (k:Nat):SummOk Try.prog cod 78 (gm_ k):=aE_ codOk Try.f78 (fun k=>ay_ [(58,cX_ k)]) nx_ false [.cell 2 60] 0 [] aF_ Try.func78 (by kernel_rfl) (by kernel_rfl) (by kernel_rfl) (by kernel_rfl)
  (fun k=>Known.of tok eok codOk (all_cons (dj_ k) (ac_)))
  (fun k=>QuietOk.of (all_cons (fun h r=>by cases h) (ac_)))
  (fun a=>rfl)
  (all_cons (ao_ codOk (by kernel_rfl) (by (repeat intro _);show _=_;kernel_rfl) (fun k=>by (repeat intro _);show _=_;kernel_rfl)) (ac_))
  (fun k=>by (repeat intro _);show _=_;kernel_rfl)
noncomputable def jA_ (k:Nat):a3_ K TyK:=sm cod (ak_×List Int) [.bo] [.g [.i .i64, .l true .item]] [] (fun k v1 v2=>gy_ k (⟨v1,v2⟩:ak_)) k [.g [.i .i64, .o 0], .c (.o 1)] [.l .item, .l .int] (fun r=>(r.1.Base,(),(),r.1.Items,r.2,())) (fun v1 v2 v3=>((⟨v1,v2⟩:ak_),v3)) false
noncomputable abbrev qc_:List (Nat×Cut K TyK (ak_×List Int)):=[(6,ct cod [2,4,5,6] [.c (.r 0 0), .c (.r 1 0), .c (.o 2), .c (.i .i64)] [.x [.i .i64, .o 3], .x [.i .i64, .o 4], .l .int, .l .item, .l .item] cK_),
  (7,ct cod [2,4,5,6] [.c (.r 0 0), .c (.r 1 0), .c (.o 2), .c (.i .i64)] [.x [.i .i64, .o 3], .x [.i .i64, .o 4], .l .int, .l .item, .l .item] cb_)]
theorem nL_ (k:Nat):SummOk Try.prog cod 96 (jA_ k):=aE_ codOk Try.f96 (fun k=>ay_ [(109,dL_ k),(126,d6_ k)]) qc_ false [.cell 2 37, .tmp 3] 0 [] aF_ Try.func96 (by kernel_rfl) (by kernel_rfl) (by kernel_rfl) (by kernel_rfl)
  (fun k=>Known.of tok eok codOk (all_cons (er_ k) (all_cons (eZ_ k) (ac_))))
  (fun k=>QuietOk.of (all_cons (fun h r=>⟨rfl,rfl⟩) (all_cons (fun h r=>by cases h) (ac_))))
  (fun a=>rfl)
  (all_cons (ao_ codOk (by kernel_rfl) (by (repeat intro _);show _=_;kernel_rfl) (fun k=>by (repeat intro _);show _=_;kernel_rfl)) (all_cons (ao_ codOk (by kernel_rfl) (by (repeat intro _);show _=_;kernel_rfl) (fun k=>by (repeat intro _);show _=_;kernel_rfl)) (ac_)))
  (fun k=>by (repeat intro _);show _=_;kernel_rfl)
noncomputable def i9_ (k:Nat):a3_ K TyK:=sm cod (Int×Int) [.bo] [.g [.i .i64, .l true .held, .s, .l true .str]] [] (fun k v1 v2 v3 v4=>eB_ k (⟨v1,v2,v3,v4⟩:ai_)) k [.c (.i .i64), .c (.i .i64)] [] (fun r=>(r.1,r.2,())) (fun v1 v2=>(v1,v2)) true
noncomputable abbrev pc_:List (Nat×Cut K TyK (Int×Int)):=[(5,ct cod [1,4,11,12,13] [.c (.r 0 0), .c (.i .i64), .c (.l true .held), .c (.i .i64), .c (.i .i64)] [.x [.i .i64, .l true .held, .s, .l true .str]] cI_)]
theorem nE_ (k:Nat):SummOk Try.prog cod 97 (i9_ k):=aE_ codOk Try.f97 (fun k=>ay_ [(110,dB_ k)]) pc_ false [.tmp 2, .tmp 3] 0 [] aF_ Try.func97 (by kernel_rfl) (by kernel_rfl) (by kernel_rfl) (by kernel_rfl)
  (fun k=>Known.of tok eok codOk (all_cons (ev_ k) (ac_)))
  (fun k=>QuietOk.of (all_cons (fun h r=>⟨rfl,rfl⟩) (ac_)))
  (fun a=>rfl)
  (all_cons (ao_ codOk (by kernel_rfl) (by (repeat intro _);show _=_;kernel_rfl) (fun k=>by (repeat intro _);show _=_;kernel_rfl)) (ac_))
  (fun k=>by (repeat intro _);show _=_;kernel_rfl)
noncomputable def j8_ (k:Nat):a3_ K TyK:=sm cod (aw_) [.bo] [.g [.i .i64, .b, .i .i64, .i .i64, .i .i64, .b, .i .i64, .l true .item, .i .i64, .l true .held, .s, .l true .str]] [] (fun k v1 v2 v3 v4 v5 v6 v7 v8 v9 v10 v11 v12=>hj_ k (⟨v1,v2,v3,v4,v5,v6,(⟨v7,v8⟩:ak_),(⟨v9,v10,v11,v12⟩:ai_)⟩:am_)) k [.g [.i .i64, .i .i64, .b, .i .i64, .i .i64, .i .i64, .b, .i .i64, .o 0, .i .i64, .o 1, .s, .o 2, .o 3, .s]] [.l .item, .l .held, .l .str, .l .packet] (fun r=>(r.Code,r.End.Number,r.End.Up,r.End.Life,r.End.Peer,r.End.Since,r.End.Owes,r.End.Send.Base,(),r.End.Take.Next,(),r.End.Take.Open,(),(),r.Text,r.End.Send.Items,r.End.Take.Held,r.End.Take.Ready,r.Out,())) (fun v1 v2 v3 v4 v5 v6 v7 v8 v9 v10 v11 v12 v13 v14 v15=>(⟨v1,(⟨v2,v3,v4,v5,v6,v7,(⟨v8,v12⟩:ak_),(⟨v9,v13,v10,v14⟩:ai_)⟩:am_),v15,v11⟩:aw_)) false
noncomputable abbrev qL_:List (Nat×Cut K TyK (aw_)):=[(9,ct cod [2,3,4] [.c (.r 0 0), .c (.r 1 0), .c (.r 1 1)] [.x [.i .i64, .i .i64, .b, .i .i64, .i .i64, .i .i64, .b, .i .i64, .o 2, .i .i64, .o 3, .s, .o 4, .o 5, .s], .x [.i .i64, .i .i64, .b, .i .i64, .i .i64, .i .i64, .b, .i .i64, .o 6, .i .i64, .o 7, .s, .o 8, .o 9, .s], .l .item, .l .held, .l .str, .l .packet, .l .item, .l .held, .l .str, .l .packet] eg_),
  (13,ct cod [2,3,4,53,54,55] [.c (.r 0 0), .c (.r 1 0), .c (.r 1 1), .c (.o 2), .c (.i .i64), .c (.i .i64)] [.x [.i .i64, .i .i64, .b, .i .i64, .i .i64, .i .i64, .b, .i .i64, .o 3, .i .i64, .o 4, .s, .o 5, .o 6, .s], .x [.i .i64, .i .i64, .b, .i .i64, .i .i64, .i .i64, .b, .i .i64, .o 7, .i .i64, .o 8, .s, .o 9, .o 10, .s], .l .int, .l .item, .l .held, .l .str, .l .packet, .l .item, .l .held, .l .str, .l .packet] cO_),
  (18,ct cod [2,3,4] [.c (.r 0 0), .c (.r 1 0), .c (.r 1 1)] [.x [.i .i64, .i .i64, .b, .i .i64, .i .i64, .i .i64, .b, .i .i64, .o 2, .i .i64, .o 3, .s, .o 4, .o 5, .s], .x [.i .i64, .i .i64, .b, .i .i64, .i .i64, .i .i64, .b, .i .i64, .o 6, .i .i64, .o 7, .s, .o 8, .o 9, .s], .l .item, .l .held, .l .str, .l .packet, .l .item, .l .held, .l .str, .l .packet] dF_),
  (22,ct cod [2,3] [.c (.r 0 0), .c (.r 1 0)] [.x [.i .i64, .i .i64, .b, .i .i64, .i .i64, .i .i64, .b, .i .i64, .o 2, .i .i64, .o 3, .s, .o 4, .o 5, .s], .x [.i .i64, .i .i64, .b, .i .i64, .i .i64, .i .i64, .b, .i .i64, .o 6, .i .i64, .o 7, .s, .o 8, .o 9, .s], .l .item, .l .held, .l .str, .l .packet, .l .item, .l .held, .l .str, .l .packet] ch_)]
theorem oZ_ (k:Nat):SummOk Try.prog cod 38 (j8_ k):=aE_ codOk Try.f38 (fun k=>ay_ [(46,bY_ k),(58,cX_ k),(96,jA_ k),(97,i9_ k)]) qL_ false [.cell 2 45] 0 [] aF_ Try.func38 (by kernel_rfl) (by kernel_rfl) (by kernel_rfl) (by kernel_rfl)
  (fun k=>Known.of tok eok codOk (all_cons (cc_ k) (all_cons (dj_ k) (all_cons (nL_ k) (all_cons (nE_ k) (ac_))))))
  (fun k=>QuietOk.of (all_cons (fun h r=>⟨rfl,rfl⟩) (all_cons (fun h r=>by cases h) (all_cons (fun h r=>by cases h) (all_cons (fun h r=>⟨rfl,rfl⟩) (ac_))))))
  (fun a=>rfl)
  (all_cons (ao_ codOk (by kernel_rfl) (by (repeat intro _);show _=_;kernel_rfl) (fun k=>by (repeat intro _);show _=_;kernel_rfl)) (all_cons (ao_ codOk (by kernel_rfl) (by (repeat intro _);show _=_;kernel_rfl) (fun k=>by (repeat intro _);show _=_;kernel_rfl)) (all_cons (ao_ codOk (by kernel_rfl) (by (repeat intro _);show _=_;kernel_rfl) (fun k=>by (repeat intro _);show _=_;kernel_rfl)) (all_cons (ao_ codOk (by kernel_rfl) (by (repeat intro _);show _=_;kernel_rfl) (fun k=>by (repeat intro _);show _=_;kernel_rfl)) (ac_)))))
  (fun k=>by (repeat intro _);show _=_;kernel_rfl)
noncomputable def fF_ (k:Nat):a3_ K TyK:=sm cod (ab_) [.mv] [.c (.r 0 0)] [.x [.s, .i .i64, .o 1, .o 2, .s, .o 3, .o 4], .l .end, .l .parcel, .l .record, .l .record] (fun k v1 v2 v3 v4 v5 v6 v7=>eb_ k (⟨v1,v2,v4,v5,v3,v6,v7⟩:ab_)) k [] [.x [.s, .i .i64, .o 5, .o 6, .s, .o 7, .o 8], .d, .d, .d, .d, .l .end, .l .parcel, .l .record, .l .record] (fun r=>(r.Key,r.Width,(),(),r.Forged,(),(),r.Ends,r.Flight,r.Given,r.Taken,())) (fun v1 v2 v3 v4 v5 v6 v7=>(⟨v1,v2,v4,v5,v3,v6,v7⟩:ab_)) false
noncomputable abbrev mm_:List (Nat×Cut K TyK (ab_)):=[(1,ct cod [0,11,12] [.c (.r 0 0), .c (.i .i64), .c (.i .i64)] [.x [.s, .i .i64, .o 5, .o 6, .s, .o 7, .o 8], .d, .d, .d, .d, .l .end, .l .parcel, .l .record, .l .record] bn_),
  (6,ct cod [0,2,11,12,32,33,34] [.c (.r 0 0), .c (.i .i64), .c (.i .i64), .c (.i .i64), .c (.o 5), .c (.i .i64), .c (.i .i64)] [.x [.s, .i .i64, .o 6, .o 7, .s, .o 8, .o 9], .d, .d, .d, .d, .l .packet, .l .end, .l .parcel, .l .record, .l .record] b9_),
  (11,ct cod [0,2,11,12,32,33,34] [.c (.r 0 0), .c (.i .i64), .c (.i .i64), .c (.i .i64), .c (.o 5), .c (.i .i64), .c (.i .i64)] [.x [.s, .i .i64, .o 6, .o 7, .s, .o 8, .o 9], .d, .d, .d, .d, .l .packet, .l .end, .l .parcel, .l .record, .l .record] cA_)]
theorem hD_ (k:Nat):SummOk Try.prog cod 79 (fF_ k):=aE_ codOk Try.f79 (fun k=>ay_ [(38,j8_ k),(28,fN_ k)]) mm_ false [] 5 [false,true,true,true,true] aF_ Try.func79 (by kernel_rfl) (by kernel_rfl) (by kernel_rfl) (by kernel_rfl)
  (fun k=>Known.of tok eok codOk (all_cons (oZ_ k) (all_cons (hy_ k) (ac_))))
  (fun k=>QuietOk.of (all_cons (fun h r=>by cases h) (all_cons (fun h r=>⟨rfl,rfl⟩) (ac_))))
  (fun a=>rfl)
  (all_cons (ao_ codOk (by kernel_rfl) (by (repeat intro _);show _=_;kernel_rfl) (fun k=>by (repeat intro _);show _=_;kernel_rfl)) (all_cons (ao_ codOk (by kernel_rfl) (by (repeat intro _);show _=_;kernel_rfl) (fun k=>by (repeat intro _);show _=_;kernel_rfl)) (all_cons (ao_ codOk (by kernel_rfl) (by (repeat intro _);show _=_;kernel_rfl) (fun k=>by (repeat intro _);show _=_;kernel_rfl)) (ac_))))
  (fun k=>by (repeat intro _);show _=_;kernel_rfl)
noncomputable def rx_ (k:Nat):a3_ K TyK:=sm cod (Int) [.bo] [.c (.s)] [] (jZ_) k [.c (.i .i64)] [] (fun r=>(r,())) (fun v1=>v1) true
noncomputable abbrev yj_:List (Nat×Cut K TyK (Int)):=[(3,ct cod [0,3,4] [.c (.s), .c (.i .i64), .c (.i .i64)] [] fJ_)]
theorem vp_ (k:Nat):SummOk Try.prog cod 173 (rx_ k):=aE_ codOk Try.f173 (fun k=>ay_ []) yj_ false [.tmp 2] 0 [] aF_ Try.func173 (by kernel_rfl) (by kernel_rfl) (by kernel_rfl) (by kernel_rfl)
  (fun k=>Known.of tok eok codOk (ac_))
  (fun k=>QuietOk.of (ac_))
  (fun a=>rfl)
  (all_cons (ao_ codOk (by kernel_rfl) (by (repeat intro _);show _=_;kernel_rfl) (fun k=>by (repeat intro _);show _=_;kernel_rfl)) (ac_))
  (fun k=>by (repeat intro _);show _=_;kernel_rfl)
noncomputable def hV_ (k:Nat):a3_ K TyK:=sm cod (ae_×Bool) [.bo, .bo, .bo] [.c (.s), .c (.s), .c (.i .i64)] [] (fA_) k [.g [.i .i64, .i .i64, .i .i64, .i .i64, .i .i64, .i .i64, .i .i64, .b, .s], .c (.b)] [] (fun r=>(r.1.Kind,r.1.From,r.1.Mine,r.1.Yours,r.1.Next,r.1.Mask,r.1.Seq,r.1.Last,r.1.Part,r.2,())) (fun v1 v2 v3 v4 v5 v6 v7 v8 v9 v10=>((⟨v1,v2,v3,v4,v5,v6,v7,v8,v9⟩:ae_),v10)) true
noncomputable abbrev mb_:List (Nat×Cut K TyK (ae_×Bool)):=[(10,ct cod [0,1,2,6,9] [.c (.s), .c (.s), .c (.i .i64), .c (.r 0 0), .c (.r 1 0)] [.x [.i .i64, .i .i64, .i .i64, .i .i64, .i .i64, .i .i64, .i .i64, .b, .s], .x [.i .i64, .i .i64, .i .i64, .i .i64, .i .i64, .i .i64, .i .i64, .b, .s]] bw_)]
theorem lT_ (k:Nat):SummOk Try.prog cod 149 (hV_ k):=aE_ codOk Try.f149 (fun k=>ay_ [(173,rx_ k),(59,dY_ k),(28,fN_ k)]) mb_ false [.cell 6 48, .tmp 7] 0 [] aF_ Try.func149 (by kernel_rfl) (by kernel_rfl) (by kernel_rfl) (by kernel_rfl)
  (fun k=>Known.of tok eok codOk (all_cons (vp_ k) (all_cons (e4_ k) (all_cons (hy_ k) (ac_)))))
  (fun k=>QuietOk.of (all_cons (fun h r=>⟨rfl,rfl⟩) (all_cons (fun h r=>⟨rfl,rfl⟩) (all_cons (fun h r=>⟨rfl,rfl⟩) (ac_)))))
  (fun a=>rfl)
  (all_cons (ao_ codOk (by kernel_rfl) (by (repeat intro _);show _=_;kernel_rfl) (fun k=>by (repeat intro _);show _=_;kernel_rfl)) (ac_))
  (fun k=>by (repeat intro _);show _=_;kernel_rfl)
noncomputable def fp_ (k:Nat):a3_ K TyK:=sm cod (ab_) [.mv, .mv] [.c (.r 0 0), .g [.i .i64, .s, .s]] [.x [.s, .i .i64, .o 1, .o 2, .s, .o 3, .o 4], .l .end, .l .parcel, .l .record, .l .record] (fun k v1 v2 v3 v4 v5 v6 v7 v8 v9 v10=>cJ_ k (⟨v4,v5,v7,v8,v6,v9,v10⟩:ab_) (⟨v1,v2,v3⟩:ad_)) k [] [.x [.s, .i .i64, .o 5, .o 6, .s, .o 7, .o 8], .d, .d, .d, .d, .l .end, .l .parcel, .l .record, .l .record] (fun r=>(r.Key,r.Width,(),(),r.Forged,(),(),r.Ends,r.Flight,r.Given,r.Taken,())) (fun v1 v2 v3 v4 v5 v6 v7=>(⟨v1,v2,v4,v5,v3,v6,v7⟩:ab_)) false
noncomputable abbrev ld_:List (Nat×Cut K TyK (ab_)):=[(5,ct cod [0,3,4] [.c (.r 0 0), .c (.r 5 0), .c (.r 6 0)] [.x [.s, .i .i64, .o 7, .o 8, .s, .o 9, .o 10], .d, .d, .d, .d, .x [.i .i64, .s, .s], .x [.i .i64, .i .i64, .i .i64, .i .i64, .i .i64, .i .i64, .i .i64, .b, .s], .l .end, .l .parcel, .l .record, .l .record] bJ_)]
theorem gQ_ (k:Nat):SummOk Try.prog cod 80 (fp_ k):=aE_ codOk Try.f80 (fun k=>ay_ [(149,hV_ k),(15,ka_ k)]) ld_ false [] 5 [false,true,true,true,true] aF_ Try.func80 (by kernel_rfl) (by kernel_rfl) (by kernel_rfl) (by kernel_rfl)
  (fun k=>Known.of tok eok codOk (all_cons (lT_ k) (all_cons (pH_ k) (ac_))))
  (fun k=>QuietOk.of (all_cons (fun h r=>⟨rfl,rfl⟩) (all_cons (fun h r=>by cases h) (ac_))))
  (fun a=>rfl)
  (all_cons (ao_ codOk (by kernel_rfl) (by (repeat intro _);show _=_;kernel_rfl) (fun k=>by (repeat intro _);show _=_;kernel_rfl)) (ac_))
  (fun k=>by (repeat intro _);show _=_;kernel_rfl)
noncomputable def ku_ (k:Nat):a3_ K TyK:=sm cod (am_) [.bo] [.g [.i .i64, .b, .i .i64, .i .i64, .i .i64, .b, .i .i64, .l true .item, .i .i64, .l true .held, .s, .l true .str]] [] (fun k v1 v2 v3 v4 v5 v6 v7 v8 v9 v10 v11 v12=>ho_ k (⟨v1,v2,v3,v4,v5,v6,(⟨v7,v8⟩:ak_),(⟨v9,v10,v11,v12⟩:ai_)⟩:am_)) k [.g [.i .i64, .b, .i .i64, .i .i64, .i .i64, .b, .i .i64, .o 0, .i .i64, .o 1, .s, .o 2]] [.l .item, .l .held, .l .str] (fun r=>(r.Number,r.Up,r.Life,r.Peer,r.Since,r.Owes,r.Send.Base,(),r.Take.Next,(),r.Take.Open,(),r.Send.Items,r.Take.Held,r.Take.Ready,())) (fun v1 v2 v3 v4 v5 v6 v7 v8 v9 v10 v11 v12=>(⟨v1,v2,v3,v4,v5,v6,(⟨v7,v10⟩:ak_),(⟨v8,v11,v9,v12⟩:ai_)⟩:am_)) false
theorem pf_ (k:Nat):SummOk Try.prog cod 48 (ku_ k):=aE_ codOk Try.f48 (fun k=>ay_ [(46,bY_ k)]) [] false [.cell 2 42] 0 [] aF_ Try.func48 (by kernel_rfl) (by kernel_rfl) (by kernel_rfl) (by kernel_rfl)
  (fun k=>Known.of tok eok codOk (all_cons (cc_ k) (ac_)))
  (fun k=>QuietOk.of (all_cons (fun h r=>⟨rfl,rfl⟩) (ac_)))
  (fun a=>rfl)
  (ac_)
  (fun k=>by (repeat intro _);show _=_;kernel_rfl)
noncomputable def j9_ (k:Nat):a3_ K TyK:=sm cod (am_) [.bo] [.g [.i .i64, .b, .i .i64, .i .i64, .i .i64, .b, .i .i64, .l true .item, .i .i64, .l true .held, .s, .l true .str]] [] (fun k v1 v2 v3 v4 v5 v6 v7 v8 v9 v10 v11 v12=>hs_ k (⟨v1,v2,v3,v4,v5,v6,(⟨v7,v8⟩:ak_),(⟨v9,v10,v11,v12⟩:ai_)⟩:am_)) k [.g [.i .i64, .b, .i .i64, .i .i64, .i .i64, .b, .i .i64, .o 0, .i .i64, .o 1, .s, .o 2]] [.l .item, .l .held, .l .str] (fun r=>(r.Number,r.Up,r.Life,r.Peer,r.Since,r.Owes,r.Send.Base,(),r.Take.Next,(),r.Take.Open,(),r.Send.Items,r.Take.Held,r.Take.Ready,())) (fun v1 v2 v3 v4 v5 v6 v7 v8 v9 v10 v11 v12=>(⟨v1,v2,v3,v4,v5,v6,(⟨v7,v10⟩:ak_),(⟨v8,v11,v9,v12⟩:ai_)⟩:am_)) false
theorem pD_ (k:Nat):SummOk Try.prog cod 47 (j9_ k):=aE_ codOk Try.f47 (fun k=>ay_ [(46,bY_ k),(58,cX_ k)]) [] false [.cell 2 42] 0 [] aF_ Try.func47 (by kernel_rfl) (by kernel_rfl) (by kernel_rfl) (by kernel_rfl)
  (fun k=>Known.of tok eok codOk (all_cons (cc_ k) (all_cons (dj_ k) (ac_))))
  (fun k=>QuietOk.of (all_cons (fun h r=>⟨rfl,rfl⟩) (all_cons (fun h r=>by cases h) (ac_))))
  (fun a=>rfl)
  (ac_)
  (fun k=>by (repeat intro _);show _=_;kernel_rfl)
noncomputable def f0_ (k:Nat):a3_ K TyK:=sm cod (Bool×ab_) [.mv] [.c (.r 0 0)] [.x [.s, .i .i64, .o 1, .o 2, .s, .o 3, .o 4], .l .end, .l .parcel, .l .record, .l .record] (fun k v1 v2 v3 v4 v5 v6 v7=>ej_ k (⟨v1,v2,v4,v5,v3,v6,v7⟩:ab_)) k [.c (.b)] [.x [.s, .i .i64, .o 5, .o 6, .s, .o 7, .o 8], .d, .d, .d, .d, .l .end, .l .parcel, .l .record, .l .record] (fun r=>(r.1,r.2.Key,r.2.Width,(),(),r.2.Forged,(),(),r.2.Ends,r.2.Flight,r.2.Given,r.2.Taken,())) (fun v1 v2 v3 v4 v5 v6 v7 v8=>(v1,(⟨v2,v3,v5,v6,v4,v7,v8⟩:ab_))) false
theorem hd_ (k:Nat):SummOk Try.prog cod 81 (f0_ k):=aE_ codOk Try.f81 (fun k=>ay_ []) [] false [.tmp 2] 5 [false,true,true,true,true] aF_ Try.func81 (by kernel_rfl) (by kernel_rfl) (by kernel_rfl) (by kernel_rfl)
  (fun k=>Known.of tok eok codOk (ac_))
  (fun k=>QuietOk.of (ac_))
  (fun a=>rfl)
  (ac_)
  (fun k=>by (repeat intro _);show _=_;kernel_rfl)
noncomputable def q0_ (k:Nat):a3_ K TyK:=sm cod (List az_) [.bo] [.c (.s)] [] (ll_) k [.c (.o 0)] [.l .part] (fun r=>((),r,())) (fun v1=>v1) false
noncomputable abbrev yc_:List (Nat×Cut K TyK (List az_)):=[(4,ct cod [0,3] [.c (.s), .c (.o 0)] [.l .part] g9_)]
theorem vU_ (k:Nat):SummOk Try.prog cod 155 (q0_ k):=aE_ codOk Try.f155 (fun k=>ay_ []) yc_ false [.tmp 2] 0 [] aF_ Try.func155 (by kernel_rfl) (by kernel_rfl) (by kernel_rfl) (by kernel_rfl)
  (fun k=>Known.of tok eok codOk (ac_))
  (fun k=>QuietOk.of (ac_))
  (fun a=>rfl)
  (all_cons (ao_ codOk (by kernel_rfl) (by (repeat intro _);show _=_;kernel_rfl) (fun k=>by (repeat intro _);show _=_;kernel_rfl)) (ac_))
  (fun k=>by (repeat intro _);show _=_;kernel_rfl)
noncomputable def jh_ (k:Nat):a3_ K TyK:=sm cod (ak_×Int) [.bo, .bo] [.g [.i .i64, .l true .item], .c (.s)] [] (fun k v1 v2 v3=>gH_ k (⟨v1,v2⟩:ak_) v3) k [.g [.i .i64, .o 0], .c (.i .i64)] [.l .item] (fun r=>(r.1.Base,(),r.2,r.1.Items,())) (fun v1 v2 v3=>((⟨v1,v3⟩:ak_),v2)) false
noncomputable abbrev oV_:List (Nat×Cut K TyK (ak_×Int)):=[(9,ct cod [4,8,40,41,42] [.c (.r 0 0), .c (.r 1 0), .c (.o 2), .c (.i .i64), .c (.i .i64)] [.x [.i .i64, .o 3], .x [.i .i64, .o 4], .l .part, .l .item, .l .item] cQ_)]
theorem nw_ (k:Nat):SummOk Try.prog cod 98 (jh_ k):=aE_ codOk Try.f98 (fun k=>ay_ [(109,dL_ k),(155,q0_ k),(126,d6_ k)]) oV_ false [.cell 4 37, .tmp 5] 0 [] aF_ Try.func98 (by kernel_rfl) (by kernel_rfl) (by kernel_rfl) (by kernel_rfl)
  (fun k=>Known.of tok eok codOk (all_cons (er_ k) (all_cons (vU_ k) (all_cons (eZ_ k) (ac_)))))
  (fun k=>QuietOk.of (all_cons (fun h r=>⟨rfl,rfl⟩) (all_cons (fun h r=>by cases h) (all_cons (fun h r=>by cases h) (ac_)))))
  (fun a=>rfl)
  (all_cons (ao_ codOk (by kernel_rfl) (by (repeat intro _);show _=_;kernel_rfl) (fun k=>by (repeat intro _);show _=_;kernel_rfl)) (ac_))
  (fun k=>by (repeat intro _);show _=_;kernel_rfl)
noncomputable def kh_ (k:Nat):a3_ K TyK:=sm cod (aw_) [.bo, .bo] [.g [.i .i64, .b, .i .i64, .i .i64, .i .i64, .b, .i .i64, .l true .item, .i .i64, .l true .held, .s, .l true .str], .c (.s)] [] (fun k v1 v2 v3 v4 v5 v6 v7 v8 v9 v10 v11 v12 v13=>f9_ k (⟨v1,v2,v3,v4,v5,v6,(⟨v7,v8⟩:ak_),(⟨v9,v10,v11,v12⟩:ai_)⟩:am_) v13) k [.g [.i .i64, .i .i64, .b, .i .i64, .i .i64, .i .i64, .b, .i .i64, .o 0, .i .i64, .o 1, .s, .o 2, .o 3, .s]] [.l .item, .l .held, .l .str, .l .packet] (fun r=>(r.Code,r.End.Number,r.End.Up,r.End.Life,r.End.Peer,r.End.Since,r.End.Owes,r.End.Send.Base,(),r.End.Take.Next,(),r.End.Take.Open,(),(),r.Text,r.End.Send.Items,r.End.Take.Held,r.End.Take.Ready,r.Out,())) (fun v1 v2 v3 v4 v5 v6 v7 v8 v9 v10 v11 v12 v13 v14 v15=>(⟨v1,(⟨v2,v3,v4,v5,v6,v7,(⟨v8,v12⟩:ak_),(⟨v9,v13,v10,v14⟩:ai_)⟩:am_),v15,v11⟩:aw_)) false
theorem p4_ (k:Nat):SummOk Try.prog cod 39 (kh_ k):=aE_ codOk Try.f39 (fun k=>ay_ [(46,bY_ k),(98,jh_ k),(58,cX_ k)]) [] false [.cell 4 45] 0 [] aF_ Try.func39 (by kernel_rfl) (by kernel_rfl) (by kernel_rfl) (by kernel_rfl)
  (fun k=>Known.of tok eok codOk (all_cons (cc_ k) (all_cons (nw_ k) (all_cons (dj_ k) (ac_)))))
  (fun k=>QuietOk.of (all_cons (fun h r=>⟨rfl,rfl⟩) (all_cons (fun h r=>by cases h) (all_cons (fun h r=>by cases h) (ac_)))))
  (fun a=>rfl)
  (ac_)
  (fun k=>by (repeat intro _);show _=_;kernel_rfl)
noncomputable def jr_ (k:Nat):a3_ K TyK:=sm cod (ai_×ByteArray×Bool) [.bo] [.g [.i .i64, .l true .held, .s, .l true .str]] [] (fun k v1 v2 v3 v4=>gD_ k (⟨v1,v2,v3,v4⟩:ai_)) k [.g [.i .i64, .o 0, .s, .o 1], .c (.s), .c (.b)] [.l .held, .l .str] (fun r=>(r.1.Next,(),r.1.Open,(),r.2.1,r.2.2,r.1.Held,r.1.Ready,())) (fun v1 v2 v3 v4 v5 v6=>((⟨v1,v5,v2,v6⟩:ai_),v3,v4)) false
theorem nn_ (k:Nat):SummOk Try.prog cod 99 (jr_ k):=aE_ codOk Try.f99 (fun k=>ay_ [(110,dB_ k),(127,fo_ k),(128,k1_ k)]) [] false [.cell 2 40, .tmp 3, .tmp 4] 0 [] aF_ Try.func99 (by kernel_rfl) (by kernel_rfl) (by kernel_rfl) (by kernel_rfl)
  (fun k=>Known.of tok eok codOk (all_cons (ev_ k) (all_cons (gl_ k) (all_cons (mV_ k) (ac_)))))
  (fun k=>QuietOk.of (all_cons (fun h r=>⟨rfl,rfl⟩) (all_cons (fun h r=>by cases h) (all_cons (fun h r=>by cases h) (ac_)))))
  (fun a=>rfl)
  (ac_)
  (fun k=>by (repeat intro _);show _=_;kernel_rfl)
noncomputable def kd_ (k:Nat):a3_ K TyK:=sm cod (aw_) [.bo] [.g [.i .i64, .b, .i .i64, .i .i64, .i .i64, .b, .i .i64, .l true .item, .i .i64, .l true .held, .s, .l true .str]] [] (fun k v1 v2 v3 v4 v5 v6 v7 v8 v9 v10 v11 v12=>hz_ k (⟨v1,v2,v3,v4,v5,v6,(⟨v7,v8⟩:ak_),(⟨v9,v10,v11,v12⟩:ai_)⟩:am_)) k [.g [.i .i64, .i .i64, .b, .i .i64, .i .i64, .i .i64, .b, .i .i64, .o 0, .i .i64, .o 1, .s, .o 2, .o 3, .s]] [.l .item, .l .held, .l .str, .l .packet] (fun r=>(r.Code,r.End.Number,r.End.Up,r.End.Life,r.End.Peer,r.End.Since,r.End.Owes,r.End.Send.Base,(),r.End.Take.Next,(),r.End.Take.Open,(),(),r.Text,r.End.Send.Items,r.End.Take.Held,r.End.Take.Ready,r.Out,())) (fun v1 v2 v3 v4 v5 v6 v7 v8 v9 v10 v11 v12 v13 v14 v15=>(⟨v1,(⟨v2,v3,v4,v5,v6,v7,(⟨v8,v12⟩:ak_),(⟨v9,v13,v10,v14⟩:ai_)⟩:am_),v15,v11⟩:aw_)) false
theorem oH_ (k:Nat):SummOk Try.prog cod 40 (kd_ k):=aE_ codOk Try.f40 (fun k=>ay_ [(46,bY_ k),(99,jr_ k),(58,cX_ k)]) [] false [.cell 2 45] 0 [] aF_ Try.func40 (by kernel_rfl) (by kernel_rfl) (by kernel_rfl) (by kernel_rfl)
  (fun k=>Known.of tok eok codOk (all_cons (cc_ k) (all_cons (nn_ k) (all_cons (dj_ k) (ac_)))))
  (fun k=>QuietOk.of (all_cons (fun h r=>⟨rfl,rfl⟩) (all_cons (fun h r=>by cases h) (all_cons (fun h r=>by cases h) (ac_)))))
  (fun a=>rfl)
  (ac_)
  (fun k=>by (repeat intro _);show _=_;kernel_rfl)
noncomputable def fS_ (k:Nat):a3_ K TyK:=sm cod (ab_) [.mv, .mv] [.c (.r 0 0), .c (.i .i64)] [.x [.s, .i .i64, .o 1, .o 2, .s, .o 3, .o 4], .l .end, .l .parcel, .l .record, .l .record] (fun k v1 v2 v3 v4 v5 v6 v7 v8=>d9_ k (⟨v2,v3,v5,v6,v4,v7,v8⟩:ab_) v1) k [] [.x [.s, .i .i64, .o 5, .o 6, .s, .o 7, .o 8], .d, .d, .d, .d, .l .end, .l .parcel, .l .record, .l .record] (fun r=>(r.Key,r.Width,(),(),r.Forged,(),(),r.Ends,r.Flight,r.Given,r.Taken,())) (fun v1 v2 v3 v4 v5 v6 v7=>(⟨v1,v2,v4,v5,v3,v6,v7⟩:ab_)) false
theorem hr_ (k:Nat):SummOk Try.prog cod 82 (fS_ k):=aE_ codOk Try.f82 (fun k=>ay_ [(81,f0_ k),(40,kd_ k)]) [] false [] 5 [false,true,true,true,true] aF_ Try.func82 (by kernel_rfl) (by kernel_rfl) (by kernel_rfl) (by kernel_rfl)
  (fun k=>Known.of tok eok codOk (all_cons (hd_ k) (all_cons (oH_ k) (ac_))))
  (fun k=>QuietOk.of (all_cons (fun h r=>by cases h) (all_cons (fun h r=>by cases h) (ac_))))
  (fun a=>rfl)
  (ac_)
  (fun k=>by (repeat intro _);show _=_;kernel_rfl)
noncomputable def ua_ (k:Nat):a3_ K TyK:=sm cod (ab_) [.bo, .bo] [.g [.s, .i .i64, .l true .end, .l true .parcel, .s, .l true .record, .l true .record], .g [.i .i64, .i .i64, .i .i64, .i .i64, .s]] [] (fun k v1 v2 v3 v4 v5 v6 v7 v8 v9 v10 v11 v12=>oz_ k (⟨v1,v2,v3,v4,v5,v6,v7⟩:ab_) (⟨v8,v9,v10,v11,v12⟩:aS_)) k [.g [.s, .i .i64, .o 0, .o 1, .s, .o 2, .o 3]] [.l .end, .l .parcel, .l .record, .l .record] (fun r=>(r.Key,r.Width,(),(),r.Forged,(),(),r.Ends,r.Flight,r.Given,r.Taken,())) (fun v1 v2 v3 v4 v5 v6 v7=>(⟨v1,v2,v4,v5,v3,v6,v7⟩:ab_)) false
noncomputable abbrev z3_:List (Nat×Cut K TyK (ab_)):=[(5,ct cod [3,4,5,6] [.c (.r 0 0), .c (.r 1 0), .c (.r 2 0), .c (.b)] [.x [.i .i64, .i .i64, .i .i64, .i .i64, .s], .x [.s, .i .i64, .o 3, .o 4, .s, .o 5, .o 6], .x [.s, .i .i64, .o 7, .o 8, .s, .o 9, .o 10], .l .end, .l .parcel, .l .record, .l .record, .l .end, .l .parcel, .l .record, .l .record] hW_),
  (6,ct cod [3,4,5,6,7] [.c (.r 0 0), .c (.r 1 0), .c (.r 2 0), .c (.b), .c (.b)] [.x [.i .i64, .i .i64, .i .i64, .i .i64, .s], .x [.s, .i .i64, .o 3, .o 4, .s, .o 5, .o 6], .x [.s, .i .i64, .o 7, .o 8, .s, .o 9, .o 10], .l .end, .l .parcel, .l .record, .l .record, .l .end, .l .parcel, .l .record, .l .record] h7_),
  (45,ct cod [4,5] [.c (.r 0 0), .c (.r 1 0)] [.x [.s, .i .i64, .o 2, .o 3, .s, .o 4, .o 5], .x [.s, .i .i64, .o 6, .o 7, .s, .o 8, .o 9], .l .end, .l .parcel, .l .record, .l .record, .l .end, .l .parcel, .l .record, .l .record] ar_),
  (11,ct cod [3,4,5,7] [.c (.r 0 0), .c (.r 1 0), .c (.r 2 0), .c (.b)] [.x [.i .i64, .i .i64, .i .i64, .i .i64, .s], .x [.s, .i .i64, .o 3, .o 4, .s, .o 5, .o 6], .x [.s, .i .i64, .o 7, .o 8, .s, .o 9, .o 10], .l .end, .l .parcel, .l .record, .l .record, .l .end, .l .parcel, .l .record, .l .record] gX_),
  (16,ct cod [3,4,5,6,7,37] [.c (.r 0 0), .c (.r 1 0), .c (.r 2 0), .c (.b), .c (.b), .c (.i .i64)] [.x [.i .i64, .i .i64, .i .i64, .i .i64, .s], .x [.s, .i .i64, .o 3, .o 4, .s, .o 5, .o 6], .x [.s, .i .i64, .o 7, .o 8, .s, .o 9, .o 10], .l .end, .l .parcel, .l .record, .l .record, .l .end, .l .parcel, .l .record, .l .record] iv_)]
theorem xs_ (k:Nat):SummOk Try.prog cod 29 (ua_ k):=aE_ codOk Try.f29 (fun k=>ay_ [(27,cq_ k),(78,gm_ k),(79,fF_ k),(80,fp_ k),(48,ku_ k),(47,j9_ k),(81,f0_ k),(39,kh_ k),(82,fS_ k)]) z3_ false [.cell 4 60] 0 [] aF_ Try.func29 (by kernel_rfl) (by kernel_rfl) (by kernel_rfl) (by kernel_rfl)
  (fun k=>Known.of tok eok codOk (all_cons (cV_ k) (all_cons (hQ_ k) (all_cons (hD_ k) (all_cons (gQ_ k) (all_cons (pf_ k) (all_cons (pD_ k) (all_cons (hd_ k) (all_cons (p4_ k) (all_cons (hr_ k) (ac_)))))))))))
  (fun k=>QuietOk.of (all_cons (fun h r=>⟨rfl,rfl⟩) (all_cons (fun h r=>by cases h) (all_cons (fun h r=>by cases h) (all_cons (fun h r=>by cases h) (all_cons (fun h r=>by cases h) (all_cons (fun h r=>by cases h) (all_cons (fun h r=>by cases h) (all_cons (fun h r=>by cases h) (all_cons (fun h r=>by cases h) (ac_)))))))))))
  (fun a=>rfl)
  (all_cons (ao_ codOk (by kernel_rfl) (by (repeat intro _);show _=_;kernel_rfl) (fun k=>by (repeat intro _);show _=_;kernel_rfl)) (all_cons (ao_ codOk (by kernel_rfl) (by (repeat intro _);show _=_;kernel_rfl) (fun k=>by (repeat intro _);show _=_;kernel_rfl)) (all_cons (ao_ codOk (by kernel_rfl) (by (repeat intro _);show _=_;kernel_rfl) (fun k=>by (repeat intro _);show _=_;kernel_rfl)) (all_cons (ao_ codOk (by kernel_rfl) (by (repeat intro _);show _=_;kernel_rfl) (fun k=>by (repeat intro _);show _=_;kernel_rfl)) (all_cons (ao_ codOk (by kernel_rfl) (by (repeat intro _);show _=_;kernel_rfl) (fun k=>by (repeat intro _);show _=_;kernel_rfl)) (ac_))))))
  (fun k=>by (repeat intro _);show _=_;kernel_rfl)
noncomputable def ls_ (k:Nat):a3_ K TyK:=sm cod (Bool) [.bo, .bo] [.c (.l true .str), .c (.l true .str)] [] (ih_) k [.c (.b)] [] (fun r=>(r,())) (fun v1=>v1) true
noncomputable abbrev sJ_:List (Nat×Cut K TyK (Bool)):=[(4,ct cod [0,1,5] [.c (.l true .str), .c (.l true .str), .c (.i .i64)] [] dS_)]
theorem qC_ (k:Nat):SummOk Try.prog cod 113 (ls_ k):=aE_ codOk Try.f113 (fun k=>ay_ []) sJ_ false [.tmp 4] 0 [] aF_ Try.func113 (by kernel_rfl) (by kernel_rfl) (by kernel_rfl) (by kernel_rfl)
  (fun k=>Known.of tok eok codOk (ac_))
  (fun k=>QuietOk.of (ac_))
  (fun a=>rfl)
  (all_cons (ao_ codOk (by kernel_rfl) (by (repeat intro _);show _=_;kernel_rfl) (fun k=>by (repeat intro _);show _=_;kernel_rfl)) (ac_))
  (fun k=>by (repeat intro _);show _=_;kernel_rfl)
noncomputable def pb_ (k:Nat):a3_ K TyK:=sm cod (ab_) [.bo, .bo, .bo] [.g [.s, .i .i64, .l true .end, .l true .parcel, .s, .l true .record, .l true .record], .c (.i .i64), .c (.i .i64)] [] (fun k v1 v2 v3 v4 v5 v6 v7 v8 v9=>lM_ k (⟨v1,v2,v3,v4,v5,v6,v7⟩:ab_) v8 v9) k [.g [.s, .i .i64, .o 0, .o 1, .s, .o 2, .o 3]] [.l .end, .l .parcel, .l .record, .l .record] (fun r=>(r.Key,r.Width,(),(),r.Forged,(),(),r.Ends,r.Flight,r.Given,r.Taken,())) (fun v1 v2 v3 v4 v5 v6 v7=>(⟨v1,v2,v4,v5,v3,v6,v7⟩:ab_)) false
noncomputable abbrev vI_:List (Nat×Cut K TyK (ab_)):=[(7,ct cod [1,2,6,7,8] [.c (.i .i64), .c (.i .i64), .c (.r 0 0), .c (.r 1 0), .c (.m 2)] [.x [.s, .i .i64, .o 3, .o 4, .s, .o 5, .o 6], .x [.s, .i .i64, .o 7, .o 8, .s, .o 9, .o 10], .m .key .int, .l .end, .l .parcel, .l .record, .l .record, .l .end, .l .parcel, .l .record, .l .record] dn_),
  (13,ct cod [1,2,6,7,8,40,41,42] [.c (.i .i64), .c (.i .i64), .c (.r 0 0), .c (.r 1 0), .c (.m 2), .c (.o 3), .c (.i .i64), .c (.i .i64)] [.x [.s, .i .i64, .o 4, .o 5, .s, .o 6, .o 7], .x [.s, .i .i64, .o 8, .o 9, .s, .o 10, .o 11], .m .key .int, .l .parcel, .l .end, .l .parcel, .l .record, .l .record, .l .end, .l .parcel, .l .record, .l .record] dt_),
  (17,ct cod [1,2,6,7,8,11,12,40,41,42] [.c (.i .i64), .c (.i .i64), .c (.r 0 0), .c (.r 1 0), .c (.m 2), .c (.r 3 0), .c (.r 4 0), .c (.o 5), .c (.i .i64), .c (.i .i64)] [.x [.s, .i .i64, .o 6, .o 7, .s, .o 8, .o 9], .x [.s, .i .i64, .o 10, .o 11, .s, .o 12, .o 13], .m .key .int, .x [.i .i64, .s, .s], .x [.i .i64, .s], .l .parcel, .l .end, .l .parcel, .l .record, .l .record, .l .end, .l .parcel, .l .record, .l .record] bs_),
  (21,ct cod [1,2,6,7,8,13] [.c (.i .i64), .c (.i .i64), .c (.r 0 0), .c (.r 1 0), .c (.m 2), .c (.i .i64)] [.x [.s, .i .i64, .o 3, .o 4, .s, .o 5, .o 6], .x [.s, .i .i64, .o 7, .o 8, .s, .o 9, .o 10], .m .key .int, .l .end, .l .parcel, .l .record, .l .record, .l .end, .l .parcel, .l .record, .l .record] cj_),
  (19,ct cod [1,2,6,7,8,40,41,42] [.c (.i .i64), .c (.i .i64), .c (.r 0 0), .c (.r 1 0), .c (.m 2), .c (.o 3), .c (.i .i64), .c (.i .i64)] [.x [.s, .i .i64, .o 4, .o 5, .s, .o 6, .o 7], .x [.s, .i .i64, .o 8, .o 9, .s, .o 10, .o 11], .m .key .int, .l .parcel, .l .end, .l .parcel, .l .record, .l .record, .l .end, .l .parcel, .l .record, .l .record] dv_),
  (24,ct cod [1,2,6,7,8,13,14] [.c (.i .i64), .c (.i .i64), .c (.r 0 0), .c (.r 1 0), .c (.m 2), .c (.i .i64), .c (.i .i64)] [.x [.s, .i .i64, .o 3, .o 4, .s, .o 5, .o 6], .x [.s, .i .i64, .o 7, .o 8, .s, .o 9, .o 10], .m .key .int, .l .end, .l .parcel, .l .record, .l .record, .l .end, .l .parcel, .l .record, .l .record] ep_)]
theorem tz_ (k:Nat):SummOk Try.prog cod 35 (pb_ k):=aE_ codOk Try.f35 (fun k=>ay_ [(27,cq_ k),(78,gm_ k),(79,fF_ k),(80,fp_ k),(82,fS_ k)]) vI_ false [.cell 6 60] 0 [] aF_ Try.func35 (by kernel_rfl) (by kernel_rfl) (by kernel_rfl) (by kernel_rfl)
  (fun k=>Known.of tok eok codOk (all_cons (cV_ k) (all_cons (hQ_ k) (all_cons (hD_ k) (all_cons (gQ_ k) (all_cons (hr_ k) (ac_)))))))
  (fun k=>QuietOk.of (all_cons (fun h r=>⟨rfl,rfl⟩) (all_cons (fun h r=>by cases h) (all_cons (fun h r=>by cases h) (all_cons (fun h r=>by cases h) (all_cons (fun h r=>by cases h) (ac_)))))))
  (fun a=>rfl)
  (all_cons (ao_ codOk (by kernel_rfl) (by (repeat intro _);show _=_;kernel_rfl) (fun k=>by (repeat intro _);show _=_;kernel_rfl)) (all_cons (ao_ codOk (by kernel_rfl) (by (repeat intro _);show _=_;kernel_rfl) (fun k=>by (repeat intro _);show _=_;kernel_rfl)) (all_cons (ao_ codOk (by kernel_rfl) (by (repeat intro _);show _=_;kernel_rfl) (fun k=>by (repeat intro _);show _=_;kernel_rfl)) (all_cons (ao_ codOk (by kernel_rfl) (by (repeat intro _);show _=_;kernel_rfl) (fun k=>by (repeat intro _);show _=_;kernel_rfl)) (all_cons (ao_ codOk (by kernel_rfl) (by (repeat intro _);show _=_;kernel_rfl) (fun k=>by (repeat intro _);show _=_;kernel_rfl)) (all_cons (ao_ codOk (by kernel_rfl) (by (repeat intro _);show _=_;kernel_rfl) (fun k=>by (repeat intro _);show _=_;kernel_rfl)) (ac_)))))))
  (fun k=>by (repeat intro _);show _=_;kernel_rfl)
noncomputable def m3_ (k:Nat):a3_ K TyK:=sm cod (List ByteArray) [.bo, .bo, .bo, .bo] [.c (.l true .record), .c (.i .i64), .c (.i .i64), .c (.i .i64)] [] (hT_) k [.c (.o 0)] [.l .str] (fun r=>((),r,())) (fun v1=>v1) false
noncomputable abbrev s2_:List (Nat×Cut K TyK (List ByteArray)):=[(3,ct cod [0,1,2,3,9,10] [.c (.l true .record), .c (.i .i64), .c (.i .i64), .c (.i .i64), .c (.o 0), .c (.i .i64)] [.l .str] eC_),
  (4,ct cod [0,1,2,3,9,10] [.c (.l true .record), .c (.i .i64), .c (.i .i64), .c (.i .i64), .c (.o 0), .c (.i .i64)] [.l .str] dA_)]
theorem rU_ (k:Nat):SummOk Try.prog cod 114 (m3_ k):=aE_ codOk Try.f114 (fun k=>ay_ []) s2_ false [.tmp 8] 0 [] aF_ Try.func114 (by kernel_rfl) (by kernel_rfl) (by kernel_rfl) (by kernel_rfl)
  (fun k=>Known.of tok eok codOk (ac_))
  (fun k=>QuietOk.of (ac_))
  (fun a=>rfl)
  (all_cons (ao_ codOk (by kernel_rfl) (by (repeat intro _);show _=_;kernel_rfl) (fun k=>by (repeat intro _);show _=_;kernel_rfl)) (all_cons (ao_ codOk (by kernel_rfl) (by (repeat intro _);show _=_;kernel_rfl) (fun k=>by (repeat intro _);show _=_;kernel_rfl)) (ac_)))
  (fun k=>by (repeat intro _);show _=_;kernel_rfl)
noncomputable def m4_ (k:Nat):a3_ K TyK:=sm cod (Bool) [.bo, .bo] [.g [.s, .i .i64, .l true .end, .l true .parcel, .s, .l true .record, .l true .record], .c (.i .i64)] [] (fun k v1 v2 v3 v4 v5 v6 v7 v8=>jT_ k (⟨v1,v2,v3,v4,v5,v6,v7⟩:ab_) v8) k [.c (.b)] [] (fun r=>(r,())) (fun v1=>v1) true
noncomputable abbrev s7_:List (Nat×Cut K TyK (Bool)):=[(9,ct cod [1,2,6] [.c (.i .i64), .c (.r 0 0), .c (.i .i64)] [.x [.s, .i .i64, .l true .end, .l true .parcel, .s, .l true .record, .l true .record]] fl_),
  (15,ct cod [7,8] [.c (.r 0 0), .c (.i .i64)] [.x [.s, .i .i64, .o 1, .o 2, .s, .o 3, .o 4], .l .end, .l .parcel, .l .record, .l .record] co_)]
theorem su_ (k:Nat):SummOk Try.prog cod 49 (m4_ k):=aE_ codOk Try.f49 (fun k=>ay_ [(34,eo_ k),(35,pb_ k),(24,pj_ k),(22,mO_ k),(23,mU_ k),(114,m3_ k),(113,ls_ k)]) s7_ false [.tmp 4] 0 [] aF_ Try.func49 (by kernel_rfl) (by kernel_rfl) (by kernel_rfl) (by kernel_rfl)
  (fun k=>Known.of tok eok codOk (all_cons (fs_ k) (all_cons (tz_ k) (all_cons (to_ k) (all_cons (r5_ k) (all_cons (sB_ k) (all_cons (rU_ k) (all_cons (qC_ k) (ac_)))))))))
  (fun k=>QuietOk.of (all_cons (fun h r=>⟨rfl,rfl⟩) (all_cons (fun h r=>by cases h) (all_cons (fun h r=>⟨rfl,rfl⟩) (all_cons (fun h r=>⟨rfl,rfl⟩) (all_cons (fun h r=>⟨rfl,rfl⟩) (all_cons (fun h r=>by cases h) (all_cons (fun h r=>⟨rfl,rfl⟩) (ac_)))))))))
  (fun a=>rfl)
  (all_cons (ao_ codOk (by kernel_rfl) (by (repeat intro _);show _=_;kernel_rfl) (fun k=>by (repeat intro _);show _=_;kernel_rfl)) (all_cons (ao_ codOk (by kernel_rfl) (by (repeat intro _);show _=_;kernel_rfl) (fun k=>by (repeat intro _);show _=_;kernel_rfl)) (ac_)))
  (fun k=>by (repeat intro _);show _=_;kernel_rfl)
noncomputable def sT_ (k:Nat):a3_ K TyK:=sm cod (Bool) [.pe] [.c (.l false .byte)] [] (kC_) k [.c (.b)] [] (fun r=>(r,())) (fun v1=>v1) true
theorem ok_laws_FnLive (k:Nat):SummOk Try.prog cod 9 (sT_ k):=aE_ codOk Try.f9 (fun k=>ay_ [(26,hv_ k),(27,cq_ k),(29,ua_ k),(49,m4_ k)]) [] false [.tmp 2] 0 [] aF_ Try.func9 (by kernel_rfl) (by kernel_rfl) (by kernel_rfl) (by kernel_rfl)
  (fun k=>Known.of tok eok codOk (all_cons (kS_ k) (all_cons (cV_ k) (all_cons (xs_ k) (all_cons (su_ k) (ac_))))))
  (fun k=>QuietOk.of (all_cons (fun h r=>by cases h) (all_cons (fun h r=>⟨rfl,rfl⟩) (all_cons (fun h r=>by cases h) (all_cons (fun h r=>⟨rfl,rfl⟩) (ac_))))))
  (fun a=>rfl)
  (ac_)
  (fun k=>by (repeat intro _);show _=_;kernel_rfl)
end Km.X
