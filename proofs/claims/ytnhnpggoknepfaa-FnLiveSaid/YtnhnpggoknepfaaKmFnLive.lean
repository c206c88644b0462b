/- A part of the proof of FnLive: each function does what its reading says. There is no condition. -/
import Derived.Test.YtnhnpggoknepfaaKmSeat
import Derived.Test.YtnhnpggoknepfaaKxDef2
namespace Km.X
open Go Km Go.Proofs
set_option linter.unusedVariables false
set_option maxRecDepth 100000
set_option maxHeartbeats 4000000
noncomputable def bl_ (k:Nat):a3_ K TyK:=sm cod (Bool) [.bo, .bo, .bo] [.c (.i .i64), .c (.i .i64), .c (.i .i64)] [] (ax_) k [.c (.b)] [] (fun r=>(r,())) (fun v1=>v1) true
theorem a9_ (k:Nat):SummOk Try.prog cod 89 (bl_ k):=aE_ codOk Try.f89 (fun k=>ay_ []) [] false [.tmp 6] 0 [] aF_ Try.func89 (by kernel_rfl) (by kernel_rfl) (by kernel_rfl) (by kernel_rfl)
  (fun k=>Known.of tok eok codOk (ac_))
  (fun k=>QuietOk.of (ac_))
  (fun a=>rfl)
  (ac_)
  (fun k=>by (repeat intro _);show _=_;kernel_rfl)
noncomputable def dC_ (k:Nat):a3_ K TyK:=sm cod (Bool) [.bo] [.g [.i .i64, .l true .item]] [] (fun k v1 v2=>bF_ k (⟨v1,v2⟩:ak_)) k [.c (.b)] [] (fun r=>(r,())) (fun v1=>v1) true
noncomputable abbrev nz_:List (Nat×Cut K TyK (Bool)):=[(4,ct cod [1,3] [.c (.r 0 0), .c (.i .i64)] [.x [.i .i64, .l true .item]] aJ_)]
theorem er_ (k:Nat):SummOk Try.prog cod 105 (dC_ k):=aE_ codOk Try.f105 (fun k=>ay_ [(89,bl_ k)]) nz_ false [.tmp 2] 0 [] aF_ Try.func105 (by kernel_rfl) (by kernel_rfl) (by kernel_rfl) (by kernel_rfl)
  (fun k=>Known.of tok eok codOk (all_cons (a9_ k) (ac_)))
  (fun k=>QuietOk.of (all_cons (fun h r=>⟨rfl,rfl⟩) (ac_)))
  (fun a=>rfl)
  (all_cons (ao_ codOk (by kernel_rfl) (by (repeat intro _);show _=_;kernel_rfl) (fun k=>by (repeat intro _);show _=_;kernel_rfl)) (ac_))
  (fun k=>by (repeat intro _);show _=_;kernel_rfl)
noncomputable def il_ (k:Nat):a3_ K TyK:=sm cod (Bool) [.bo, .bo] [.g [.i .i64, .l true .held, .s, .l true .str], .c (.i .i64)] [] (fun k v1 v2 v3 v4 v5=>gU_ k (⟨v1,v2,v3,v4⟩:ai_) v5) k [.c (.b)] [] (fun r=>(r,())) (fun v1=>v1) true
theorem ki_ (k:Nat):SummOk Try.prog cod 121 (il_ k):=aE_ codOk Try.f121 (fun k=>ay_ [(89,bl_ k)]) [] false [.tmp 4] 0 [] aF_ Try.func121 (by kernel_rfl) (by kernel_rfl) (by kernel_rfl) (by kernel_rfl)
  (fun k=>Known.of tok eok codOk (all_cons (a9_ k) (ac_)))
  (fun k=>QuietOk.of (all_cons (fun h r=>⟨rfl,rfl⟩) (ac_)))
  (fun a=>rfl)
  (ac_)
  (fun k=>by (repeat intro _);show _=_;kernel_rfl)
noncomputable def i6_ (k:Nat):a3_ K TyK:=sm cod (Bool) [.bo, .bo] [.g [.i .i64, .l true .held, .s, .l true .str], .g [.s, .b]] [] (fun k v1 v2 v3 v4 v5 v6=>ff_ k (⟨v1,v2,v3,v4⟩:ai_) (⟨v5,v6⟩:az_)) k [.c (.b)] [] (fun r=>(r,())) (fun v1=>v1) true
theorem lg_ (k:Nat):SummOk Try.prog cod 157 (i6_ k):=aE_ codOk Try.f157 (fun k=>ay_ []) [] false [.tmp 4] 0 [] aF_ Try.func157 (by kernel_rfl) (by kernel_rfl) (by kernel_rfl) (by kernel_rfl)
  (fun k=>Known.of tok eok codOk (ac_))
  (fun k=>QuietOk.of (ac_))
  (fun a=>rfl)
  (ac_)
  (fun k=>by (repeat intro _);show _=_;kernel_rfl)
noncomputable def dE_ (k:Nat):a3_ K TyK:=sm cod (Bool) [.bo] [.g [.i .i64, .l true .held, .s, .l true .str]] [] (fun k v1 v2 v3 v4=>c3_ k (⟨v1,v2,v3,v4⟩:ai_)) k [.c (.b)] [] (fun r=>(r,())) (fun v1=>v1) true
noncomputable abbrev np_:List (Nat×Cut K TyK (Bool)):=[(4,ct cod [1,3] [.c (.r 0 0), .c (.i .i64)] [.x [.i .i64, .l true .held, .s, .l true .str]] cq_),
  (9,ct cod [1,4] [.c (.r 0 0), .c (.i .i64)] [.x [.i .i64, .l true .held, .s, .l true .str]] aM_)]
theorem ev_ (k:Nat):SummOk Try.prog cod 106 (dE_ k):=aE_ codOk Try.f106 (fun k=>ay_ [(89,bl_ k),(121,il_ k),(157,i6_ k)]) np_ false [.tmp 2] 0 [] aF_ Try.func106 (by kernel_rfl) (by kernel_rfl) (by kernel_rfl) (by kernel_rfl)
  (fun k=>Known.of tok eok codOk (all_cons (a9_ k) (all_cons (ki_ k) (all_cons (lg_ k) (ac_)))))
  (fun k=>QuietOk.of (all_cons (fun h r=>⟨rfl,rfl⟩) (all_cons (fun h r=>⟨rfl,rfl⟩) (all_cons (fun h r=>⟨rfl,rfl⟩) (ac_)))))
  (fun a=>rfl)
  (all_cons (ao_ codOk (by kernel_rfl) (by (repeat intro _);show _=_;kernel_rfl) (fun k=>by (repeat intro _);show _=_;kernel_rfl)) (all_cons (ao_ codOk (by kernel_rfl) (by (repeat intro _);show _=_;kernel_rfl) (fun k=>by (repeat intro _);show _=_;kernel_rfl)) (ac_)))
  (fun k=>by (repeat intro _);show _=_;kernel_rfl)
noncomputable def iR_ (k:Nat):a3_ K TyK:=sm cod (Bool) [.bo] [.g [.i .i64, .l true .item]] [] (fun k v1 v2=>gy_ k (⟨v1,v2⟩:ak_)) k [.c (.b)] [] (fun r=>(r,())) (fun v1=>v1) true
theorem nI_ (k:Nat):SummOk Try.prog cod 107 (iR_ k):=aE_ codOk Try.f107 (fun k=>ay_ []) [] false [.tmp 2] 0 [] aF_ Try.func107 (by kernel_rfl) (by kernel_rfl) (by kernel_rfl) (by kernel_rfl)
  (fun k=>Known.of tok eok codOk (ac_))
  (fun k=>QuietOk.of (ac_))
  (fun a=>rfl)
  (ac_)
  (fun k=>by (repeat intro _);show _=_;kernel_rfl)
noncomputable def i9_ (k:Nat):a3_ K TyK:=sm cod (Bool) [.bo] [.g [.i .i64, .l true .held, .s, .l true .str]] [] (fun k v1 v2 v3 v4=>gw_ k (⟨v1,v2,v3,v4⟩:ai_)) k [.c (.b)] [] (fun r=>(r,())) (fun v1=>v1) true
theorem nu_ (k:Nat):SummOk Try.prog cod 108 (i9_ k):=aE_ codOk Try.f108 (fun k=>ay_ []) [] false [.tmp 2] 0 [] aF_ Try.func108 (by kernel_rfl) (by kernel_rfl) (by kernel_rfl) (by kernel_rfl)
  (fun k=>Known.of tok eok codOk (ac_))
  (fun k=>QuietOk.of (ac_))
  (fun a=>rfl)
  (ac_)
  (fun k=>by (repeat intro _);show _=_;kernel_rfl)
noncomputable def bW_ (k:Nat):a3_ K TyK:=sm cod (Bool) [.bo] [.g [.i .i64, .b, .i .i64, .i .i64, .i .i64, .b, .i .i64, .l true .item, .i .i64, .l true .held, .s, .l true .str]] [] (fun k v1 v2 v3 v4 v5 v6 v7 v8 v9 v10 v11 v12=>bQ_ k (⟨v1,v2,v3,v4,v5,v6,(⟨v7,v8⟩:ak_),(⟨v9,v10,v11,v12⟩:ai_)⟩:am_)) k [.c (.b)] [] (fun r=>(r,())) (fun v1=>v1) true
theorem ch_ (k:Nat):SummOk Try.prog cod 45 (bW_ k):=aE_ codOk Try.f45 (fun k=>ay_ [(89,bl_ k),(105,dC_ k),(106,dE_ k),(107,iR_ k),(108,i9_ k)]) [] false [.tmp 2] 0 [] aF_ Try.func45 (by kernel_rfl) (by kernel_rfl) (by kernel_rfl) (by kernel_rfl)
  (fun k=>Known.of tok eok codOk (all_cons (a9_ k) (all_cons (er_ k) (all_cons (ev_ k) (all_cons (nI_ k) (all_cons (nu_ k) (ac_)))))))
  (fun k=>QuietOk.of (all_cons (fun h r=>⟨rfl,rfl⟩) (all_cons (fun h r=>⟨rfl,rfl⟩) (all_cons (fun h r=>⟨rfl,rfl⟩) (all_cons (fun h r=>⟨rfl,rfl⟩) (all_cons (fun h r=>⟨rfl,rfl⟩) (ac_)))))))
  (fun a=>rfl)
  (ac_)
  (fun k=>by (repeat intro _);show _=_;kernel_rfl)
noncomputable def fx_ (k:Nat):a3_ K TyK:=sm cod (ak_) [.bo] [.g [.i .i64, .l true .item]] [] (fun k v1 v2=>eg_ k (⟨v1,v2⟩:ak_)) k [.g [.i .i64, .o 0]] [.l .item] (fun r=>(r.Base,(),r.Items,())) (fun v1 v2=>(⟨v1,v2⟩:ak_)) false
theorem f6_ (k:Nat):SummOk Try.prog cod 118 (fx_ k):=aE_ codOk Try.f118 (fun k=>ay_ []) [] false [.cell 2 37] 0 [] aF_ Try.func118 (by kernel_rfl) (by kernel_rfl) (by kernel_rfl) (by kernel_rfl)
  (fun k=>Known.of tok eok codOk (ac_))
  (fun k=>QuietOk.of (ac_))
  (fun a=>rfl)
  (ac_)
  (fun k=>by (repeat intro _);show _=_;kernel_rfl)
noncomputable def gA_ (k:Nat):a3_ K TyK:=sm cod (ai_) [.bo] [.g [.i .i64, .l true .held, .s, .l true .str]] [] (fun k v1 v2 v3 v4=>e6_ k (⟨v1,v2,v3,v4⟩:ai_)) k [.g [.i .i64, .o 0, .s, .o 1]] [.l .held, .l .str] (fun r=>(r.Next,(),r.Open,(),r.Held,r.Ready,())) (fun v1 v2 v3 v4=>(⟨v1,v3,v2,v4⟩:ai_)) false
theorem hM_ (k:Nat):SummOk Try.prog cod 119 (gA_ k):=aE_ codOk Try.f119 (fun k=>ay_ []) [] false [.cell 2 40] 0 [] aF_ Try.func119 (by kernel_rfl) (by kernel_rfl) (by kernel_rfl) (by kernel_rfl)
  (fun k=>Known.of tok eok codOk (ac_))
  (fun k=>QuietOk.of (ac_))
  (fun a=>rfl)
  (ac_)
  (fun k=>by (repeat intro _);show _=_;kernel_rfl)
noncomputable def dy_ (k:Nat):a3_ K TyK:=sm cod (am_) [.bo] [.g [.i .i64, .b, .i .i64, .i .i64, .i .i64, .b, .i .i64, .l true .item, .i .i64, .l true .held, .s, .l true .str]] [] (fun k v1 v2 v3 v4 v5 v6 v7 v8 v9 v10 v11 v12=>c2_ k (⟨v1,v2,v3,v4,v5,v6,(⟨v7,v8⟩:ak_),(⟨v9,v10,v11,v12⟩:ai_)⟩:am_)) k [.g [.i .i64, .b, .i .i64, .i .i64, .i .i64, .b, .i .i64, .o 0, .i .i64, .o 1, .s, .o 2]] [.l .item, .l .held, .l .str] (fun r=>(r.Number,r.Up,r.Life,r.Peer,r.Since,r.Owes,r.Send.Base,(),r.Take.Next,(),r.Take.Open,(),r.Send.Items,r.Take.Held,r.Take.Ready,())) (fun v1 v2 v3 v4 v5 v6 v7 v8 v9 v10 v11 v12=>(⟨v1,v2,v3,v4,v5,v6,(⟨v7,v10⟩:ak_),(⟨v8,v11,v9,v12⟩:ai_)⟩:am_)) false
theorem dR_ (k:Nat):SummOk Try.prog cod 52 (dy_ k):=aE_ codOk Try.f52 (fun k=>ay_ [(118,fx_ k),(119,gA_ k)]) [] false [.cell 2 42] 0 [] aF_ Try.func52 (by kernel_rfl) (by kernel_rfl) (by kernel_rfl) (by kernel_rfl)
  (fun k=>Known.of tok eok codOk (all_cons (f6_ k) (all_cons (hM_ k) (ac_))))
  (fun k=>QuietOk.of (all_cons (fun h r=>by cases h) (all_cons (fun h r=>by cases h) (ac_))))
  (fun a=>rfl)
  (ac_)
  (fun k=>by (repeat intro _);show _=_;kernel_rfl)
noncomputable def kG_ (k:Nat):a3_ K TyK:=sm cod (Bool) [.bo] [.g [.i .i64, .i .i64, .i .i64, .i .i64, .i .i64, .i .i64, .i .i64, .b, .s]] [] (fun k v1 v2 v3 v4 v5 v6 v7 v8 v9=>gd_ k (⟨v1,v2,v3,v4,v5,v6,v7,v8,v9⟩:ae_)) k [.c (.b)] [] (fun r=>(r,())) (fun v1=>v1) true
theorem nh_ (k:Nat):SummOk Try.prog cod 53 (kG_ k):=aE_ codOk Try.f53 (fun k=>ay_ [(89,bl_ k)]) [] false [.tmp 2] 0 [] aF_ Try.func53 (by kernel_rfl) (by kernel_rfl) (by kernel_rfl) (by kernel_rfl)
  (fun k=>Known.of tok eok codOk (all_cons (a9_ k) (ac_)))
  (fun k=>QuietOk.of (all_cons (fun h r=>⟨rfl,rfl⟩) (ac_)))
  (fun a=>rfl)
  (ac_)
  (fun k=>by (repeat intro _);show _=_;kernel_rfl)
noncomputable def kj_ (k:Nat):a3_ K TyK:=sm cod (Int) [.bo] [.g [.i .i64, .l true .item]] [] (fun k v1 v2=>mR_ k (⟨v1,v2⟩:ak_)) k [.c (.i .i64)] [] (fun r=>(r,())) (fun v1=>v1) true
noncomputable abbrev qJ_:List (Nat×Cut K TyK (Int)):=[(2,ct cod [1,3] [.c (.r 0 0), .c (.i .i64)] [.x [.i .i64, .l true .item]] df_)]
theorem pl_ (k:Nat):SummOk Try.prog cod 120 (kj_ k):=aE_ codOk Try.f120 (fun k=>ay_ []) qJ_ false [.tmp 2] 0 [] aF_ Try.func120 (by kernel_rfl) (by kernel_rfl) (by kernel_rfl) (by kernel_rfl)
  (fun k=>Known.of tok eok codOk (ac_))
  (fun k=>QuietOk.of (ac_))
  (fun a=>rfl)
  (all_cons (ao_ codOk (by kernel_rfl) (by (repeat intro _);show _=_;kernel_rfl) (fun k=>by (repeat intro _);show _=_;kernel_rfl)) (ac_))
  (fun k=>by (repeat intro _);show _=_;kernel_rfl)
noncomputable def jk_ (k:Nat):a3_ K TyK:=sm cod (ak_) [.bo, .bo, .bo] [.g [.i .i64, .l true .item], .c (.i .i64), .c (.i .i64)] [] (fun k v1 v2 v3 v4=>fr_ k (⟨v1,v2⟩:ak_) v3 v4) k [.g [.i .i64, .o 0]] [.l .item] (fun r=>(r.Base,(),r.Items,())) (fun v1 v2=>(⟨v1,v2⟩:ak_)) false
noncomputable abbrev pb_:List (Nat×Cut K TyK (ak_)):=[(9,ct cod [2,6,7,8] [.c (.i .i64), .c (.r 0 0), .c (.r 1 0), .c (.i .i64)] [.x [.i .i64, .o 2], .x [.i .i64, .o 3], .l .item, .l .item] bt_),
  (13,ct cod [2,6,7,8] [.c (.i .i64), .c (.r 0 0), .c (.r 1 0), .c (.i .i64)] [.x [.i .i64, .o 2], .x [.i .i64, .o 3], .l .item, .l .item] bi_)]
theorem nq_ (k:Nat):SummOk Try.prog cod 54 (jk_ k):=aE_ codOk Try.f54 (fun k=>ay_ [(105,dC_ k),(118,fx_ k),(120,kj_ k),(89,bl_ k)]) pb_ false [.cell 6 37] 0 [] aF_ Try.func54 (by kernel_rfl) (by kernel_rfl) (by kernel_rfl) (by kernel_rfl)
  (fun k=>Known.of tok eok codOk (all_cons (er_ k) (all_cons (f6_ k) (all_cons (pl_ k) (all_cons (a9_ k) (ac_))))))
  (fun k=>QuietOk.of (all_cons (fun h r=>⟨rfl,rfl⟩) (all_cons (fun h r=>by cases h) (all_cons (fun h r=>⟨rfl,rfl⟩) (all_cons (fun h r=>⟨rfl,rfl⟩) (ac_))))))
  (fun a=>rfl)
  (all_cons (ao_ codOk (by kernel_rfl) (by (repeat intro _);show _=_;kernel_rfl) (fun k=>by (repeat intro _);show _=_;kernel_rfl)) (all_cons (ao_ codOk (by kernel_rfl) (by (repeat intro _);show _=_;kernel_rfl) (fun k=>by (repeat intro _);show _=_;kernel_rfl)) (ac_)))
  (fun k=>by (repeat intro _);show _=_;kernel_rfl)
noncomputable def ky_ (k:Nat):a3_ K TyK:=sm cod (ai_) [.mv] [.g [.i .i64, .o 0, .s, .o 1]] [.l .held, .l .str] (fun k v1 v2 v3 v4=>jF_ k (⟨v1,v3,v2,v4⟩:ai_)) k [.g [.i .i64, .o 2, .s, .o 3]] [.d, .d, .l .held, .l .str] (fun r=>(r.Next,(),r.Open,(),r.Held,r.Ready,())) (fun v1 v2 v3 v4=>(⟨v1,v3,v2,v4⟩:ai_)) false
noncomputable abbrev vs_:List (Nat×Cut K TyK (ai_)):=[(1,ct cod [1,2] [.c (.r 2 0), .c (.r 3 0)] [.d, .d, .x [.i .i64, .o 4, .s, .o 5], .x [.i .i64, .o 6, .s, .o 7], .l .held, .l .str, .l .held, .l .str] cT_)]
theorem m8_ (k:Nat):SummOk Try.prog cod 122 (ky_ k):=aE_ codOk Try.f122 (fun k=>ay_ [(157,i6_ k)]) vs_ false [.cell 2 40] 2 [true,true] aF_ Try.func122 (by kernel_rfl) (by kernel_rfl) (by kernel_rfl) (by kernel_rfl)
  (fun k=>Known.of tok eok codOk (all_cons (lg_ k) (ac_)))
  (fun k=>QuietOk.of (all_cons (fun h r=>⟨rfl,rfl⟩) (ac_)))
  (fun a=>rfl)
  (all_cons (ao_ codOk (by kernel_rfl) (by (repeat intro _);show _=_;kernel_rfl) (fun k=>by (repeat intro _);show _=_;kernel_rfl)) (ac_))
  (fun k=>by (repeat intro _);show _=_;kernel_rfl)
noncomputable def jA_ (k:Nat):a3_ K TyK:=sm cod (ai_) [.bo, .bo, .bo] [.g [.i .i64, .l true .held, .s, .l true .str], .c (.i .i64), .g [.s, .b]] [] (fun k v1 v2 v3 v4 v5 v6 v7=>fu_ k (⟨v1,v2,v3,v4⟩:ai_) v5 (⟨v6,v7⟩:az_)) k [.g [.i .i64, .o 0, .s, .o 1]] [.l .held, .l .str] (fun r=>(r.Next,(),r.Open,(),r.Held,r.Ready,())) (fun v1 v2 v3 v4=>(⟨v1,v3,v2,v4⟩:ai_)) false
noncomputable abbrev pE_:List (Nat×Cut K TyK (ai_)):=[(9,ct cod [1,3,5,6,7,8,9,10] [.c (.i .i64), .c (.r 0 0), .c (.r 1 0), .c (.r 2 0), .c (.r 3 0), .c (.o 4), .c (.b), .c (.i .i64)] [.x [.i .i64, .l true .held, .s, .l true .str], .x [.s, .b], .x [.i .i64, .o 5, .s, .o 6], .x [.i .i64, .o 7, .s, .o 8], .l .held, .l .held, .l .str, .l .held, .l .str] bv_),
  (16,ct cod [1,3,5,6,7,8,9,10] [.c (.i .i64), .c (.r 0 0), .c (.r 1 0), .c (.r 2 0), .c (.r 3 0), .c (.o 4), .c (.b), .c (.i .i64)] [.x [.i .i64, .l true .held, .s, .l true .str], .x [.s, .b], .x [.i .i64, .o 5, .s, .o 6], .x [.i .i64, .o 7, .s, .o 8], .l .held, .l .held, .l .str, .l .held, .l .str] bL_),
  (19,ct cod [6,7,8] [.c (.r 0 0), .c (.r 1 0), .c (.o 2)] [.x [.i .i64, .o 3, .s, .o 4], .x [.i .i64, .o 5, .s, .o 6], .l .held, .l .held, .l .str, .l .held, .l .str] di_)]
theorem nB_ (k:Nat):SummOk Try.prog cod 55 (jA_ k):=aE_ codOk Try.f55 (fun k=>ay_ [(106,dE_ k),(119,gA_ k),(121,il_ k),(122,ky_ k)]) pE_ false [.cell 6 40] 0 [] aF_ Try.func55 (by kernel_rfl) (by kernel_rfl) (by kernel_rfl) (by kernel_rfl)
  (fun k=>Known.of tok eok codOk (all_cons (ev_ k) (all_cons (hM_ k) (all_cons (ki_ k) (all_cons (m8_ k) (ac_))))))
  (fun k=>QuietOk.of (all_cons (fun h r=>⟨rfl,rfl⟩) (all_cons (fun h r=>by cases h) (all_cons (fun h r=>⟨rfl,rfl⟩) (all_cons (fun h r=>by cases h) (ac_))))))
  (fun a=>rfl)
  (all_cons (ao_ codOk (by kernel_rfl) (by (repeat intro _);show _=_;kernel_rfl) (fun k=>by (repeat intro _);show _=_;kernel_rfl)) (all_cons (ao_ codOk (by kernel_rfl) (by (repeat intro _);show _=_;kernel_rfl) (fun k=>by (repeat intro _);show _=_;kernel_rfl)) (all_cons (ao_ codOk (by kernel_rfl) (by (repeat intro _);show _=_;kernel_rfl) (fun k=>by (repeat intro _);show _=_;kernel_rfl)) (ac_))))
  (fun k=>by (repeat intro _);show _=_;kernel_rfl)
noncomputable def kk_ (k:Nat):a3_ K TyK:=sm cod (aw_) [.bo, .bo] [.g [.i .i64, .b, .i .i64, .i .i64, .i .i64, .b, .i .i64, .l true .item, .i .i64, .l true .held, .s, .l true .str], .g [.i .i64, .i .i64, .i .i64, .i .i64, .i .i64, .i .i64, .i .i64, .b, .s]] [] (fun k v1 v2 v3 v4 v5 v6 v7 v8 v9 v10 v11 v12 v13 v14 v15 v16 v17 v18 v19 v20 v21=>hE_ k (⟨v1,v2,v3,v4,v5,v6,(⟨v7,v8⟩:ak_),(⟨v9,v10,v11,v12⟩:ai_)⟩:am_) (⟨v13,v14,v15,v16,v17,v18,v19,v20,v21⟩:ae_)) k [.g [.i .i64, .i .i64, .b, .i .i64, .i .i64, .i .i64, .b, .i .i64, .o 0, .i .i64, .o 1, .s, .o 2, .o 3, .s]] [.l .item, .l .held, .l .str, .l .packet] (fun r=>(r.Code,r.End.Number,r.End.Up,r.End.Life,r.End.Peer,r.End.Since,r.End.Owes,r.End.Send.Base,(),r.End.Take.Next,(),r.End.Take.Open,(),(),r.Text,r.End.Send.Items,r.End.Take.Held,r.End.Take.Ready,r.Out,())) (fun v1 v2 v3 v4 v5 v6 v7 v8 v9 v10 v11 v12 v13 v14 v15=>(⟨v1,(⟨v2,v3,v4,v5,v6,v7,(⟨v8,v12⟩:ak_),(⟨v9,v13,v10,v14⟩:ai_)⟩:am_),v15,v11⟩:aw_)) false
noncomputable abbrev qx_:List (Nat×Cut K TyK (aw_)):=[(11,ct cod [3,4,5] [.c (.r 0 0), .c (.r 1 0), .c (.r 2 0)] [.x [.i .i64, .i .i64, .i .i64, .i .i64, .i .i64, .i .i64, .i .i64, .b, .s], .x [.i .i64, .i .i64, .b, .i .i64, .i .i64, .i .i64, .b, .i .i64, .o 3, .i .i64, .o 4, .s, .o 5, .o 6, .s], .x [.i .i64, .b, .i .i64, .i .i64, .i .i64, .b, .i .i64, .o 7, .i .i64, .o 8, .s, .o 9], .l .item, .l .held, .l .str, .l .packet, .l .item, .l .held, .l .str] dN_)]
theorem qg_ (k:Nat):SummOk Try.prog cod 12 (kk_ k):=aE_ codOk Try.f12 (fun k=>ay_ [(45,bW_ k),(52,dy_ k),(53,kG_ k),(54,jk_ k),(55,jA_ k)]) qx_ false [.cell 4 45] 0 [] aF_ Try.func12 (by kernel_rfl) (by kernel_rfl) (by kernel_rfl) (by kernel_rfl)
  (fun k=>Known.of tok eok codOk (all_cons (ch_ k) (all_cons (dR_ k) (all_cons (nh_ k) (all_cons (nq_ k) (all_cons (nB_ k) (ac_)))))))
  (fun k=>QuietOk.of (all_cons (fun h r=>⟨rfl,rfl⟩) (all_cons (fun h r=>by cases h) (all_cons (fun h r=>⟨rfl,rfl⟩) (all_cons (fun h r=>by cases h) (all_cons (fun h r=>by cases h) (ac_)))))))
  (fun a=>rfl)
  (all_cons (ao_ codOk (by kernel_rfl) (by (repeat intro _);show _=_;kernel_rfl) (fun k=>by (repeat intro _);show _=_;kernel_rfl)) (ac_))
  (fun k=>by (repeat intro _);show _=_;kernel_rfl)
noncomputable def gj_ (k:Nat):a3_ K TyK:=sm cod (Bool) [.bo, .bo, .bo] [.c (.i .i64), .c (.i .i64), .c (.i .i64)] [] (aN_) k [.c (.b)] [] (fun r=>(r,())) (fun v1=>v1) true
theorem fH_ (k:Nat):SummOk Try.prog cod 75 (gj_ k):=aE_ codOk Try.f75 (fun k=>ay_ []) [] false [.tmp 6] 0 [] aF_ Try.func75 (by kernel_rfl) (by kernel_rfl) (by kernel_rfl) (by kernel_rfl)
  (fun k=>Known.of tok eok codOk (ac_))
  (fun k=>QuietOk.of (ac_))
  (fun a=>rfl)
  (ac_)
  (fun k=>by (repeat intro _);show _=_;kernel_rfl)
noncomputable def dI_ (k:Nat):a3_ K TyK:=sm cod (Bool) [.bo] [.g [.i .i64, .l true .item]] [] (fun k v1 v2=>bq_ k (⟨v1,v2⟩:ak_)) k [.c (.b)] [] (fun r=>(r,())) (fun v1=>v1) true
noncomputable abbrev nt_:List (Nat×Cut K TyK (Bool)):=[(4,ct cod [25,26,27] [.c (.l true .item), .c (.i .i64), .c (.i .i64)] [] bz_)]
theorem eA_ (k:Nat):SummOk Try.prog cod 109 (dI_ k):=aE_ codOk Try.f109 (fun k=>ay_ [(75,gj_ k)]) nt_ false [.tmp 2] 0 [] aF_ Try.func109 (by kernel_rfl) (by kernel_rfl) (by kernel_rfl) (by kernel_rfl)
  (fun k=>Known.of tok eok codOk (all_cons (fH_ k) (ac_)))
  (fun k=>QuietOk.of (all_cons (fun h r=>⟨rfl,rfl⟩) (ac_)))
  (fun a=>rfl)
  (all_cons (ao_ codOk (by kernel_rfl) (by (repeat intro _);show _=_;kernel_rfl) (fun k=>by (repeat intro _);show _=_;kernel_rfl)) (ac_))
  (fun k=>by (repeat intro _);show _=_;kernel_rfl)
noncomputable def kM_ (k:Nat):a3_ K TyK:=sm cod (Bool) [.bo, .bo] [.g [.i .i64, .l true .held, .s, .l true .str], .g [.s, .b]] [] (fun k v1 v2 v3 v4 v5 v6=>gV_ k (⟨v1,v2,v3,v4⟩:ai_) (⟨v5,v6⟩:az_)) k [.c (.b)] [] (fun r=>(r,())) (fun v1=>v1) true
theorem mV_ (k:Nat):SummOk Try.prog cod 158 (kM_ k):=aE_ codOk Try.f158 (fun k=>ay_ []) [] false [.tmp 4] 0 [] aF_ Try.func158 (by kernel_rfl) (by kernel_rfl) (by kernel_rfl) (by kernel_rfl)
  (fun k=>Known.of tok eok codOk (ac_))
  (fun k=>QuietOk.of (ac_))
  (fun a=>rfl)
  (ac_)
  (fun k=>by (repeat intro _);show _=_;kernel_rfl)
noncomputable def dF_ (k:Nat):a3_ K TyK:=sm cod (Bool) [.bo] [.g [.i .i64, .l true .held, .s, .l true .str]] [] (fun k v1 v2 v3 v4=>bP_ k (⟨v1,v2,v3,v4⟩:ai_)) k [.c (.b)] [] (fun r=>(r,())) (fun v1=>v1) true
noncomputable abbrev nC_:List (Nat×Cut K TyK (Bool)):=[(4,ct cod [1,30,31,32] [.c (.r 0 0), .c (.l true .held), .c (.i .i64), .c (.i .i64)] [.x [.i .i64, .l true .held, .s, .l true .str]] aL_),
  (12,ct cod [88,89,90] [.c (.l true .str), .c (.i .i64), .c (.i .i64)] [] b5_)]
theorem eC_ (k:Nat):SummOk Try.prog cod 110 (dF_ k):=aE_ codOk Try.f110 (fun k=>ay_ [(75,gj_ k),(158,kM_ k)]) nC_ false [.tmp 2] 0 [] aF_ Try.func110 (by kernel_rfl) (by kernel_rfl) (by kernel_rfl) (by kernel_rfl)
  (fun k=>Known.of tok eok codOk (all_cons (fH_ k) (all_cons (mV_ k) (ac_))))
  (fun k=>QuietOk.of (all_cons (fun h r=>⟨rfl,rfl⟩) (all_cons (fun h r=>⟨rfl,rfl⟩) (ac_))))
  (fun a=>rfl)
  (all_cons (ao_ codOk (by kernel_rfl) (by (repeat intro _);show _=_;kernel_rfl) (fun k=>by (repeat intro _);show _=_;kernel_rfl)) (all_cons (ao_ codOk (by kernel_rfl) (by (repeat intro _);show _=_;kernel_rfl) (fun k=>by (repeat intro _);show _=_;kernel_rfl)) (ac_)))
  (fun k=>by (repeat intro _);show _=_;kernel_rfl)
noncomputable def lV_ (k:Nat):a3_ K TyK:=sm cod (Bool) [.bo] [.g [.i .i64, .l true .item]] [] (fun k v1 v2=>iw_ k (⟨v1,v2⟩:ak_)) k [.c (.b)] [] (fun r=>(r,())) (fun v1=>v1) true
theorem qR_ (k:Nat):SummOk Try.prog cod 111 (lV_ k):=aE_ codOk Try.f111 (fun k=>ay_ []) [] false [.tmp 2] 0 [] aF_ Try.func111 (by kernel_rfl) (by kernel_rfl) (by kernel_rfl) (by kernel_rfl)
  (fun k=>Known.of tok eok codOk (ac_))
  (fun k=>QuietOk.of (ac_))
  (fun a=>rfl)
  (ac_)
  (fun k=>by (repeat intro _);show _=_;kernel_rfl)
noncomputable def lr_ (k:Nat):a3_ K TyK:=sm cod (Bool) [.bo] [.g [.i .i64, .l true .held, .s, .l true .str]] [] (fun k v1 v2 v3 v4=>in_ k (⟨v1,v2,v3,v4⟩:ai_)) k [.c (.b)] [] (fun r=>(r,())) (fun v1=>v1) true
theorem qM_ (k:Nat):SummOk Try.prog cod 112 (lr_ k):=aE_ codOk Try.f112 (fun k=>ay_ []) [] false [.tmp 2] 0 [] aF_ Try.func112 (by kernel_rfl) (by kernel_rfl) (by kernel_rfl) (by kernel_rfl)
  (fun k=>Known.of tok eok codOk (ac_))
  (fun k=>QuietOk.of (ac_))
  (fun a=>rfl)
  (ac_)
  (fun k=>by (repeat intro _);show _=_;kernel_rfl)
noncomputable def bV_ (k:Nat):a3_ K TyK:=sm cod (Bool) [.bo] [.g [.i .i64, .b, .i .i64, .i .i64, .i .i64, .b, .i .i64, .l true .item, .i .i64, .l true .held, .s, .l true .str]] [] (fun k v1 v2 v3 v4 v5 v6 v7 v8 v9 v10 v11 v12=>bT_ k (⟨v1,v2,v3,v4,v5,v6,(⟨v7,v8⟩:ak_),(⟨v9,v10,v11,v12⟩:ai_)⟩:am_)) k [.c (.b)] [] (fun r=>(r,())) (fun v1=>v1) true
theorem cd_ (k:Nat):SummOk Try.prog cod 46 (bV_ k):=aE_ codOk Try.f46 (fun k=>ay_ [(75,gj_ k),(109,dI_ k),(110,dF_ k),(111,lV_ k),(112,lr_ k)]) [] false [.tmp 2] 0 [] aF_ Try.func46 (by kernel_rfl) (by kernel_rfl) (by kernel_rfl) (by kernel_rfl)
  (fun k=>Known.of tok eok codOk (all_cons (fH_ k) (all_cons (eA_ k) (all_cons (eC_ k) (all_cons (qR_ k) (all_cons (qM_ k) (ac_)))))))
  (fun k=>QuietOk.of (all_cons (fun h r=>⟨rfl,rfl⟩) (all_cons (fun h r=>⟨rfl,rfl⟩) (all_cons (fun h r=>⟨rfl,rfl⟩) (all_cons (fun h r=>⟨rfl,rfl⟩) (all_cons (fun h r=>⟨rfl,rfl⟩) (ac_)))))))
  (fun a=>rfl)
  (ac_)
  (fun k=>by (repeat intro _);show _=_;kernel_rfl)
noncomputable def ed_ (k:Nat):a3_ K TyK:=sm cod (ak_) [.bo] [.g [.i .i64, .l true .item]] [] (fun k v1 v2=>ey_ k (⟨v1,v2⟩:ak_)) k [.g [.i .i64, .o 0]] [.l .item] (fun r=>(r.Base,(),r.Items,())) (fun v1 v2=>(⟨v1,v2⟩:ak_)) false
theorem eZ_ (k:Nat):SummOk Try.prog cod 126 (ed_ k):=aE_ codOk Try.f126 (fun k=>ay_ []) [] false [.cell 2 37] 0 [] aF_ Try.func126 (by kernel_rfl) (by kernel_rfl) (by kernel_rfl) (by kernel_rfl)
  (fun k=>Known.of tok eok codOk (ac_))
  (fun k=>QuietOk.of (ac_))
  (fun a=>rfl)
  (ac_)
  (fun k=>by (repeat intro _);show _=_;kernel_rfl)
noncomputable def fC_ (k:Nat):a3_ K TyK:=sm cod (ai_) [.bo] [.g [.i .i64, .l true .held, .s, .l true .str]] [] (fun k v1 v2 v3 v4=>fB_ k (⟨v1,v2,v3,v4⟩:ai_)) k [.g [.i .i64, .o 0, .s, .o 1]] [.l .held, .l .str] (fun r=>(r.Next,(),r.Open,(),r.Held,r.Ready,())) (fun v1 v2 v3 v4=>(⟨v1,v3,v2,v4⟩:ai_)) false
theorem gn_ (k:Nat):SummOk Try.prog cod 127 (fC_ k):=aE_ codOk Try.f127 (fun k=>ay_ []) [] false [.cell 2 40] 0 [] aF_ Try.func127 (by kernel_rfl) (by kernel_rfl) (by kernel_rfl) (by kernel_rfl)
  (fun k=>Known.of tok eok codOk (ac_))
  (fun k=>QuietOk.of (ac_))
  (fun a=>rfl)
  (ac_)
  (fun k=>by (repeat intro _);show _=_;kernel_rfl)
noncomputable def cX_ (k:Nat):a3_ K TyK:=sm cod (am_) [.bo] [.g [.i .i64, .b, .i .i64, .i .i64, .i .i64, .b, .i .i64, .l true .item, .i .i64, .l true .held, .s, .l true .str]] [] (fun k v1 v2 v3 v4 v5 v6 v7 v8 v9 v10 v11 v12=>cS_ k (⟨v1,v2,v3,v4,v5,v6,(⟨v7,v8⟩:ak_),(⟨v9,v10,v11,v12⟩:ai_)⟩:am_)) k [.g [.i .i64, .b, .i .i64, .i .i64, .i .i64, .b, .i .i64, .o 0, .i .i64, .o 1, .s, .o 2]] [.l .item, .l .held, .l .str] (fun r=>(r.Number,r.Up,r.Life,r.Peer,r.Since,r.Owes,r.Send.Base,(),r.Take.Next,(),r.Take.Open,(),r.Send.Items,r.Take.Held,r.Take.Ready,())) (fun v1 v2 v3 v4 v5 v6 v7 v8 v9 v10 v11 v12=>(⟨v1,v2,v3,v4,v5,v6,(⟨v7,v10⟩:ak_),(⟨v8,v11,v9,v12⟩:ai_)⟩:am_)) false
theorem c8_ (k:Nat):SummOk Try.prog cod 58 (cX_ k):=aE_ codOk Try.f58 (fun k=>ay_ [(126,ed_ k),(127,fC_ k)]) [] false [.cell 2 42] 0 [] aF_ Try.func58 (by kernel_rfl) (by kernel_rfl) (by kernel_rfl) (by kernel_rfl)
  (fun k=>Known.of tok eok codOk (all_cons (eZ_ k) (all_cons (gn_ k) (ac_))))
  (fun k=>QuietOk.of (all_cons (fun h r=>by cases h) (all_cons (fun h r=>by cases h) (ac_))))
  (fun a=>rfl)
  (ac_)
  (fun k=>by (repeat intro _);show _=_;kernel_rfl)
noncomputable def dY_ (k:Nat):a3_ K TyK:=sm cod (Bool) [.bo] [.g [.i .i64, .i .i64, .i .i64, .i .i64, .i .i64, .i .i64, .i .i64, .b, .s]] [] (fun k v1 v2 v3 v4 v5 v6 v7 v8 v9=>be_ k (⟨v1,v2,v3,v4,v5,v6,v7,v8,v9⟩:ae_)) k [.c (.b)] [] (fun r=>(r,())) (fun v1=>v1) true
theorem e3_ (k:Nat):SummOk Try.prog cod 59 (dY_ k):=aE_ codOk Try.f59 (fun k=>ay_ [(75,gj_ k)]) [] false [.tmp 2] 0 [] aF_ Try.func59 (by kernel_rfl) (by kernel_rfl) (by kernel_rfl) (by kernel_rfl)
  (fun k=>Known.of tok eok codOk (all_cons (fH_ k) (ac_)))
  (fun k=>QuietOk.of (all_cons (fun h r=>⟨rfl,rfl⟩) (ac_)))
  (fun a=>rfl)
  (ac_)
  (fun k=>by (repeat intro _);show _=_;kernel_rfl)
noncomputable def js_ (k:Nat):a3_ K TyK:=sm cod (ak_) [.bo, .bo, .bo] [.g [.i .i64, .l true .item], .c (.i .i64), .c (.i .i64)] [] (fun k v1 v2 v3 v4=>gv_ k (⟨v1,v2⟩:ak_) v3 v4) k [.g [.i .i64, .o 0]] [.l .item] (fun r=>(r.Base,(),r.Items,())) (fun v1 v2=>(⟨v1,v2⟩:ak_)) false
noncomputable abbrev pG_:List (Nat×Cut K TyK (ak_)):=[(5,ct cod [1,2,6,7,8] [.c (.i .i64), .c (.i .i64), .c (.r 0 0), .c (.r 1 0), .c (.i .i64)] [.x [.i .i64, .o 2], .x [.i .i64, .o 3], .l .item, .l .item] cK_),
  (12,ct cod [2,6,7,9] [.c (.i .i64), .c (.r 0 0), .c (.r 1 0), .c (.i .i64)] [.x [.i .i64, .o 2], .x [.i .i64, .o 3], .l .item, .l .item] by_),
  (13,ct cod [2,6,7,9] [.c (.i .i64), .c (.r 0 0), .c (.r 1 0), .c (.i .i64)] [.x [.i .i64, .o 2], .x [.i .i64, .o 3], .l .item, .l .item] ct_)]
theorem nM_ (k:Nat):SummOk Try.prog cod 60 (js_ k):=aE_ codOk Try.f60 (fun k=>ay_ [(109,dI_ k),(126,ed_ k),(75,gj_ k)]) pG_ false [.cell 6 37] 0 [] aF_ Try.func60 (by kernel_rfl) (by kernel_rfl) (by kernel_rfl) (by kernel_rfl)
  (fun k=>Known.of tok eok codOk (all_cons (eA_ k) (all_cons (eZ_ k) (all_cons (fH_ k) (ac_)))))
  (fun k=>QuietOk.of (all_cons (fun h r=>⟨rfl,rfl⟩) (all_cons (fun h r=>by cases h) (all_cons (fun h r=>⟨rfl,rfl⟩) (ac_)))))
  (fun a=>rfl)
  (all_cons (ao_ codOk (by kernel_rfl) (by (repeat intro _);show _=_;kernel_rfl) (fun k=>by (repeat intro _);show _=_;kernel_rfl)) (all_cons (ao_ codOk (by kernel_rfl) (by (repeat intro _);show _=_;kernel_rfl) (fun k=>by (repeat intro _);show _=_;kernel_rfl)) (all_cons (ao_ codOk (by kernel_rfl) (by (repeat intro _);show _=_;kernel_rfl) (fun k=>by (repeat intro _);show _=_;kernel_rfl)) (ac_))))
  (fun k=>by (repeat intro _);show _=_;kernel_rfl)
noncomputable def kR_ (k:Nat):a3_ K TyK:=sm cod (ai_) [.mv] [.g [.i .i64, .o 0, .s, .o 1]] [.l .held, .l .str] (fun k v1 v2 v3 v4=>fm_ k (⟨v1,v3,v2,v4⟩:ai_)) k [.g [.i .i64, .o 2, .s, .o 3]] [.d, .d, .l .held, .l .str] (fun r=>(r.Next,(),r.Open,(),r.Held,r.Ready,())) (fun v1 v2 v3 v4=>(⟨v1,v3,v2,v4⟩:ai_)) false
noncomputable abbrev u6_:List (Nat×Cut K TyK (ai_)):=[(1,ct cod [1,2] [.c (.r 2 0), .c (.r 3 0)] [.d, .d, .x [.i .i64, .o 4, .s, .o 5], .x [.i .i64, .o 6, .s, .o 7], .l .held, .l .str, .l .held, .l .str] fa_)]
theorem m1_ (k:Nat):SummOk Try.prog cod 128 (kR_ k):=aE_ codOk Try.f128 (fun k=>ay_ [(158,kM_ k)]) u6_ false [.cell 2 40] 2 [true,true] aF_ Try.func128 (by kernel_rfl) (by kernel_rfl) (by kernel_rfl) (by kernel_rfl)
  (fun k=>Known.of tok eok codOk (all_cons (mV_ k) (ac_)))
  (fun k=>QuietOk.of (all_cons (fun h r=>⟨rfl,rfl⟩) (ac_)))
  (fun a=>rfl)
  (all_cons (ao_ codOk (by kernel_rfl) (by (repeat intro _);show _=_;kernel_rfl) (fun k=>by (repeat intro _);show _=_;kernel_rfl)) (ac_))
  (fun k=>by (repeat intro _);show _=_;kernel_rfl)
noncomputable def i8_ (k:Nat):a3_ K TyK:=sm cod (ai_) [.bo, .bo, .bo] [.g [.i .i64, .l true .held, .s, .l true .str], .c (.i .i64), .g [.s, .b]] [] (fun k v1 v2 v3 v4 v5 v6 v7=>gx_ k (⟨v1,v2,v3,v4⟩:ai_) v5 (⟨v6,v7⟩:az_)) k [.g [.i .i64, .o 0, .s, .o 1]] [.l .held, .l .str] (fun r=>(r.Next,(),r.Open,(),r.Held,r.Ready,())) (fun v1 v2 v3 v4=>(⟨v1,v3,v2,v4⟩:ai_)) false
noncomputable abbrev pL_:List (Nat×Cut K TyK (ai_)):=[(7,ct cod [1,5,6,7,8] [.c (.i .i64), .c (.r 0 0), .c (.r 1 0), .c (.r 2 0), .c (.i .i64)] [.x [.s, .b], .x [.i .i64, .o 3, .s, .o 4], .x [.i .i64, .o 5, .s, .o 6], .l .held, .l .str, .l .held, .l .str] cF_)]
theorem ny_ (k:Nat):SummOk Try.prog cod 61 (i8_ k):=aE_ codOk Try.f61 (fun k=>ay_ [(110,dF_ k),(127,fC_ k),(75,gj_ k),(128,kR_ k)]) pL_ false [.cell 6 40] 0 [] aF_ Try.func61 (by kernel_rfl) (by kernel_rfl) (by kernel_rfl) (by kernel_rfl)
  (fun k=>Known.of tok eok codOk (all_cons (eC_ k) (all_cons (gn_ k) (all_cons (fH_ k) (all_cons (m1_ k) (ac_))))))
  (fun k=>QuietOk.of (all_cons (fun h r=>⟨rfl,rfl⟩) (all_cons (fun h r=>by cases h) (all_cons (fun h r=>⟨rfl,rfl⟩) (all_cons (fun h r=>by cases h) (ac_))))))
  (fun a=>rfl)
  (all_cons (ao_ codOk (by kernel_rfl) (by (repeat intro _);show _=_;kernel_rfl) (fun k=>by (repeat intro _);show _=_;kernel_rfl)) (ac_))
  (fun k=>by (repeat intro _);show _=_;kernel_rfl)
noncomputable def j8_ (k:Nat):a3_ K TyK:=sm cod (aw_) [.bo, .bo] [.g [.i .i64, .b, .i .i64, .i .i64, .i .i64, .b, .i .i64, .l true .item, .i .i64, .l true .held, .s, .l true .str], .g [.i .i64, .i .i64, .i .i64, .i .i64, .i .i64, .i .i64, .i .i64, .b, .s]] [] (fun k v1 v2 v3 v4 v5 v6 v7 v8 v9 v10 v11 v12 v13 v14 v15 v16 v17 v18 v19 v20 v21=>hC_ k (⟨v1,v2,v3,v4,v5,v6,(⟨v7,v8⟩:ak_),(⟨v9,v10,v11,v12⟩:ai_)⟩:am_) (⟨v13,v14,v15,v16,v17,v18,v19,v20,v21⟩:ae_)) k [.g [.i .i64, .i .i64, .b, .i .i64, .i .i64, .i .i64, .b, .i .i64, .o 0, .i .i64, .o 1, .s, .o 2, .o 3, .s]] [.l .item, .l .held, .l .str, .l .packet] (fun r=>(r.Code,r.End.Number,r.End.Up,r.End.Life,r.End.Peer,r.End.Since,r.End.Owes,r.End.Send.Base,(),r.End.Take.Next,(),r.End.Take.Open,(),(),r.Text,r.End.Send.Items,r.End.Take.Held,r.End.Take.Ready,r.Out,())) (fun v1 v2 v3 v4 v5 v6 v7 v8 v9 v10 v11 v12 v13 v14 v15=>(⟨v1,(⟨v2,v3,v4,v5,v6,v7,(⟨v8,v12⟩:ak_),(⟨v9,v13,v10,v14⟩:ai_)⟩:am_),v15,v11⟩:aw_)) false
noncomputable abbrev qS_:List (Nat×Cut K TyK (aw_)):=[(9,ct cod [3,4,5,6] [.c (.r 0 0), .c (.r 1 0), .c (.r 2 0), .c (.r 2 1)] [.x [.i .i64, .i .i64, .i .i64, .i .i64, .i .i64, .i .i64, .i .i64, .b, .s], .x [.i .i64, .i .i64, .b, .i .i64, .i .i64, .i .i64, .b, .i .i64, .o 3, .i .i64, .o 4, .s, .o 5, .o 6, .s], .x [.i .i64, .i .i64, .b, .i .i64, .i .i64, .i .i64, .b, .i .i64, .o 7, .i .i64, .o 8, .s, .o 9, .o 10, .s], .l .item, .l .held, .l .str, .l .packet, .l .item, .l .held, .l .str, .l .packet] em_),
  (16,ct cod [4,5] [.c (.r 0 0), .c (.r 1 0)] [.x [.i .i64, .i .i64, .b, .i .i64, .i .i64, .i .i64, .b, .i .i64, .o 2, .i .i64, .o 3, .s, .o 4, .o 5, .s], .x [.i .i64, .i .i64, .b, .i .i64, .i .i64, .i .i64, .b, .i .i64, .o 6, .i .i64, .o 7, .s, .o 8, .o 9, .s], .l .item, .l .held, .l .str, .l .packet, .l .item, .l .held, .l .str, .l .packet] dG_)]
theorem qe_ (k:Nat):SummOk Try.prog cod 15 (j8_ k):=aE_ codOk Try.f15 (fun k=>ay_ [(46,bV_ k),(58,cX_ k),(59,dY_ k),(60,js_ k),(61,i8_ k)]) qS_ false [.cell 4 45] 0 [] aF_ Try.func15 (by kernel_rfl) (by kernel_rfl) (by kernel_rfl) (by kernel_rfl)
  (fun k=>Known.of tok eok codOk (all_cons (cd_ k) (all_cons (c8_ k) (all_cons (e3_ k) (all_cons (nM_ k) (all_cons (ny_ k) (ac_)))))))
  (fun k=>QuietOk.of (all_cons (fun h r=>⟨rfl,rfl⟩) (all_cons (fun h r=>by cases h) (all_cons (fun h r=>⟨rfl,rfl⟩) (all_cons (fun h r=>by cases h) (all_cons (fun h r=>by cases h) (ac_)))))))
  (fun a=>rfl)
  (all_cons (ao_ codOk (by kernel_rfl) (by (repeat intro _);show _=_;kernel_rfl) (fun k=>by (repeat intro _);show _=_;kernel_rfl)) (all_cons (ao_ codOk (by kernel_rfl) (by (repeat intro _);show _=_;kernel_rfl) (fun k=>by (repeat intro _);show _=_;kernel_rfl)) (ac_)))
  (fun k=>by (repeat intro _);show _=_;kernel_rfl)
noncomputable def lE_ (k:Nat):a3_ K TyK:=sm cod (as_) [.pe] [.c (.l false .byte)] [] (iy_) k [.c (.r 0 0)] [.x [.l false .byte, .i .i64]] (fun r=>((),r.b,r.p,())) (fun v1 v2=>(⟨v1,v2⟩:as_)) false
noncomputable abbrev r3_:List (Nat×Cut K TyK (as_)):=[(3,ct cod [0] [.c (.l false .byte)] [] eJ_)]
theorem qH_ (k:Nat):SummOk Try.prog cod 70 (lE_ k):=aE_ codOk Try.f70 (fun k=>ay_ []) r3_ false [.tmp 2] 0 [] aF_ Try.func70 (by kernel_rfl) (by kernel_rfl) (by kernel_rfl) (by kernel_rfl)
  (fun k=>Known.of tok eok codOk (ac_))
  (fun k=>QuietOk.of (ac_))
  (fun a=>rfl)
  (all_cons (ao_ codOk (by kernel_rfl) (by (repeat intro _);show _=_;kernel_rfl) (fun k=>by (repeat intro _);show _=_;kernel_rfl)) (ac_))
  (fun k=>by (repeat intro _);show _=_;kernel_rfl)
noncomputable def it_ (k:Nat):a3_ K TyK:=sm cod (ByteArray) [.bo, .bo] [.c (.s), .c (.i .i64)] [] (d5_) k [.c (.s)] [] (fun r=>(r,())) (fun v1=>v1) true
noncomputable abbrev rM_:List (Nat×Cut K TyK (ByteArray)):=[(2,ct cod [0,1,5] [.c (.s), .c (.i .i64), .c (.s)] [] c0_),
  (5,ct cod [0,1,5] [.c (.s), .c (.i .i64), .c (.s)] [] eG_)]
theorem kh_ (k:Nat):SummOk Try.prog cod 94 (it_ k):=aE_ codOk Try.f94 (fun k=>ay_ []) rM_ false [.tmp 4] 0 [] aF_ Try.func94 (by kernel_rfl) (by kernel_rfl) (by kernel_rfl) (by kernel_rfl)
  (fun k=>Known.of tok eok codOk (ac_))
  (fun k=>QuietOk.of (ac_))
  (fun a=>rfl)
  (all_cons (ao_ codOk (by kernel_rfl) (by (repeat intro _);show _=_;kernel_rfl) (fun k=>by (repeat intro _);show _=_;kernel_rfl)) (all_cons (ao_ codOk (by kernel_rfl) (by (repeat intro _);show _=_;kernel_rfl) (fun k=>by (repeat intro _);show _=_;kernel_rfl)) (ac_)))
  (fun k=>by (repeat intro _);show _=_;kernel_rfl)
noncomputable def cO_ (k:Nat):a3_ K TyK:=sm cod (Int×as_) [.mv, .bo] [.c (.r 0 0), .c (.i .i64)] [.x [.l false .byte, .i .i64]] (fun k v1 v2 v3=>ah_ k (⟨v2,v3⟩:as_) v1) k [.c (.i .i64)] [.x [.l false .byte, .i .i64]] (fun r=>(r.1,r.2.b,r.2.p,())) (fun v1 v2 v3=>(v1,(⟨v2,v3⟩:as_))) false
theorem da_ (k:Nat):SummOk Try.prog cod 73 (cO_ k):=aE_ codOk Try.f73 (fun k=>ay_ []) [] false [.tmp 4] 1 [false] aF_ Try.func73 (by kernel_rfl) (by kernel_rfl) (by kernel_rfl) (by kernel_rfl)
  (fun k=>Known.of tok eok codOk (ac_))
  (fun k=>QuietOk.of (ac_))
  (fun a=>rfl)
  (ac_)
  (fun k=>by (repeat intro _);show _=_;kernel_rfl)
noncomputable def mX_ (k:Nat):a3_ K TyK:=sm cod (ByteArray×as_) [.bo] [.c (.r 0 0)] [.x [.l false .byte, .i .i64]] (fun k v1 v2=>jY_ k (⟨v1,v2⟩:as_)) k [.c (.s)] [.x [.l false .byte, .i .i64]] (fun r=>(r.1,r.2.b,r.2.p,())) (fun v1 v2 v3=>(v1,(⟨v2,v3⟩:as_))) false
theorem so_ (k:Nat):SummOk Try.prog cod 147 (mX_ k):=aE_ codOk Try.f147 (fun k=>ay_ [(94,it_ k),(73,cO_ k)]) [] false [.tmp 2] 1 [false] aF_ Try.func147 (by kernel_rfl) (by kernel_rfl) (by kernel_rfl) (by kernel_rfl)
  (fun k=>Known.of tok eok codOk (all_cons (kh_ k) (all_cons (da_ k) (ac_))))
  (fun k=>QuietOk.of (all_cons (fun h r=>⟨rfl,rfl⟩) (all_cons (fun h r=>by cases h) (ac_))))
  (fun a=>rfl)
  (ac_)
  (fun k=>by (repeat intro _);show _=_;kernel_rfl)
noncomputable def kn_ (k:Nat):a3_ K TyK:=sm cod (Int×as_) [.bo] [.c (.r 0 0)] [.x [.l false .byte, .i .i64]] (fun k v1 v2=>hg_ k (⟨v1,v2⟩:as_)) k [.c (.i .i64)] [.x [.l false .byte, .i .i64]] (fun r=>(r.1,r.2.b,r.2.p,())) (fun v1 v2 v3=>(v1,(⟨v2,v3⟩:as_))) false
theorem pR_ (k:Nat):SummOk Try.prog cod 148 (kn_ k):=aE_ codOk Try.f148 (fun k=>ay_ [(73,cO_ k)]) [] false [.tmp 2] 1 [false] aF_ Try.func148 (by kernel_rfl) (by kernel_rfl) (by kernel_rfl) (by kernel_rfl)
  (fun k=>Known.of tok eok codOk (all_cons (da_ k) (ac_)))
  (fun k=>QuietOk.of (all_cons (fun h r=>by cases h) (ac_)))
  (fun a=>rfl)
  (ac_)
  (fun k=>by (repeat intro _);show _=_;kernel_rfl)
noncomputable def lG_ (k:Nat):a3_ K TyK:=sm cod (am_) [.bo] [.c (.i .i64)] [] (g2_) k [.g [.i .i64, .b, .i .i64, .i .i64, .i .i64, .b, .i .i64, .o 0, .i .i64, .o 1, .s, .o 2]] [.l .item, .l .held, .l .str] (fun r=>(r.Number,r.Up,r.Life,r.Peer,r.Since,r.Owes,r.Send.Base,(),r.Take.Next,(),r.Take.Open,(),r.Send.Items,r.Take.Held,r.Take.Ready,())) (fun v1 v2 v3 v4 v5 v6 v7 v8 v9 v10 v11 v12=>(⟨v1,v2,v3,v4,v5,v6,(⟨v7,v10⟩:ak_),(⟨v8,v11,v9,v12⟩:ai_)⟩:am_)) false
theorem qw_ (k:Nat):SummOk Try.prog cod 172 (lG_ k):=aE_ codOk Try.f172 (fun k=>ay_ [(89,bl_ k)]) [] false [.cell 2 42] 0 [] aF_ Try.func172 (by kernel_rfl) (by kernel_rfl) (by kernel_rfl) (by kernel_rfl)
  (fun k=>Known.of tok eok codOk (all_cons (a9_ k) (ac_)))
  (fun k=>QuietOk.of (all_cons (fun h r=>⟨rfl,rfl⟩) (ac_)))
  (fun a=>rfl)
  (ac_)
  (fun k=>by (repeat intro _);show _=_;kernel_rfl)
noncomputable def jl_ (k:Nat):a3_ K TyK:=sm cod (ab_) [.bo, .bo] [.c (.s), .c (.i .i64)] [] (gG_) k [.g [.s, .i .i64, .o 0, .o 1, .s, .o 2, .o 3]] [.l .end, .l .parcel, .l .record, .l .record] (fun r=>(r.Key,r.Width,(),(),r.Forged,(),(),r.Ends,r.Flight,r.Given,r.Taken,())) (fun v1 v2 v3 v4 v5 v6 v7=>(⟨v1,v2,v4,v5,v3,v6,v7⟩:ab_)) false
theorem nw_ (k:Nat):SummOk Try.prog cod 146 (jl_ k):=aE_ codOk Try.f146 (fun k=>ay_ [(89,bl_ k),(172,lG_ k)]) [] false [.cell 4 60] 0 [] aF_ Try.func146 (by kernel_rfl) (by kernel_rfl) (by kernel_rfl) (by kernel_rfl)
  (fun k=>Known.of tok eok codOk (all_cons (a9_ k) (all_cons (qw_ k) (ac_))))
  (fun k=>QuietOk.of (all_cons (fun h r=>⟨rfl,rfl⟩) (all_cons (fun h r=>by cases h) (ac_))))
  (fun a=>rfl)
  (ac_)
  (fun k=>by (repeat intro _);show _=_;kernel_rfl)
noncomputable def hl_ (k:Nat):a3_ K TyK:=sm cod (Bool) [.bo] [.c (.l true .record)] [] (e0_) k [.c (.b)] [] (fun r=>(r,())) (fun v1=>v1) true
noncomputable abbrev lX_:List (Nat×Cut K TyK (Bool)):=[(2,ct cod [0,3] [.c (.l true .record), .c (.i .i64)] [] bM_)]
theorem kY_ (k:Nat):SummOk Try.prog cod 90 (hl_ k):=aE_ codOk Try.f90 (fun k=>ay_ [(89,bl_ k)]) lX_ false [.tmp 2] 0 [] aF_ Try.func90 (by kernel_rfl) (by kernel_rfl) (by kernel_rfl) (by kernel_rfl)
  (fun k=>Known.of tok eok codOk (all_cons (a9_ k) (ac_)))
  (fun k=>QuietOk.of (all_cons (fun h r=>⟨rfl,rfl⟩) (ac_)))
  (fun a=>rfl)
  (all_cons (ao_ codOk (by kernel_rfl) (by (repeat intro _);show _=_;kernel_rfl) (fun k=>by (repeat intro _);show _=_;kernel_rfl)) (ac_))
  (fun k=>by (repeat intro _);show _=_;kernel_rfl)
noncomputable def eq_ (k:Nat):a3_ K TyK:=sm cod (Bool) [.bo] [.g [.s, .i .i64, .l true .end, .l true .parcel, .s, .l true .record, .l true .record]] [] (fun k v1 v2 v3 v4 v5 v6 v7=>cw_ k (⟨v1,v2,v3,v4,v5,v6,v7⟩:ab_)) k [.c (.b)] [] (fun r=>(r,())) (fun v1=>v1) true
noncomputable abbrev mb_:List (Nat×Cut K TyK (Bool)):=[(4,ct cod [1,3] [.c (.r 0 0), .c (.i .i64)] [.x [.s, .i .i64, .l true .end, .l true .parcel, .s, .l true .record, .l true .record]] b6_),
  (9,ct cod [1,4] [.c (.r 0 0), .c (.i .i64)] [.x [.s, .i .i64, .l true .end, .l true .parcel, .s, .l true .record, .l true .record]] b2_)]
theorem fy_ (k:Nat):SummOk Try.prog cod 34 (eq_ k):=aE_ codOk Try.f34 (fun k=>ay_ [(89,bl_ k),(45,bW_ k),(90,hl_ k)]) mb_ false [.tmp 2] 0 [] aF_ Try.func34 (by kernel_rfl) (by kernel_rfl) (by kernel_rfl) (by kernel_rfl)
  (fun k=>Known.of tok eok codOk (all_cons (a9_ k) (all_cons (ch_ k) (all_cons (kY_ k) (ac_)))))
  (fun k=>QuietOk.of (all_cons (fun h r=>⟨rfl,rfl⟩) (all_cons (fun h r=>⟨rfl,rfl⟩) (all_cons (fun h r=>⟨rfl,rfl⟩) (ac_)))))
  (fun a=>rfl)
  (all_cons (ao_ codOk (by kernel_rfl) (by (repeat intro _);show _=_;kernel_rfl) (fun k=>by (repeat intro _);show _=_;kernel_rfl)) (all_cons (ao_ codOk (by kernel_rfl) (by (repeat intro _);show _=_;kernel_rfl) (fun k=>by (repeat intro _);show _=_;kernel_rfl)) (ac_)))
  (fun k=>by (repeat intro _);show _=_;kernel_rfl)
noncomputable def iz_ (k:Nat):a3_ K TyK:=sm cod (ab_) [.bo] [.g [.s, .i .i64, .l true .end, .l true .parcel, .s, .l true .record, .l true .record]] [] (fun k v1 v2 v3 v4 v5 v6 v7=>ei_ k (⟨v1,v2,v3,v4,v5,v6,v7⟩:ab_)) k [.g [.s, .i .i64, .o 0, .o 1, .s, .o 2, .o 3]] [.l .end, .l .parcel, .l .record, .l .record] (fun r=>(r.Key,r.Width,(),(),r.Forged,(),(),r.Ends,r.Flight,r.Given,r.Taken,())) (fun v1 v2 v3 v4 v5 v6 v7=>(⟨v1,v2,v4,v5,v3,v6,v7⟩:ab_)) false
noncomputable abbrev r0_:List (Nat×Cut K TyK (ab_)):=[(4,ct cod [1,2,3,4] [.c (.r 0 0), .c (.r 1 0), .c (.r 2 0), .c (.i .i64)] [.x [.s, .i .i64, .l true .end, .l true .parcel, .s, .l true .record, .l true .record], .x [.s, .i .i64, .o 3, .o 4, .s, .o 5, .o 6], .x [.s, .i .i64, .o 7, .l true .parcel, .s, .l true .record, .l true .record], .l .end, .l .parcel, .l .record, .l .record, .l .end] dW_)]
theorem kv_ (k:Nat):SummOk Try.prog cod 85 (iz_ k):=aE_ codOk Try.f85 (fun k=>ay_ [(52,dy_ k)]) r0_ false [.cell 2 60] 0 [] aF_ Try.func85 (by kernel_rfl) (by kernel_rfl) (by kernel_rfl) (by kernel_rfl)
  (fun k=>Known.of tok eok codOk (all_cons (dR_ k) (ac_)))
  (fun k=>QuietOk.of (all_cons (fun h r=>by cases h) (ac_)))
  (fun a=>rfl)
  (all_cons (ao_ codOk (by kernel_rfl) (by (repeat intro _);show _=_;kernel_rfl) (fun k=>by (repeat intro _);show _=_;kernel_rfl)) (ac_))
  (fun k=>by (repeat intro _);show _=_;kernel_rfl)
noncomputable def je_ (k:Nat):a3_ K TyK:=sm cod (ak_×List Int) [.bo] [.g [.i .i64, .l true .item]] [] (fun k v1 v2=>fp_ k (⟨v1,v2⟩:ak_)) k [.g [.i .i64, .o 0], .c (.o 1)] [.l .item, .l .int] (fun r=>(r.1.Base,(),(),r.1.Items,r.2,())) (fun v1 v2 v3=>((⟨v1,v2⟩:ak_),v3)) false
noncomputable abbrev oA_:List (Nat×Cut K TyK (ak_×List Int)):=[(6,ct cod [1,2,4,5,6] [.c (.r 0 0), .c (.r 1 0), .c (.o 2), .c (.r 3 0), .c (.i .i64)] [.x [.i .i64, .l true .item], .x [.i .i64, .o 4], .l .int, .x [.i .i64, .o 5], .l .item, .l .item] cN_),
  (7,ct cod [1,2,4,5,6] [.c (.r 0 0), .c (.r 1 0), .c (.o 2), .c (.r 3 0), .c (.i .i64)] [.x [.i .i64, .l true .item], .x [.i .i64, .o 4], .l .int, .x [.i .i64, .o 5], .l .item, .l .item] ce_)]
theorem nL_ (k:Nat):SummOk Try.prog cod 101 (je_ k):=aE_ codOk Try.f101 (fun k=>ay_ [(105,dC_ k),(118,fx_ k)]) oA_ false [.cell 2 37, .tmp 3] 0 [] aF_ Try.func101 (by kernel_rfl) (by kernel_rfl) (by kernel_rfl) (by kernel_rfl)
  (fun k=>Known.of tok eok codOk (all_cons (er_ k) (all_cons (f6_ k) (ac_))))
  (fun k=>QuietOk.of (all_cons (fun h r=>⟨rfl,rfl⟩) (all_cons (fun h r=>by cases h) (ac_))))
  (fun a=>rfl)
  (all_cons (ao_ codOk (by kernel_rfl) (by (repeat intro _);show _=_;kernel_rfl) (fun k=>by (repeat intro _);show _=_;kernel_rfl)) (all_cons (ao_ codOk (by kernel_rfl) (by (repeat intro _);show _=_;kernel_rfl) (fun k=>by (repeat intro _);show _=_;kernel_rfl)) (ac_)))
  (fun k=>by (repeat intro _);show _=_;kernel_rfl)
noncomputable def iY_ (k:Nat):a3_ K TyK:=sm cod (Int×Int) [.bo] [.g [.i .i64, .l true .held, .s, .l true .str]] [] (fun k v1 v2 v3 v4=>es_ k (⟨v1,v2,v3,v4⟩:ai_)) k [.c (.i .i64), .c (.i .i64)] [] (fun r=>(r.1,r.2,())) (fun v1 v2=>(v1,v2)) true
noncomputable abbrev p0_:List (Nat×Cut K TyK (Int×Int)):=[(5,ct cod [1,4,5] [.c (.r 0 0), .c (.i .i64), .c (.i .i64)] [.x [.i .i64, .l true .held, .s, .l true .str]] cb_),
  (9,ct cod [1,4,5,6,7] [.c (.r 0 0), .c (.i .i64), .c (.i .i64), .c (.i .i64), .c (.i .i64)] [.x [.i .i64, .l true .held, .s, .l true .str]] cQ_)]
theorem nD_ (k:Nat):SummOk Try.prog cod 102 (iY_ k):=aE_ codOk Try.f102 (fun k=>ay_ [(106,dE_ k)]) p0_ false [.tmp 2, .tmp 3] 0 [] aF_ Try.func102 (by kernel_rfl) (by kernel_rfl) (by kernel_rfl) (by kernel_rfl)
  (fun k=>Known.of tok eok codOk (all_cons (ev_ k) (ac_)))
  (fun k=>QuietOk.of (all_cons (fun h r=>⟨rfl,rfl⟩) (ac_)))
  (fun a=>rfl)
  (all_cons (ao_ codOk (by kernel_rfl) (by (repeat intro _);show _=_;kernel_rfl) (fun k=>by (repeat intro _);show _=_;kernel_rfl)) (all_cons (ao_ codOk (by kernel_rfl) (by (repeat intro _);show _=_;kernel_rfl) (fun k=>by (repeat intro _);show _=_;kernel_rfl)) (ac_)))
  (fun k=>by (repeat intro _);show _=_;kernel_rfl)
noncomputable def kp_ (k:Nat):a3_ K TyK:=sm cod (aw_) [.bo] [.g [.i .i64, .b, .i .i64, .i .i64, .i .i64, .b, .i .i64, .l true .item, .i .i64, .l true .held, .s, .l true .str]] [] (fun k v1 v2 v3 v4 v5 v6 v7 v8 v9 v10 v11 v12=>hk_ k (⟨v1,v2,v3,v4,v5,v6,(⟨v7,v8⟩:ak_),(⟨v9,v10,v11,v12⟩:ai_)⟩:am_)) k [.g [.i .i64, .i .i64, .b, .i .i64, .i .i64, .i .i64, .b, .i .i64, .o 0, .i .i64, .o 1, .s, .o 2, .o 3, .s]] [.l .item, .l .held, .l .str, .l .packet] (fun r=>(r.Code,r.End.Number,r.End.Up,r.End.Life,r.End.Peer,r.End.Since,r.End.Owes,r.End.Send.Base,(),r.End.Take.Next,(),r.End.Take.Open,(),(),r.Text,r.End.Send.Items,r.End.Take.Held,r.End.Take.Ready,r.Out,())) (fun v1 v2 v3 v4 v5 v6 v7 v8 v9 v10 v11 v12 v13 v14 v15=>(⟨v1,(⟨v2,v3,v4,v5,v6,v7,(⟨v8,v12⟩:ak_),(⟨v9,v13,v10,v14⟩:ai_)⟩:am_),v15,v11⟩:aw_)) false
noncomputable abbrev qI_:List (Nat×Cut K TyK (aw_)):=[(9,ct cod [2,3,4] [.c (.r 0 0), .c (.r 1 0), .c (.o 2)] [.x [.i .i64, .i .i64, .b, .i .i64, .i .i64, .i .i64, .b, .i .i64, .o 3, .i .i64, .o 4, .s, .o 5, .o 6, .s], .x [.i .i64, .b, .i .i64, .i .i64, .i .i64, .b, .i .i64, .o 7, .i .i64, .o 8, .s, .o 9], .l .packet, .l .item, .l .held, .l .str, .l .packet, .l .item, .l .held, .l .str] eh_),
  (13,ct cod [2,3,4,5,6,7] [.c (.r 0 0), .c (.r 1 0), .c (.o 2), .c (.r 3 0), .c (.o 4), .c (.i .i64)] [.x [.i .i64, .i .i64, .b, .i .i64, .i .i64, .i .i64, .b, .i .i64, .o 5, .i .i64, .o 6, .s, .o 7, .o 8, .s], .x [.i .i64, .b, .i .i64, .i .i64, .i .i64, .b, .i .i64, .o 9, .i .i64, .o 10, .s, .o 11], .l .packet, .x [.i .i64, .o 9], .l .int, .l .item, .l .held, .l .str, .l .packet, .l .item, .l .held, .l .str] cI_),
  (17,ct cod [2,3,4] [.c (.r 0 0), .c (.r 1 0), .c (.o 2)] [.x [.i .i64, .i .i64, .b, .i .i64, .i .i64, .i .i64, .b, .i .i64, .o 3, .i .i64, .o 4, .s, .o 5, .o 6, .s], .x [.i .i64, .b, .i .i64, .i .i64, .i .i64, .b, .i .i64, .o 7, .i .i64, .o 8, .s, .o 9], .l .packet, .l .item, .l .held, .l .str, .l .packet, .l .item, .l .held, .l .str] dD_),
  (22,ct cod [2,3,4] [.c (.r 0 0), .c (.r 1 0), .c (.o 2)] [.x [.i .i64, .i .i64, .b, .i .i64, .i .i64, .i .i64, .b, .i .i64, .o 3, .i .i64, .o 4, .s, .o 5, .o 6, .s], .x [.i .i64, .b, .i .i64, .i .i64, .i .i64, .b, .i .i64, .o 7, .i .i64, .o 8, .s, .o 9], .l .packet, .l .item, .l .held, .l .str, .l .packet, .l .item, .l .held, .l .str] cg_)]
theorem p3_ (k:Nat):SummOk Try.prog cod 42 (kp_ k):=aE_ codOk Try.f42 (fun k=>ay_ [(45,bW_ k),(52,dy_ k),(101,je_ k),(102,iY_ k)]) qI_ false [.cell 2 45] 0 [] aF_ Try.func42 (by kernel_rfl) (by kernel_rfl) (by kernel_rfl) (by kernel_rfl)
  (fun k=>Known.of tok eok codOk (all_cons (ch_ k) (all_cons (dR_ k) (all_cons (nL_ k) (all_cons (nD_ k) (ac_))))))
  (fun k=>QuietOk.of (all_cons (fun h r=>⟨rfl,rfl⟩) (all_cons (fun h r=>by cases h) (all_cons (fun h r=>by cases h) (all_cons (fun h r=>⟨rfl,rfl⟩) (ac_))))))
  (fun a=>rfl)
  (all_cons (ao_ codOk (by kernel_rfl) (by (repeat intro _);show _=_;kernel_rfl) (fun k=>by (repeat intro _);show _=_;kernel_rfl)) (all_cons (ao_ codOk (by kernel_rfl) (by (repeat intro _);show _=_;kernel_rfl) (fun k=>by (repeat intro _);show _=_;kernel_rfl)) (all_cons (ao_ codOk (by kernel_rfl) (by (repeat intro _);show _=_;kernel_rfl) (fun k=>by (repeat intro _);show _=_;kernel_rfl)) (all_cons (ao_ codOk (by kernel_rfl) (by (repeat intro _);show _=_;kernel_rfl) (fun k=>by (repeat intro _);show _=_;kernel_rfl)) (ac_)))))
  (fun k=>by (repeat intro _);show _=_;kernel_rfl)
noncomputable def jx_ (k:Nat):a3_ K TyK:=sm cod (ByteArray) [.bo, .bo] [.c (.i .i64), .c (.i .i64)] [] (bU_) k [.c (.s)] [] (fun r=>(r,())) (fun v1=>v1) true
noncomputable abbrev qa_:List (Nat×Cut K TyK (ByteArray)):=[(3,ct cod [0,1,5,6] [.c (.i .i64), .c (.i .i64), .c (.s), .c (.i .i64)] [] cG_)]
theorem nN_ (k:Nat):SummOk Try.prog cod 180 (jx_ k):=aE_ codOk Try.f180 (fun k=>ay_ []) qa_ false [.tmp 4] 0 [] aF_ Try.func180 (by kernel_rfl) (by kernel_rfl) (by kernel_rfl) (by kernel_rfl)
  (fun k=>Known.of tok eok codOk (ac_))
  (fun k=>QuietOk.of (ac_))
  (fun a=>rfl)
  (all_cons (ao_ codOk (by kernel_rfl) (by (repeat intro _);show _=_;kernel_rfl) (fun k=>by (repeat intro _);show _=_;kernel_rfl)) (ac_))
  (fun k=>by (repeat intro _);show _=_;kernel_rfl)
noncomputable def lW_ (k:Nat):a3_ K TyK:=sm cod (ByteArray) [.bo] [.g [.i .i64, .i .i64, .i .i64, .i .i64, .i .i64, .i .i64, .i .i64, .b, .s]] [] (fun k v1 v2 v3 v4 v5 v6 v7 v8 v9=>g9_ k (⟨v1,v2,v3,v4,v5,v6,v7,v8,v9⟩:ae_)) k [.c (.s)] [] (fun r=>(r,())) (fun v1=>v1) true
noncomputable abbrev rX_:List (Nat×Cut K TyK (ByteArray)):=[(7,ct cod [1,3,4] [.c (.r 0 0), .c (.s), .c (.i .i64)] [.x [.i .i64, .i .i64, .i .i64, .i .i64, .i .i64, .i .i64, .i .i64, .b, .s]] eR_)]
theorem qr_ (k:Nat):SummOk Try.prog cod 169 (lW_ k):=aE_ codOk Try.f169 (fun k=>ay_ [(180,jx_ k)]) rX_ false [.tmp 2] 0 [] aF_ Try.func169 (by kernel_rfl) (by kernel_rfl) (by kernel_rfl) (by kernel_rfl)
  (fun k=>Known.of tok eok codOk (all_cons (nN_ k) (ac_)))
  (fun k=>QuietOk.of (all_cons (fun h r=>⟨rfl,rfl⟩) (ac_)))
  (fun a=>rfl)
  (all_cons (ao_ codOk (by kernel_rfl) (by (repeat intro _);show _=_;kernel_rfl) (fun k=>by (repeat intro _);show _=_;kernel_rfl)) (ac_))
  (fun k=>by (repeat intro _);show _=_;kernel_rfl)
noncomputable def rn_ (k:Nat):a3_ K TyK:=sm cod (ByteArray) [.bo, .bo, .bo] [.c (.s), .c (.s), .c (.i .i64)] [] (oe_) k [.c (.s)] [] (fun r=>(r,())) (fun v1=>v1) true
noncomputable abbrev ye_:List (Nat×Cut K TyK (ByteArray)):=[(6,ct cod [2,7,8,9] [.c (.i .i64), .c (.s), .c (.i .u64), .c (.i .i64)] [] fN_),
  (11,ct cod [2,8,10,11] [.c (.i .i64), .c (.i .u64), .c (.s), .c (.i .i64)] [] fd_)]
theorem u1_ (k:Nat):SummOk Try.prog cod 168 (rn_ k):=aE_ codOk Try.f168 (fun k=>ay_ [(89,bl_ k)]) ye_ false [.tmp 6] 0 [] aF_ Try.func168 (by kernel_rfl) (by kernel_rfl) (by kernel_rfl) (by kernel_rfl)
  (fun k=>Known.of tok eok codOk (all_cons (a9_ k) (ac_)))
  (fun k=>QuietOk.of (all_cons (fun h r=>⟨rfl,rfl⟩) (ac_)))
  (fun a=>rfl)
  (all_cons (ao_ codOk (by kernel_rfl) (by (repeat intro _);show _=_;kernel_rfl) (fun k=>by (repeat intro _);show _=_;kernel_rfl)) (all_cons (ao_ codOk (by kernel_rfl) (by (repeat intro _);show _=_;kernel_rfl) (fun k=>by (repeat intro _);show _=_;kernel_rfl)) (ac_)))
  (fun k=>by (repeat intro _);show _=_;kernel_rfl)
noncomputable def fK_ (k:Nat):a3_ K TyK:=sm cod (ByteArray) [.bo, .bo, .bo] [.g [.i .i64, .i .i64, .i .i64, .i .i64, .i .i64, .i .i64, .i .i64, .b, .s], .c (.s), .c (.i .i64)] [] (fun k v1 v2 v3 v4 v5 v6 v7 v8 v9 v10 v11=>de_ k (⟨v1,v2,v3,v4,v5,v6,v7,v8,v9⟩:ae_) v10 v11) k [.c (.s)] [] (fun r=>(r,())) (fun v1=>v1) true
theorem hq_ (k:Nat):SummOk Try.prog cod 140 (fK_ k):=aE_ codOk Try.f140 (fun k=>ay_ [(53,kG_ k),(89,bl_ k),(169,lW_ k),(168,rn_ k)]) [] false [.tmp 6] 0 [] aF_ Try.func140 (by kernel_rfl) (by kernel_rfl) (by kernel_rfl) (by kernel_rfl)
  (fun k=>Known.of tok eok codOk (all_cons (nh_ k) (all_cons (a9_ k) (all_cons (qr_ k) (all_cons (u1_ k) (ac_))))))
  (fun k=>QuietOk.of (all_cons (fun h r=>⟨rfl,rfl⟩) (all_cons (fun h r=>⟨rfl,rfl⟩) (all_cons (fun h r=>⟨rfl,rfl⟩) (all_cons (fun h r=>⟨rfl,rfl⟩) (ac_))))))
  (fun a=>rfl)
  (ac_)
  (fun k=>by (repeat intro _);show _=_;kernel_rfl)
noncomputable def gC_ (k:Nat):a3_ K TyK:=sm cod (ab_) [.mv] [.g [.s, .i .i64, .o 0, .o 1, .s, .o 2, .o 3]] [.l .end, .l .parcel, .l .record, .l .record] (fun k v1 v2 v3 v4 v5 v6 v7=>fJ_ k (⟨v1,v2,v4,v5,v3,v6,v7⟩:ab_)) k [.g [.s, .i .i64, .o 4, .o 5, .s, .o 6, .o 7]] [.d, .d, .d, .d, .l .end, .l .parcel, .l .record, .l .record] (fun r=>(r.Key,r.Width,(),(),r.Forged,(),(),r.Ends,r.Flight,r.Given,r.Taken,())) (fun v1 v2 v3 v4 v5 v6 v7=>(⟨v1,v2,v4,v5,v3,v6,v7⟩:ab_)) false
noncomputable abbrev r8_:List (Nat×Cut K TyK (ab_)):=[(2,ct cod [1,2,3] [.c (.r 4 0), .c (.r 5 0), .c (.i .i64)] [.d, .d, .d, .d, .x [.s, .i .i64, .o 6, .o 7, .s, .o 8, .o 9], .x [.s, .i .i64, .o 10, .o 11, .s, .o 12, .o 13], .l .end, .l .parcel, .l .record, .l .record, .l .end, .l .parcel, .l .record, .l .record] bR_),
  (7,ct cod [1,2,3,4,5] [.c (.r 4 0), .c (.r 5 0), .c (.i .i64), .c (.r 6 0), .c (.i .i64)] [.d, .d, .d, .d, .x [.s, .i .i64, .o 7, .o 8, .s, .o 9, .o 10], .x [.s, .i .i64, .o 11, .o 12, .s, .o 13, .o 14], .x [.i .i64, .i .i64, .b, .i .i64, .i .i64, .i .i64, .b, .i .i64, .o 15, .i .i64, .o 16, .s, .o 17, .o 18, .s], .l .end, .l .parcel, .l .record, .l .record, .l .end, .l .parcel, .l .record, .l .record, .d, .d, .d, .l .packet] dQ_)]
theorem hJ_ (k:Nat):SummOk Try.prog cod 141 (gC_ k):=aE_ codOk Try.f141 (fun k=>ay_ [(42,kp_ k),(140,fK_ k)]) r8_ false [.cell 2 60] 4 [true,true,true,true] aF_ Try.func141 (by kernel_rfl) (by kernel_rfl) (by kernel_rfl) (by kernel_rfl)
  (fun k=>Known.of tok eok codOk (all_cons (p3_ k) (all_cons (hq_ k) (ac_))))
  (fun k=>QuietOk.of (all_cons (fun h r=>by cases h) (all_cons (fun h r=>⟨rfl,rfl⟩) (ac_))))
  (fun a=>rfl)
  (all_cons (ao_ codOk (by kernel_rfl) (by (repeat intro _);show _=_;kernel_rfl) (fun k=>by (repeat intro _);show _=_;kernel_rfl)) (all_cons (ao_ codOk (by kernel_rfl) (by (repeat intro _);show _=_;kernel_rfl) (fun k=>by (repeat intro _);show _=_;kernel_rfl)) (ac_)))
  (fun k=>by (repeat intro _);show _=_;kernel_rfl)
noncomputable def i1_ (k:Nat):a3_ K TyK:=sm cod (List aI_×Bool) [.mv, .mv, .mv] [.c (.o 0), .g [.i .i64, .s, .s], .c (.i .i64)] [.l .l7count] (fun k v1 v2 v3 v4 v5=>gF_ k v5 (⟨v1,v2,v3⟩:ad_) v4) k [.c (.o 1), .c (.b)] [.d, .l .l7count] (fun r=>((),r.2,r.1,())) (fun v1 v2=>(v2,v1)) false
noncomputable abbrev o1_:List (Nat×Cut K TyK (List aI_×Bool)):=[(2,ct cod [0,2,4,8] [.c (.o 1), .c (.i .i64), .c (.r 2 0), .c (.i .i64)] [.d, .l .l7count, .x [.i .i64, .s, .s]] bH_)]
theorem nJ_ (k:Nat):SummOk Try.prog cod 142 (i1_ k):=aE_ codOk Try.f142 (fun k=>ay_ []) o1_ false [.tmp 6, .tmp 7] 1 [true] aF_ Try.func142 (by kernel_rfl) (by kernel_rfl) (by kernel_rfl) (by kernel_rfl)
  (fun k=>Known.of tok eok codOk (ac_))
  (fun k=>QuietOk.of (ac_))
  (fun a=>rfl)
  (all_cons (ao_ codOk (by kernel_rfl) (by (repeat intro _);show _=_;kernel_rfl) (fun k=>by (repeat intro _);show _=_;kernel_rfl)) (ac_))
  (fun k=>by (repeat intro _);show _=_;kernel_rfl)
noncomputable def eY_ (k:Nat):a3_ K TyK:=sm cod (List ad_) [.bo, .bo] [.c (.l true .parcel), .c (.i .i64)] [] (dU_) k [.c (.o 0)] [.l .parcel] (fun r=>((),r,())) (fun v1=>v1) false
theorem fS_ (k:Nat):SummOk Try.prog cod 144 (eY_ k):=aE_ codOk Try.f144 (fun k=>ay_ []) [] false [.tmp 4] 0 [] aF_ Try.func144 (by kernel_rfl) (by kernel_rfl) (by kernel_rfl) (by kernel_rfl)
  (fun k=>Known.of tok eok codOk (ac_))
  (fun k=>QuietOk.of (ac_))
  (fun a=>rfl)
  (ac_)
  (fun k=>by (repeat intro _);show _=_;kernel_rfl)
noncomputable def lT_ (k:Nat):a3_ K TyK:=sm cod (Int) [.bo] [.c (.s)] [] (fR_) k [.c (.i .i64)] [] (fun r=>(r,())) (fun v1=>v1) true
noncomputable abbrev sr_:List (Nat×Cut K TyK (Int)):=[(3,ct cod [0,3,4] [.c (.s), .c (.i .i64), .c (.i .i64)] [] dP_)]
theorem qN_ (k:Nat):SummOk Try.prog cod 153 (lT_ k):=aE_ codOk Try.f153 (fun k=>ay_ []) sr_ false [.tmp 2] 0 [] aF_ Try.func153 (by kernel_rfl) (by kernel_rfl) (by kernel_rfl) (by kernel_rfl)
  (fun k=>Known.of tok eok codOk (ac_))
  (fun k=>QuietOk.of (ac_))
  (fun a=>rfl)
  (all_cons (ao_ codOk (by kernel_rfl) (by (repeat intro _);show _=_;kernel_rfl) (fun k=>by (repeat intro _);show _=_;kernel_rfl)) (ac_))
  (fun k=>by (repeat intro _);show _=_;kernel_rfl)
noncomputable def hU_ (k:Nat):a3_ K TyK:=sm cod (ae_×Bool) [.bo, .bo, .bo] [.c (.s), .c (.s), .c (.i .i64)] [] (fq_) k [.g [.i .i64, .i .i64, .i .i64, .i .i64, .i .i64, .i .i64, .i .i64, .b, .s], .c (.b)] [] (fun r=>(r.1.Kind,r.1.From,r.1.Mine,r.1.Yours,r.1.Next,r.1.Mask,r.1.Seq,r.1.Last,r.1.Part,r.2,())) (fun v1 v2 v3 v4 v5 v6 v7 v8 v9 v10=>((⟨v1,v2,v3,v4,v5,v6,v7,v8,v9⟩:ae_),v10)) true
noncomputable abbrev mB_:List (Nat×Cut K TyK (ae_×Bool)):=[(11,ct cod [0,1,2,6,9] [.c (.s), .c (.s), .c (.i .i64), .c (.r 0 0), .c (.r 1 0)] [.x [.i .i64, .i .i64, .i .i64, .i .i64, .i .i64, .i .i64, .i .i64, .b, .s], .x [.i .i64, .i .i64, .i .i64, .i .i64, .i .i64, .i .i64, .i .i64, .b, .s]] cx_)]
theorem lL_ (k:Nat):SummOk Try.prog cod 88 (hU_ k):=aE_ codOk Try.f88 (fun k=>ay_ [(89,bl_ k),(153,lT_ k),(140,fK_ k)]) mB_ false [.cell 6 48, .tmp 7] 0 [] aF_ Try.func88 (by kernel_rfl) (by kernel_rfl) (by kernel_rfl) (by kernel_rfl)
  (fun k=>Known.of tok eok codOk (all_cons (a9_ k) (all_cons (qN_ k) (all_cons (hq_ k) (ac_)))))
  (fun k=>QuietOk.of (all_cons (fun h r=>⟨rfl,rfl⟩) (all_cons (fun h r=>⟨rfl,rfl⟩) (all_cons (fun h r=>⟨rfl,rfl⟩) (ac_)))))
  (fun a=>rfl)
  (all_cons (ao_ codOk (by kernel_rfl) (by (repeat intro _);show _=_;kernel_rfl) (fun k=>by (repeat intro _);show _=_;kernel_rfl)) (ac_))
  (fun k=>by (repeat intro _);show _=_;kernel_rfl)
noncomputable def f8_ (k:Nat):a3_ K TyK:=sm cod (ab_) [.mv, .mv] [.g [.s, .i .i64, .o 0, .o 1, .s, .o 2, .o 3], .c (.i .i64)] [.l .end, .l .parcel, .l .record, .l .record] (fun k v1 v2 v3 v4 v5 v6 v7 v8=>e7_ k (⟨v1,v2,v5,v6,v3,v7,v8⟩:ab_) v4) k [.g [.s, .i .i64, .o 4, .o 5, .s, .o 6, .o 7]] [.d, .d, .d, .d, .l .end, .l .parcel, .l .record, .l .record] (fun r=>(r.Key,r.Width,(),(),r.Forged,(),(),r.Ends,r.Flight,r.Given,r.Taken,())) (fun v1 v2 v3 v4 v5 v6 v7=>(⟨v1,v2,v4,v5,v3,v6,v7⟩:ab_)) false
noncomputable abbrev qC_:List (Nat×Cut K TyK (ab_)):=[(8,ct cod [2,4,5,6] [.c (.r 4 0), .c (.r 5 0), .c (.r 6 0), .c (.r 7 0)] [.d, .d, .d, .d, .x [.s, .i .i64, .o 8, .o 9, .s, .o 10, .o 11], .x [.s, .i .i64, .o 12, .o 13, .s, .o 14, .o 15], .x [.i .i64, .s, .s], .x [.i .i64, .i .i64, .i .i64, .i .i64, .i .i64, .i .i64, .i .i64, .b, .s], .l .end, .l .parcel, .l .record, .l .record, .l .end, .l .parcel, .l .record, .l .record] dl_)]
theorem gR_ (k:Nat):SummOk Try.prog cod 143 (f8_ k):=aE_ codOk Try.f143 (fun k=>ay_ [(144,eY_ k),(88,hU_ k),(12,kk_ k)]) qC_ false [.cell 4 60] 4 [true,true,true,true] aF_ Try.func143 (by kernel_rfl) (by kernel_rfl) (by kernel_rfl) (by kernel_rfl)
  (fun k=>Known.of tok eok codOk (all_cons (fS_ k) (all_cons (lL_ k) (all_cons (qg_ k) (ac_)))))
  (fun k=>QuietOk.of (all_cons (fun h r=>by cases h) (all_cons (fun h r=>⟨rfl,rfl⟩) (all_cons (fun h r=>by cases h) (ac_)))))
  (fun a=>rfl)
  (all_cons (ao_ codOk (by kernel_rfl) (by (repeat intro _);show _=_;kernel_rfl) (fun k=>by (repeat intro _);show _=_;kernel_rfl)) (ac_))
  (fun k=>by (repeat intro _);show _=_;kernel_rfl)
noncomputable def j9_ (k:Nat):a3_ K TyK:=sm cod (am_) [.bo] [.g [.i .i64, .b, .i .i64, .i .i64, .i .i64, .b, .i .i64, .l true .item, .i .i64, .l true .held, .s, .l true .str]] [] (fun k v1 v2 v3 v4 v5 v6 v7 v8 v9 v10 v11 v12=>hv_ k (⟨v1,v2,v3,v4,v5,v6,(⟨v7,v8⟩:ak_),(⟨v9,v10,v11,v12⟩:ai_)⟩:am_)) k [.g [.i .i64, .b, .i .i64, .i .i64, .i .i64, .b, .i .i64, .o 0, .i .i64, .o 1, .s, .o 2]] [.l .item, .l .held, .l .str] (fun r=>(r.Number,r.Up,r.Life,r.Peer,r.Since,r.Owes,r.Send.Base,(),r.Take.Next,(),r.Take.Open,(),r.Send.Items,r.Take.Held,r.Take.Ready,())) (fun v1 v2 v3 v4 v5 v6 v7 v8 v9 v10 v11 v12=>(⟨v1,v2,v3,v4,v5,v6,(⟨v7,v10⟩:ak_),(⟨v8,v11,v9,v12⟩:ai_)⟩:am_)) false
theorem px_ (k:Nat):SummOk Try.prog cod 170 (j9_ k):=aE_ codOk Try.f170 (fun k=>ay_ [(45,bW_ k)]) [] false [.cell 2 42] 0 [] aF_ Try.func170 (by kernel_rfl) (by kernel_rfl) (by kernel_rfl) (by kernel_rfl)
  (fun k=>Known.of tok eok codOk (all_cons (ch_ k) (ac_)))
  (fun k=>QuietOk.of (all_cons (fun h r=>⟨rfl,rfl⟩) (ac_)))
  (fun a=>rfl)
  (ac_)
  (fun k=>by (repeat intro _);show _=_;kernel_rfl)
noncomputable def kl_ (k:Nat):a3_ K TyK:=sm cod (am_) [.bo] [.g [.i .i64, .b, .i .i64, .i .i64, .i .i64, .b, .i .i64, .l true .item, .i .i64, .l true .held, .s, .l true .str]] [] (fun k v1 v2 v3 v4 v5 v6 v7 v8 v9 v10 v11 v12=>hG_ k (⟨v1,v2,v3,v4,v5,v6,(⟨v7,v8⟩:ak_),(⟨v9,v10,v11,v12⟩:ai_)⟩:am_)) k [.g [.i .i64, .b, .i .i64, .i .i64, .i .i64, .b, .i .i64, .o 0, .i .i64, .o 1, .s, .o 2]] [.l .item, .l .held, .l .str] (fun r=>(r.Number,r.Up,r.Life,r.Peer,r.Since,r.Owes,r.Send.Base,(),r.Take.Next,(),r.Take.Open,(),r.Send.Items,r.Take.Held,r.Take.Ready,())) (fun v1 v2 v3 v4 v5 v6 v7 v8 v9 v10 v11 v12=>(⟨v1,v2,v3,v4,v5,v6,(⟨v7,v10⟩:ak_),(⟨v8,v11,v9,v12⟩:ai_)⟩:am_)) false
theorem po_ (k:Nat):SummOk Try.prog cod 171 (kl_ k):=aE_ codOk Try.f171 (fun k=>ay_ [(45,bW_ k),(52,dy_ k)]) [] false [.cell 2 42] 0 [] aF_ Try.func171 (by kernel_rfl) (by kernel_rfl) (by kernel_rfl) (by kernel_rfl)
  (fun k=>Known.of tok eok codOk (all_cons (ch_ k) (all_cons (dR_ k) (ac_))))
  (fun k=>QuietOk.of (all_cons (fun h r=>⟨rfl,rfl⟩) (all_cons (fun h r=>by cases h) (ac_))))
  (fun a=>rfl)
  (ac_)
  (fun k=>by (repeat intro _);show _=_;kernel_rfl)
noncomputable def rD_ (k:Nat):a3_ K TyK:=sm cod (List az_) [.bo] [.c (.s)] [] (jJ_) k [.c (.o 0)] [.l .part] (fun r=>((),r,())) (fun v1=>v1) false
noncomputable abbrev x8_:List (Nat×Cut K TyK (List az_)):=[(4,ct cod [0,3] [.c (.s), .c (.o 0)] [.l .part] e1_)]
theorem vf_ (k:Nat):SummOk Try.prog cod 156 (rD_ k):=aE_ codOk Try.f156 (fun k=>ay_ []) x8_ false [.tmp 2] 0 [] aF_ Try.func156 (by kernel_rfl) (by kernel_rfl) (by kernel_rfl) (by kernel_rfl)
  (fun k=>Known.of tok eok codOk (ac_))
  (fun k=>QuietOk.of (ac_))
  (fun a=>rfl)
  (all_cons (ao_ codOk (by kernel_rfl) (by (repeat intro _);show _=_;kernel_rfl) (fun k=>by (repeat intro _);show _=_;kernel_rfl)) (ac_))
  (fun k=>by (repeat intro _);show _=_;kernel_rfl)
noncomputable def jo_ (k:Nat):a3_ K TyK:=sm cod (ak_×Int) [.bo, .bo] [.g [.i .i64, .l true .item], .c (.s)] [] (fun k v1 v2 v3=>dr_ k (⟨v1,v2⟩:ak_) v3) k [.g [.i .i64, .o 0], .c (.i .i64)] [.l .item] (fun r=>(r.1.Base,(),r.2,r.1.Items,())) (fun v1 v2 v3=>((⟨v1,v3⟩:ak_),v2)) false
noncomputable abbrev pT_:List (Nat×Cut K TyK (ak_×Int)):=[(9,ct cod [4,6,8,9] [.c (.r 0 0), .c (.o 1), .c (.r 2 0), .c (.i .i64)] [.x [.i .i64, .o 3], .l .part, .x [.i .i64, .o 4], .l .item, .l .item] cR_)]
theorem nF_ (k:Nat):SummOk Try.prog cod 103 (jo_ k):=aE_ codOk Try.f103 (fun k=>ay_ [(105,dC_ k),(156,rD_ k),(118,fx_ k)]) pT_ false [.cell 4 37, .tmp 5] 0 [] aF_ Try.func103 (by kernel_rfl) (by kernel_rfl) (by kernel_rfl) (by kernel_rfl)
  (fun k=>Known.of tok eok codOk (all_cons (er_ k) (all_cons (vf_ k) (all_cons (f6_ k) (ac_)))))
  (fun k=>QuietOk.of (all_cons (fun h r=>⟨rfl,rfl⟩) (all_cons (fun h r=>by cases h) (all_cons (fun h r=>by cases h) (ac_)))))
  (fun a=>rfl)
  (all_cons (ao_ codOk (by kernel_rfl) (by (repeat intro _);show _=_;kernel_rfl) (fun k=>by (repeat intro _);show _=_;kernel_rfl)) (ac_))
  (fun k=>by (repeat intro _);show _=_;kernel_rfl)
noncomputable def kd_ (k:Nat):a3_ K TyK:=sm cod (aw_) [.bo, .bo] [.g [.i .i64, .b, .i .i64, .i .i64, .i .i64, .b, .i .i64, .l true .item, .i .i64, .l true .held, .s, .l true .str], .c (.s)] [] (fun k v1 v2 v3 v4 v5 v6 v7 v8 v9 v10 v11 v12 v13=>hB_ k (⟨v1,v2,v3,v4,v5,v6,(⟨v7,v8⟩:ak_),(⟨v9,v10,v11,v12⟩:ai_)⟩:am_) v13) k [.g [.i .i64, .i .i64, .b, .i .i64, .i .i64, .i .i64, .b, .i .i64, .o 0, .i .i64, .o 1, .s, .o 2, .o 3, .s]] [.l .item, .l .held, .l .str, .l .packet] (fun r=>(r.Code,r.End.Number,r.End.Up,r.End.Life,r.End.Peer,r.End.Since,r.End.Owes,r.End.Send.Base,(),r.End.Take.Next,(),r.End.Take.Open,(),(),r.Text,r.End.Send.Items,r.End.Take.Held,r.End.Take.Ready,r.Out,())) (fun v1 v2 v3 v4 v5 v6 v7 v8 v9 v10 v11 v12 v13 v14 v15=>(⟨v1,(⟨v2,v3,v4,v5,v6,v7,(⟨v8,v12⟩:ak_),(⟨v9,v13,v10,v14⟩:ai_)⟩:am_),v15,v11⟩:aw_)) false
theorem pm_ (k:Nat):SummOk Try.prog cod 43 (kd_ k):=aE_ codOk Try.f43 (fun k=>ay_ [(45,bW_ k),(103,jo_ k),(52,dy_ k)]) [] false [.cell 4 45] 0 [] aF_ Try.func43 (by kernel_rfl) (by kernel_rfl) (by kernel_rfl) (by kernel_rfl)
  (fun k=>Known.of tok eok codOk (all_cons (ch_ k) (all_cons (nF_ k) (all_cons (dR_ k) (ac_)))))
  (fun k=>QuietOk.of (all_cons (fun h r=>⟨rfl,rfl⟩) (all_cons (fun h r=>by cases h) (all_cons (fun h r=>by cases h) (ac_)))))
  (fun a=>rfl)
  (ac_)
  (fun k=>by (repeat intro _);show _=_;kernel_rfl)
noncomputable def jE_ (k:Nat):a3_ K TyK:=sm cod (ai_×ByteArray×Bool) [.bo] [.g [.i .i64, .l true .held, .s, .l true .str]] [] (fun k v1 v2 v3 v4=>ft_ k (⟨v1,v2,v3,v4⟩:ai_)) k [.g [.i .i64, .o 0, .s, .o 1], .c (.s), .c (.b)] [.l .held, .l .str] (fun r=>(r.1.Next,(),r.1.Open,(),r.2.1,r.2.2,r.1.Held,r.1.Ready,())) (fun v1 v2 v3 v4 v5 v6=>((⟨v1,v5,v2,v6⟩:ai_),v3,v4)) false
theorem nl_ (k:Nat):SummOk Try.prog cod 104 (jE_ k):=aE_ codOk Try.f104 (fun k=>ay_ [(106,dE_ k),(119,gA_ k),(122,ky_ k)]) [] false [.cell 2 40, .tmp 3, .tmp 4] 0 [] aF_ Try.func104 (by kernel_rfl) (by kernel_rfl) (by kernel_rfl) (by kernel_rfl)
  (fun k=>Known.of tok eok codOk (all_cons (ev_ k) (all_cons (hM_ k) (all_cons (m8_ k) (ac_)))))
  (fun k=>QuietOk.of (all_cons (fun h r=>⟨rfl,rfl⟩) (all_cons (fun h r=>by cases h) (all_cons (fun h r=>by cases h) (ac_)))))
  (fun a=>rfl)
  (ac_)
  (fun k=>by (repeat intro _);show _=_;kernel_rfl)
noncomputable def kq_ (k:Nat):a3_ K TyK:=sm cod (aw_) [.bo] [.g [.i .i64, .b, .i .i64, .i .i64, .i .i64, .b, .i .i64, .l true .item, .i .i64, .l true .held, .s, .l true .str]] [] (fun k v1 v2 v3 v4 v5 v6 v7 v8 v9 v10 v11 v12=>hs_ k (⟨v1,v2,v3,v4,v5,v6,(⟨v7,v8⟩:ak_),(⟨v9,v10,v11,v12⟩:ai_)⟩:am_)) k [.g [.i .i64, .i .i64, .b, .i .i64, .i .i64, .i .i64, .b, .i .i64, .o 0, .i .i64, .o 1, .s, .o 2, .o 3, .s]] [.l .item, .l .held, .l .str, .l .packet] (fun r=>(r.Code,r.End.Number,r.End.Up,r.End.Life,r.End.Peer,r.End.Since,r.End.Owes,r.End.Send.Base,(),r.End.Take.Next,(),r.End.Take.Open,(),(),r.Text,r.End.Send.Items,r.End.Take.Held,r.End.Take.Ready,r.Out,())) (fun v1 v2 v3 v4 v5 v6 v7 v8 v9 v10 v11 v12 v13 v14 v15=>(⟨v1,(⟨v2,v3,v4,v5,v6,v7,(⟨v8,v12⟩:ak_),(⟨v9,v13,v10,v14⟩:ai_)⟩:am_),v15,v11⟩:aw_)) false
theorem pk_ (k:Nat):SummOk Try.prog cod 44 (kq_ k):=aE_ codOk Try.f44 (fun k=>ay_ [(45,bW_ k),(104,jE_ k),(52,dy_ k)]) [] false [.cell 2 45] 0 [] aF_ Try.func44 (by kernel_rfl) (by kernel_rfl) (by kernel_rfl) (by kernel_rfl)
  (fun k=>Known.of tok eok codOk (all_cons (ch_ k) (all_cons (nl_ k) (all_cons (dR_ k) (ac_)))))
  (fun k=>QuietOk.of (all_cons (fun h r=>⟨rfl,rfl⟩) (all_cons (fun h r=>by cases h) (all_cons (fun h r=>by cases h) (ac_)))))
  (fun a=>rfl)
  (ac_)
  (fun k=>by (repeat intro _);show _=_;kernel_rfl)
noncomputable def jD_ (k:Nat):a3_ K TyK:=sm cod (ab_) [.mv, .mv] [.g [.s, .i .i64, .o 0, .o 1, .s, .o 2, .o 3], .g [.i .i64, .i .i64, .i .i64, .i .i64, .s]] [.l .end, .l .parcel, .l .record, .l .record] (fun k v1 v2 v3 v4 v5 v6 v7 v8 v9 v10 v11 v12=>gJ_ k (⟨v1,v2,v9,v10,v3,v11,v12⟩:ab_) (⟨v4,v5,v6,v7,v8⟩:aT_)) k [.g [.s, .i .i64, .o 4, .o 5, .s, .o 6, .o 7]] [.d, .d, .d, .d, .l .end, .l .parcel, .l .record, .l .record] (fun r=>(r.Key,r.Width,(),(),r.Forged,(),(),r.Ends,r.Flight,r.Given,r.Taken,())) (fun v1 v2 v3 v4 v5 v6 v7=>(⟨v1,v2,v4,v5,v3,v6,v7⟩:ab_)) false
noncomputable abbrev tD_:List (Nat×Cut K TyK (ab_)):=[(18,ct cod [2,4] [.c (.r 4 0), .c (.r 5 0)] [.d, .d, .d, .d, .x [.s, .i .i64, .o 6, .o 7, .s, .o 8, .o 9], .x [.s, .i .i64, .o 10, .o 11, .s, .o 12, .o 13], .l .end, .l .parcel, .l .record, .l .record, .l .end, .l .parcel, .l .record, .l .record] bd_)]
theorem lF_ (k:Nat):SummOk Try.prog cod 145 (jD_ k):=aE_ codOk Try.f145 (fun k=>ay_ [(170,j9_ k),(171,kl_ k),(43,kd_ k),(44,kq_ k)]) tD_ false [.cell 4 60] 4 [true,true,true,true] aF_ Try.func145 (by kernel_rfl) (by kernel_rfl) (by kernel_rfl) (by kernel_rfl)
  (fun k=>Known.of tok eok codOk (all_cons (px_ k) (all_cons (po_ k) (all_cons (pm_ k) (all_cons (pk_ k) (ac_))))))
  (fun k=>QuietOk.of (all_cons (fun h r=>by cases h) (all_cons (fun h r=>by cases h) (all_cons (fun h r=>by cases h) (all_cons (fun h r=>by cases h) (ac_))))))
  (fun a=>rfl)
  (all_cons (ao_ codOk (by kernel_rfl) (by (repeat intro _);show _=_;kernel_rfl) (fun k=>by (repeat intro _);show _=_;kernel_rfl)) (ac_))
  (fun k=>by (repeat intro _);show _=_;kernel_rfl)
noncomputable def oV_ (k:Nat):a3_ K TyK:=sm cod (ab_) [.bo, .bo, .bo] [.g [.s, .i .i64, .l true .end, .l true .parcel, .s, .l true .record, .l true .record], .c (.i .i64), .c (.i .i64)] [] (fun k v1 v2 v3 v4 v5 v6 v7 v8 v9=>ld_ k (⟨v1,v2,v3,v4,v5,v6,v7⟩:ab_) v8 v9) k [.g [.s, .i .i64, .o 0, .o 1, .s, .o 2, .o 3]] [.l .end, .l .parcel, .l .record, .l .record] (fun r=>(r.Key,r.Width,(),(),r.Forged,(),(),r.Ends,r.Flight,r.Given,r.Taken,())) (fun v1 v2 v3 v4 v5 v6 v7=>(⟨v1,v2,v4,v5,v3,v6,v7⟩:ab_)) false
noncomputable abbrev v0_:List (Nat×Cut K TyK (ab_)):=[(6,ct cod [1,2,6,7,8,9] [.c (.i .i64), .c (.i .i64), .c (.r 0 0), .c (.r 1 0), .c (.o 2), .c (.i .i64)] [.x [.s, .i .i64, .o 3, .o 4, .s, .o 5, .o 6], .x [.s, .i .i64, .o 7, .o 8, .s, .o 9, .o 10], .l .l7count, .l .end, .l .parcel, .l .record, .l .record, .l .end, .l .parcel, .l .record, .l .record] fh_),
  (9,ct cod [1,2,6,7,8,9] [.c (.i .i64), .c (.i .i64), .c (.r 0 0), .c (.r 1 0), .c (.o 2), .c (.i .i64)] [.x [.s, .i .i64, .o 3, .o 4, .s, .o 5, .o 6], .x [.s, .i .i64, .o 7, .o 8, .s, .o 9, .o 10], .l .l7count, .l .end, .l .parcel, .l .record, .l .record, .l .end, .l .parcel, .l .record, .l .record] ej_),
  (16,ct cod [1,2,6,7,8,9,12] [.c (.i .i64), .c (.i .i64), .c (.r 0 0), .c (.r 1 0), .c (.o 2), .c (.i .i64), .c (.i .i64)] [.x [.s, .i .i64, .o 3, .o 4, .s, .o 5, .o 6], .x [.s, .i .i64, .o 7, .o 8, .s, .o 9, .o 10], .l .l7count, .l .end, .l .parcel, .l .record, .l .record, .l .end, .l .parcel, .l .record, .l .record] ck_),
  (19,ct cod [1,2,6,7,8,9,12,13] [.c (.i .i64), .c (.i .i64), .c (.r 0 0), .c (.r 1 0), .c (.o 2), .c (.i .i64), .c (.i .i64), .c (.i .i64)] [.x [.s, .i .i64, .o 3, .o 4, .s, .o 5, .o 6], .x [.s, .i .i64, .o 7, .o 8, .s, .o 9, .o 10], .l .l7count, .l .end, .l .parcel, .l .record, .l .record, .l .end, .l .parcel, .l .record, .l .record] ez_)]
theorem uz_ (k:Nat):SummOk Try.prog cod 72 (oV_ k):=aE_ codOk Try.f72 (fun k=>ay_ [(34,eq_ k),(89,bl_ k),(85,iz_ k),(141,gC_ k),(142,i1_ k),(143,f8_ k),(144,eY_ k),(145,jD_ k)]) v0_ false [.cell 6 60] 0 [] aF_ Try.func72 (by kernel_rfl) (by kernel_rfl) (by kernel_rfl) (by kernel_rfl)
  (fun k=>Known.of tok eok codOk (all_cons (fy_ k) (all_cons (a9_ k) (all_cons (kv_ k) (all_cons (hJ_ k) (all_cons (nJ_ k) (all_cons (gR_ k) (all_cons (fS_ k) (all_cons (lF_ k) (ac_))))))))))
  (fun k=>QuietOk.of (all_cons (fun h r=>⟨rfl,rfl⟩) (all_cons (fun h r=>⟨rfl,rfl⟩) (all_cons (fun h r=>by cases h) (all_cons (fun h r=>by cases h) (all_cons (fun h r=>by cases h) (all_cons (fun h r=>by cases h) (all_cons (fun h r=>by cases h) (all_cons (fun h r=>by cases h) (ac_))))))))))
  (fun a=>rfl)
  (all_cons (ao_ codOk (by kernel_rfl) (by (repeat intro _);show _=_;kernel_rfl) (fun k=>by (repeat intro _);show _=_;kernel_rfl)) (all_cons (ao_ codOk (by kernel_rfl) (by (repeat intro _);show _=_;kernel_rfl) (fun k=>by (repeat intro _);show _=_;kernel_rfl)) (all_cons (ao_ codOk (by kernel_rfl) (by (repeat intro _);show _=_;kernel_rfl) (fun k=>by (repeat intro _);show _=_;kernel_rfl)) (all_cons (ao_ codOk (by kernel_rfl) (by (repeat intro _);show _=_;kernel_rfl) (fun k=>by (repeat intro _);show _=_;kernel_rfl)) (ac_)))))
  (fun k=>by (repeat intro _);show _=_;kernel_rfl)
noncomputable def iD_ (k:Nat):a3_ K TyK:=sm cod (ByteArray×as_) [.bo] [.c (.r 0 0)] [.x [.l false .byte, .i .i64]] (fun k v1 v2=>cZ_ k (⟨v1,v2⟩:as_)) k [.c (.s)] [.x [.l false .byte, .i .i64]] (fun r=>(r.1,r.2.b,r.2.p,())) (fun v1 v2 v3=>(v1,(⟨v2,v3⟩:as_))) false
noncomputable abbrev no_:List (Nat×Cut K TyK (ByteArray×as_)):=[(12,ct cod [0,3,4] [.c (.r 0 0), .c (.s), .c (.i .i64)] [.x [.l false .byte, .i .i64]] ca_)]
theorem mv_ (k:Nat):SummOk Try.prog cod 95 (iD_ k):=aE_ codOk Try.f95 (fun k=>ay_ [(73,cO_ k),(94,it_ k)]) no_ false [.tmp 2] 1 [false] aF_ Try.func95 (by kernel_rfl) (by kernel_rfl) (by kernel_rfl) (by kernel_rfl)
  (fun k=>Known.of tok eok codOk (all_cons (da_ k) (all_cons (kh_ k) (ac_))))
  (fun k=>QuietOk.of (all_cons (fun h r=>by cases h) (all_cons (fun h r=>⟨rfl,rfl⟩) (ac_))))
  (fun a=>rfl)
  (all_cons (ao_ codOk (by kernel_rfl) (by (repeat intro _);show _=_;kernel_rfl) (fun k=>by (repeat intro _);show _=_;kernel_rfl)) (ac_))
  (fun k=>by (repeat intro _);show _=_;kernel_rfl)
noncomputable def kg_ (k:Nat):a3_ K TyK:=sm cod (aT_×as_) [.bo] [.c (.r 0 0)] [.x [.l false .byte, .i .i64]] (fun k v1 v2=>hi_ k (⟨v1,v2⟩:as_)) k [.g [.i .i64, .i .i64, .i .i64, .i .i64, .s]] [.x [.l false .byte, .i .i64]] (fun r=>(r.1.Kind,r.1.A,r.1.B,r.1.C,r.1.Text,r.2.b,r.2.p,())) (fun v1 v2 v3 v4 v5 v6 v7=>((⟨v1,v2,v3,v4,v5⟩:aT_),(⟨v6,v7⟩:as_))) false
noncomputable abbrev qz_:List (Nat×Cut K TyK (aT_×as_)):=[(5,ct cod [0,2,3,4] [.c (.r 0 0), .c (.r 1 0), .c (.i .i64), .c (.i .i64)] [.x [.l false .byte, .i .i64], .x [.i .i64, .i .i64, .i .i64, .i .i64, .s]] d7_),
  (17,ct cod [2,4] [.c (.r 1 0), .c (.i .i64)] [.x [.l false .byte, .i .i64], .x [.i .i64, .i .i64, .i .i64, .i .i64, .s]] dJ_),
  (18,ct cod [0,2,4,5,35] [.c (.r 0 0), .c (.r 1 0), .c (.i .i64), .c (.i .i64), .c (.i .i64)] [.x [.l false .byte, .i .i64], .x [.i .i64, .i .i64, .i .i64, .i .i64, .s]] gq_),
  (20,ct cod [2,4] [.c (.r 1 0), .c (.i .i64)] [.x [.l false .byte, .i .i64], .x [.i .i64, .i .i64, .i .i64, .i .i64, .s]] dH_),
  (21,ct cod [0,2,4,5,35] [.c (.r 0 0), .c (.r 1 0), .c (.i .i64), .c (.i .i64), .c (.i .i64)] [.x [.l false .byte, .i .i64], .x [.i .i64, .i .i64, .i .i64, .i .i64, .s]] eV_)]
theorem pz_ (k:Nat):SummOk Try.prog cod 87 (kg_ k):=aE_ codOk Try.f87 (fun k=>ay_ [(73,cO_ k),(95,iD_ k)]) qz_ false [.cell 2 71] 1 [false] aF_ Try.func87 (by kernel_rfl) (by kernel_rfl) (by kernel_rfl) (by kernel_rfl)
  (fun k=>Known.of tok eok codOk (all_cons (da_ k) (all_cons (mv_ k) (ac_))))
  (fun k=>QuietOk.of (all_cons (fun h r=>by cases h) (all_cons (fun h r=>by cases h) (ac_))))
  (fun a=>rfl)
  (all_cons (ao_ codOk (by kernel_rfl) (by (repeat intro _);show _=_;kernel_rfl) (fun k=>by (repeat intro _);show _=_;kernel_rfl)) (all_cons (ao_ codOk (by kernel_rfl) (by (repeat intro _);show _=_;kernel_rfl) (fun k=>by (repeat intro _);show _=_;kernel_rfl)) (all_cons (ao_ codOk (by kernel_rfl) (by (repeat intro _);show _=_;kernel_rfl) (fun k=>by (repeat intro _);show _=_;kernel_rfl)) (all_cons (ao_ codOk (by kernel_rfl) (by (repeat intro _);show _=_;kernel_rfl) (fun k=>by (repeat intro _);show _=_;kernel_rfl)) (all_cons (ao_ codOk (by kernel_rfl) (by (repeat intro _);show _=_;kernel_rfl) (fun k=>by (repeat intro _);show _=_;kernel_rfl)) (ac_))))))
  (fun k=>by (repeat intro _);show _=_;kernel_rfl)
noncomputable def iQ_ (k:Nat):a3_ K TyK:=sm cod (ab_) [.mv, .mv] [.g [.s, .i .i64, .o 0, .o 1, .s, .o 2, .o 3], .g [.i .i64, .i .i64, .i .i64, .i .i64, .s]] [.l .end, .l .parcel, .l .record, .l .record] (fun k v1 v2 v3 v4 v5 v6 v7 v8 v9 v10 v11 v12=>gu_ k (⟨v1,v2,v9,v10,v3,v11,v12⟩:ab_) (⟨v4,v5,v6,v7,v8⟩:aT_)) k [.g [.s, .i .i64, .o 4, .o 5, .s, .o 6, .o 7]] [.d, .d, .d, .d, .l .end, .l .parcel, .l .record, .l .record] (fun r=>(r.Key,r.Width,(),(),r.Forged,(),(),r.Ends,r.Flight,r.Given,r.Taken,())) (fun v1 v2 v3 v4 v5 v6 v7=>(⟨v1,v2,v4,v5,v3,v6,v7⟩:ab_)) false
noncomputable abbrev pp_:List (Nat×Cut K TyK (ab_)):=[(11,ct cod [2,4] [.c (.r 4 0), .c (.r 5 0)] [.d, .d, .d, .d, .x [.s, .i .i64, .o 6, .o 7, .s, .o 8, .o 9], .x [.s, .i .i64, .o 10, .o 11, .s, .o 12, .o 13], .l .end, .l .parcel, .l .record, .l .record, .l .end, .l .parcel, .l .record, .l .record] dh_),
  (22,ct cod [2,3,4,5] [.c (.r 4 0), .c (.r 5 0), .c (.r 6 0), .c (.r 7 0)] [.d, .d, .d, .d, .x [.s, .i .i64, .o 8, .o 9, .s, .o 10, .o 11], .x [.i .i64, .i .i64, .i .i64, .i .i64, .s], .x [.s, .i .i64, .o 12, .o 13, .s, .o 14, .o 15], .x [.i .i64, .s, .s], .l .end, .l .parcel, .l .record, .l .record, .l .end, .l .parcel, .l .record, .l .record] aK_)]
theorem ns_ (k:Nat):SummOk Try.prog cod 152 (iQ_ k):=aE_ codOk Try.f152 (fun k=>ay_ [(143,f8_ k),(144,eY_ k)]) pp_ false [.cell 4 60] 4 [true,true,true,true] aF_ Try.func152 (by kernel_rfl) (by kernel_rfl) (by kernel_rfl) (by kernel_rfl)
  (fun k=>Known.of tok eok codOk (all_cons (gR_ k) (all_cons (fS_ k) (ac_))))
  (fun k=>QuietOk.of (all_cons (fun h r=>by cases h) (all_cons (fun h r=>by cases h) (ac_))))
  (fun a=>rfl)
  (all_cons (ao_ codOk (by kernel_rfl) (by (repeat intro _);show _=_;kernel_rfl) (fun k=>by (repeat intro _);show _=_;kernel_rfl)) (all_cons (ao_ codOk (by kernel_rfl) (by (repeat intro _);show _=_;kernel_rfl) (fun k=>by (repeat intro _);show _=_;kernel_rfl)) (ac_)))
  (fun k=>by (repeat intro _);show _=_;kernel_rfl)
noncomputable def pM_ (k:Nat):a3_ K TyK:=sm cod (ab_) [.mv, .mv] [.g [.s, .i .i64, .o 0, .o 1, .s, .o 2, .o 3], .g [.i .i64, .i .i64, .i .i64, .i .i64, .s]] [.l .end, .l .parcel, .l .record, .l .record] (fun k v1 v2 v3 v4 v5 v6 v7 v8 v9 v10 v11 v12=>h9_ k (⟨v1,v2,v9,v10,v3,v11,v12⟩:ab_) (⟨v4,v5,v6,v7,v8⟩:aT_)) k [.g [.s, .i .i64, .o 4, .o 5, .s, .o 6, .o 7]] [.d, .d, .d, .d, .l .end, .l .parcel, .l .record, .l .record] (fun r=>(r.Key,r.Width,(),(),r.Forged,(),(),r.Ends,r.Flight,r.Given,r.Taken,())) (fun v1 v2 v3 v4 v5 v6 v7=>(⟨v1,v2,v4,v5,v3,v6,v7⟩:ab_)) false
theorem tn_ (k:Nat):SummOk Try.prog cod 86 (pM_ k):=aE_ codOk Try.f86 (fun k=>ay_ [(141,gC_ k),(89,bl_ k),(152,iQ_ k),(145,jD_ k)]) [] false [.cell 4 60] 4 [true,true,true,true] aF_ Try.func86 (by kernel_rfl) (by kernel_rfl) (by kernel_rfl) (by kernel_rfl)
  (fun k=>Known.of tok eok codOk (all_cons (hJ_ k) (all_cons (a9_ k) (all_cons (ns_ k) (all_cons (lF_ k) (ac_))))))
  (fun k=>QuietOk.of (all_cons (fun h r=>by cases h) (all_cons (fun h r=>⟨rfl,rfl⟩) (all_cons (fun h r=>by cases h) (all_cons (fun h r=>by cases h) (ac_))))))
  (fun a=>rfl)
  (ac_)
  (fun k=>by (repeat intro _);show _=_;kernel_rfl)
noncomputable def iE_ (k:Nat):a3_ K TyK:=sm cod (ab_×as_) [.bo] [.c (.r 0 0)] [.x [.l false .byte, .i .i64]] (fun k v1 v2=>f1_ k (⟨v1,v2⟩:as_)) k [.g [.s, .i .i64, .o 1, .o 2, .s, .o 3, .o 4]] [.x [.l false .byte, .i .i64], .l .end, .l .parcel, .l .record, .l .record] (fun r=>(r.1.Key,r.1.Width,(),(),r.1.Forged,(),(),r.2.b,r.2.p,r.1.Ends,r.1.Flight,r.1.Given,r.1.Taken,())) (fun v1 v2 v3 v4 v5 v6 v7 v8 v9=>((⟨v1,v2,v6,v7,v3,v8,v9⟩:ab_),(⟨v4,v5⟩:as_))) false
noncomputable abbrev nj_:List (Nat×Cut K TyK (ab_×as_)):=[(4,ct cod [0,2,3] [.c (.r 0 0), .c (.r 1 0), .c (.r 2 0)] [.x [.l false .byte, .i .i64], .x [.s, .i .i64, .o 3, .o 4, .s, .o 5, .o 6], .x [.s, .i .i64, .o 7, .o 8, .s, .o 9, .o 10], .l .end, .l .parcel, .l .record, .l .record, .l .end, .l .parcel, .l .record, .l .record] db_),
  (6,ct cod [0,2,3,4,5] [.c (.r 0 0), .c (.r 1 0), .c (.r 2 0), .c (.i .i64), .c (.i .i64)] [.x [.l false .byte, .i .i64], .x [.s, .i .i64, .o 3, .o 4, .s, .o 5, .o 6], .x [.s, .i .i64, .o 7, .o 8, .s, .o 9, .o 10], .l .end, .l .parcel, .l .record, .l .record, .l .end, .l .parcel, .l .record, .l .record] bh_),
  (12,ct cod [0,2,3,4,5,6] [.c (.r 0 0), .c (.r 1 0), .c (.r 2 0), .c (.i .i64), .c (.i .i64), .c (.i .i64)] [.x [.l false .byte, .i .i64], .x [.s, .i .i64, .o 3, .o 4, .s, .o 5, .o 6], .x [.s, .i .i64, .o 7, .o 8, .s, .o 9, .o 10], .l .end, .l .parcel, .l .record, .l .record, .l .end, .l .parcel, .l .record, .l .record] b8_),
  (15,ct cod [0,2,3,4,5] [.c (.r 0 0), .c (.r 1 0), .c (.r 2 0), .c (.i .i64), .c (.i .i64)] [.x [.l false .byte, .i .i64], .x [.s, .i .i64, .o 3, .o 4, .s, .o 5, .o 6], .x [.s, .i .i64, .o 7, .o 8, .s, .o 9, .o 10], .l .end, .l .parcel, .l .record, .l .record, .l .end, .l .parcel, .l .record, .l .record] b3_),
  (7,ct cod [0,2,3,4,5] [.c (.r 0 0), .c (.r 1 0), .c (.r 2 0), .c (.i .i64), .c (.i .i64)] [.x [.l false .byte, .i .i64], .x [.s, .i .i64, .o 3, .o 4, .s, .o 5, .o 6], .x [.s, .i .i64, .o 7, .o 8, .s, .o 9, .o 10], .l .end, .l .parcel, .l .record, .l .record, .l .end, .l .parcel, .l .record, .l .record] dg_)]
theorem l9_ (k:Nat):SummOk Try.prog cod 74 (iE_ k):=aE_ codOk Try.f74 (fun k=>ay_ [(147,mX_ k),(148,kn_ k),(146,jl_ k),(73,cO_ k),(72,oV_ k),(87,kg_ k),(86,pM_ k),(141,gC_ k),(143,f8_ k),(85,iz_ k)]) nj_ false [.cell 2 60] 1 [false] aF_ Try.func74 (by kernel_rfl) (by kernel_rfl) (by kernel_rfl) (by kernel_rfl)
  (fun k=>Known.of tok eok codOk (all_cons (so_ k) (all_cons (pR_ k) (all_cons (nw_ k) (all_cons (da_ k) (all_cons (uz_ k) (all_cons (pz_ k) (all_cons (tn_ k) (all_cons (hJ_ k) (all_cons (gR_ k) (all_cons (kv_ k) (ac_))))))))))))
  (fun k=>QuietOk.of (all_cons (fun h r=>by cases h) (all_cons (fun h r=>by cases h) (all_cons (fun h r=>by cases h) (all_cons (fun h r=>by cases h) (all_cons (fun h r=>by cases h) (all_cons (fun h r=>by cases h) (all_cons (fun h r=>by cases h) (all_cons (fun h r=>by cases h) (all_cons (fun h r=>by cases h) (all_cons (fun h r=>by cases h) (ac_))))))))))))
  (fun a=>rfl)
  (all_cons (ao_ codOk (by kernel_rfl) (by (repeat intro _);show _=_;kernel_rfl) (fun k=>by (repeat intro _);show _=_;kernel_rfl)) (all_cons (ao_ codOk (by kernel_rfl) (by (repeat intro _);show _=_;kernel_rfl) (fun k=>by (repeat intro _);show _=_;kernel_rfl)) (all_cons (ao_ codOk (by kernel_rfl) (by (repeat intro _);show _=_;kernel_rfl) (fun k=>by (repeat intro _);show _=_;kernel_rfl)) (all_cons (ao_ codOk (by kernel_rfl) (by (repeat intro _);show _=_;kernel_rfl) (fun k=>by (repeat intro _);show _=_;kernel_rfl)) (all_cons (ao_ codOk (by kernel_rfl) (by (repeat intro _);show _=_;kernel_rfl) (fun k=>by (repeat intro _);show _=_;kernel_rfl)) (ac_))))))
  (fun k=>by (repeat intro _);show _=_;kernel_rfl)
noncomputable def cs_ (k:Nat):a3_ K TyK:=sm cod (Bool) [.bo] [.g [.s, .i .i64, .l true .end, .l true .parcel, .s, .l true .record, .l true .record]] [] (fun k v1 v2 v3 v4 v5 v6 v7=>bZ_ k (⟨v1,v2,v3,v4,v5,v6,v7⟩:ab_)) k [.c (.b)] [] (fun r=>(r,())) (fun v1=>v1) true
noncomputable abbrev mh_:List (Nat×Cut K TyK (Bool)):=[(4,ct cod [1,48,49,50] [.c (.r 0 0), .c (.l true .end), .c (.i .i64), .c (.i .i64)] [.x [.s, .i .i64, .l true .end, .l true .parcel, .s, .l true .record, .l true .record]] b9_),
  (10,ct cod [1,67,68,69] [.c (.r 0 0), .c (.l true .parcel), .c (.i .i64), .c (.i .i64)] [.x [.s, .i .i64, .l true .end, .l true .parcel, .s, .l true .record, .l true .record]] a8_),
  (16,ct cod [98,99,100] [.c (.o 0), .c (.i .i64), .c (.i .i64)] [.l .lrecord] bb_),
  (19,ct cod [98,99,100,104,105,106] [.c (.o 0), .c (.i .i64), .c (.i .i64), .c (.l true .record), .c (.i .i64), .c (.i .i64)] [.l .lrecord] a7_)]
theorem cU_ (k:Nat):SummOk Try.prog cod 27 (cs_ k):=aE_ codOk Try.f27 (fun k=>ay_ [(46,bV_ k),(75,gj_ k)]) mh_ false [.tmp 2] 0 [] aF_ Try.func27 (by kernel_rfl) (by kernel_rfl) (by kernel_rfl) (by kernel_rfl)
  (fun k=>Known.of tok eok codOk (all_cons (cd_ k) (all_cons (fH_ k) (ac_))))
  (fun k=>QuietOk.of (all_cons (fun h r=>⟨rfl,rfl⟩) (all_cons (fun h r=>⟨rfl,rfl⟩) (ac_))))
  (fun a=>rfl)
  (all_cons (ao_ codOk (by kernel_rfl) (by (repeat intro _);show _=_;kernel_rfl) (fun k=>by (repeat intro _);show _=_;kernel_rfl)) (all_cons (ao_ codOk (by kernel_rfl) (by (repeat intro _);show _=_;kernel_rfl) (fun k=>by (repeat intro _);show _=_;kernel_rfl)) (all_cons (ao_ codOk (by kernel_rfl) (by (repeat intro _);show _=_;kernel_rfl) (fun k=>by (repeat intro _);show _=_;kernel_rfl)) (all_cons (ao_ codOk (by kernel_rfl) (by (repeat intro _);show _=_;kernel_rfl) (fun k=>by (repeat intro _);show _=_;kernel_rfl)) (ac_)))))
  (fun k=>by (repeat intro _);show _=_;kernel_rfl)
noncomputable def m3_ (k:Nat):a3_ K TyK:=sm cod (Bool) [.bo] [.g [.s, .i .i64, .l true .end, .l true .parcel, .s, .l true .record, .l true .record]] [] (fun k v1 v2 v3 v4 v5 v6 v7=>j2_ k (⟨v1,v2,v3,v4,v5,v6,v7⟩:ab_)) k [.c (.b)] [] (fun r=>(r,())) (fun v1=>v1) true
noncomputable abbrev ut_:List (Nat×Cut K TyK (Bool)):=[(5,ct cod [1,3,16,17,18] [.c (.r 0 0), .c (.m 1), .c (.l true .record), .c (.i .i64), .c (.i .i64)] [.x [.s, .i .i64, .l true .end, .l true .parcel, .s, .l true .record, .l true .record], .m .pair .lstr] cV_),
  (12,ct cod [3,7,41,42,43] [.c (.m 0), .c (.m 1), .c (.l true .record), .c (.i .i64), .c (.i .i64)] [.m .pair .lstr, .m .pair .int] aO_),
  (17,ct cod [3,7,10,41,42,43] [.c (.m 0), .c (.m 1), .c (.r 2 0), .c (.l true .record), .c (.i .i64), .c (.i .i64)] [.m .pair .lstr, .m .pair .int, .x [.i .i64, .i .i64, .i .i64]] a1_)]
theorem r1_ (k:Nat):SummOk Try.prog cod 22 (m3_ k):=aE_ codOk Try.f22 (fun k=>ay_ [(27,cs_ k)]) ut_ false [.tmp 2] 0 [] aF_ Try.func22 (by kernel_rfl) (by kernel_rfl) (by kernel_rfl) (by kernel_rfl)
  (fun k=>Known.of tok eok codOk (all_cons (cU_ k) (ac_)))
  (fun k=>QuietOk.of (all_cons (fun h r=>⟨rfl,rfl⟩) (ac_)))
  (fun a=>rfl)
  (all_cons (ao_ codOk (by kernel_rfl) (by (repeat intro _);show _=_;kernel_rfl) (fun k=>by (repeat intro _);show _=_;kernel_rfl)) (all_cons (ao_ codOk (by kernel_rfl) (by (repeat intro _);show _=_;kernel_rfl) (fun k=>by (repeat intro _);show _=_;kernel_rfl)) (all_cons (ao_ codOk (by kernel_rfl) (by (repeat intro _);show _=_;kernel_rfl) (fun k=>by (repeat intro _);show _=_;kernel_rfl)) (ac_))))
  (fun k=>by (repeat intro _);show _=_;kernel_rfl)
noncomputable def mJ_ (k:Nat):a3_ K TyK:=sm cod (Bool) [.bo] [.g [.s, .i .i64, .l true .end, .l true .parcel, .s, .l true .record, .l true .record]] [] (fun k v1 v2 v3 v4 v5 v6 v7=>jL_ k (⟨v1,v2,v3,v4,v5,v6,v7⟩:ab_)) k [.c (.b)] [] (fun r=>(r,())) (fun v1=>v1) true
noncomputable abbrev tE_:List (Nat×Cut K TyK (Bool)):=[(4,ct cod [1,3] [.c (.r 0 0), .c (.i .i64)] [.x [.s, .i .i64, .l true .end, .l true .parcel, .s, .l true .record, .l true .record]] dt_),
  (9,ct cod [1,3,4,5,6] [.c (.r 0 0), .c (.i .i64), .c (.r 1 0), .c (.i .i64), .c (.i .i64)] [.x [.s, .i .i64, .l true .end, .l true .parcel, .s, .l true .record, .l true .record], .x [.i .i64, .i .i64, .i .i64, .s]] eu_),
  (10,ct cod [1,3,4,5,6] [.c (.r 0 0), .c (.i .i64), .c (.r 1 0), .c (.i .i64), .c (.i .i64)] [.x [.s, .i .i64, .l true .end, .l true .parcel, .s, .l true .record, .l true .record], .x [.i .i64, .i .i64, .i .i64, .s]] cn_),
  (15,ct cod [1,3,4,5,7,8] [.c (.r 0 0), .c (.i .i64), .c (.r 1 0), .c (.i .i64), .c (.b), .c (.i .i64)] [.x [.s, .i .i64, .l true .end, .l true .parcel, .s, .l true .record, .l true .record], .x [.i .i64, .i .i64, .i .i64, .s]] c4_),
  (16,ct cod [1,3,4,5,7,8] [.c (.r 0 0), .c (.i .i64), .c (.r 1 0), .c (.i .i64), .c (.b), .c (.i .i64)] [.x [.s, .i .i64, .l true .end, .l true .parcel, .s, .l true .record, .l true .record], .x [.i .i64, .i .i64, .i .i64, .s]] bD_)]
theorem rS_ (k:Nat):SummOk Try.prog cod 23 (mJ_ k):=aE_ codOk Try.f23 (fun k=>ay_ [(34,eq_ k)]) tE_ false [.tmp 2] 0 [] aF_ Try.func23 (by kernel_rfl) (by kernel_rfl) (by kernel_rfl) (by kernel_rfl)
  (fun k=>Known.of tok eok codOk (all_cons (fy_ k) (ac_)))
  (fun k=>QuietOk.of (all_cons (fun h r=>⟨rfl,rfl⟩) (ac_)))
  (fun a=>rfl)
  (all_cons (ao_ codOk (by kernel_rfl) (by (repeat intro _);show _=_;kernel_rfl) (fun k=>by (repeat intro _);show _=_;kernel_rfl)) (all_cons (ao_ codOk (by kernel_rfl) (by (repeat intro _);show _=_;kernel_rfl) (fun k=>by (repeat intro _);show _=_;kernel_rfl)) (all_cons (ao_ codOk (by kernel_rfl) (by (repeat intro _);show _=_;kernel_rfl) (fun k=>by (repeat intro _);show _=_;kernel_rfl)) (all_cons (ao_ codOk (by kernel_rfl) (by (repeat intro _);show _=_;kernel_rfl) (fun k=>by (repeat intro _);show _=_;kernel_rfl)) (all_cons (ao_ codOk (by kernel_rfl) (by (repeat intro _);show _=_;kernel_rfl) (fun k=>by (repeat intro _);show _=_;kernel_rfl)) (ac_))))))
  (fun k=>by (repeat intro _);show _=_;kernel_rfl)
noncomputable def pw_ (k:Nat):a3_ K TyK:=sm cod (Bool) [.bo] [.g [.s, .i .i64, .l true .end, .l true .parcel, .s, .l true .record, .l true .record]] [] (fun k v1 v2 v3 v4 v5 v6 v7=>lS_ k (⟨v1,v2,v3,v4,v5,v6,v7⟩:ab_)) k [.c (.b)] [] (fun r=>(r,())) (fun v1=>v1) true
noncomputable abbrev v9_:List (Nat×Cut K TyK (Bool)):=[(4,ct cod [1,9,10,11] [.c (.r 0 0), .c (.l true .end), .c (.i .i64), .c (.i .i64)] [.x [.s, .i .i64, .l true .end, .l true .parcel, .s, .l true .record, .l true .record]] fj_)]
theorem s4_ (k:Nat):SummOk Try.prog cod 24 (pw_ k):=aE_ codOk Try.f24 (fun k=>ay_ [(27,cs_ k)]) v9_ false [.tmp 2] 0 [] aF_ Try.func24 (by kernel_rfl) (by kernel_rfl) (by kernel_rfl) (by kernel_rfl)
  (fun k=>Known.of tok eok codOk (all_cons (cU_ k) (ac_)))
  (fun k=>QuietOk.of (all_cons (fun h r=>⟨rfl,rfl⟩) (ac_)))
  (fun a=>rfl)
  (all_cons (ao_ codOk (by kernel_rfl) (by (repeat intro _);show _=_;kernel_rfl) (fun k=>by (repeat intro _);show _=_;kernel_rfl)) (ac_))
  (fun k=>by (repeat intro _);show _=_;kernel_rfl)
noncomputable def hD_ (k:Nat):a3_ K TyK:=sm cod (ab_) [.pe] [.c (.l false .byte)] [] (eU_) k [.g [.s, .i .i64, .o 0, .o 1, .s, .o 2, .o 3]] [.l .end, .l .parcel, .l .record, .l .record] (fun r=>(r.Key,r.Width,(),(),r.Forged,(),(),r.Ends,r.Flight,r.Given,r.Taken,())) (fun v1 v2 v3 v4 v5 v6 v7=>(⟨v1,v2,v4,v5,v3,v6,v7⟩:ab_)) false
theorem kQ_ (k:Nat):SummOk Try.prog cod 26 (hD_ k):=aE_ codOk Try.f26 (fun k=>ay_ [(70,lE_ k),(74,iE_ k)]) [] false [.cell 2 60] 0 [] aF_ Try.func26 (by kernel_rfl) (by kernel_rfl) (by kernel_rfl) (by kernel_rfl)
  (fun k=>Known.of tok eok codOk (all_cons (qH_ k) (all_cons (l9_ k) (ac_))))
  (fun k=>QuietOk.of (all_cons (fun h r=>by cases h) (all_cons (fun h r=>by cases h) (ac_))))
  (fun a=>rfl)
  (ac_)
  (fun k=>by (repeat intro _);show _=_;kernel_rfl)
noncomputable def t5_ (k:Nat):a3_ K TyK:=sm cod (ByteArray) [.bo, .bo] [.c (.i .i64), .c (.i .i64)] [] (gZ_) k [.c (.s)] [] (fun r=>(r,())) (fun v1=>v1) true
noncomputable abbrev zr_:List (Nat×Cut K TyK (ByteArray)):=[(3,ct cod [0,5,6] [.c (.i .i64), .c (.o 0), .c (.i .i64)] [.l .byte] gM_)]
theorem xR_ (k:Nat):SummOk Try.prog cod 76 (t5_ k):=aE_ codOk Try.f76 (fun k=>ay_ []) zr_ false [.tmp 4] 0 [] aF_ Try.func76 (by kernel_rfl) (by kernel_rfl) (by kernel_rfl) (by kernel_rfl)
  (fun k=>Known.of tok eok codOk (ac_))
  (fun k=>QuietOk.of (ac_))
  (fun a=>rfl)
  (all_cons (ao_ codOk (by kernel_rfl) (by (repeat intro _);show _=_;kernel_rfl) (fun k=>by (repeat intro _);show _=_;kernel_rfl)) (ac_))
  (fun k=>by (repeat intro _);show _=_;kernel_rfl)
noncomputable def rd_ (k:Nat):a3_ K TyK:=sm cod (ByteArray) [.bo, .bo, .bo] [.c (.s), .c (.s), .c (.i .i64)] [] (nW_) k [.c (.s)] [] (fun r=>(r,())) (fun v1=>v1) true
noncomputable abbrev xX_:List (Nat×Cut K TyK (ByteArray)):=[(6,ct cod [2,7,8,9] [.c (.i .i64), .c (.i .u64), .c (.s), .c (.i .i64)] [] fX_),
  (11,ct cod [2,7,10,11] [.c (.i .i64), .c (.i .u64), .c (.z 0 0), .c (.i .i64)] [.l .byte] fb_)]
theorem vu_ (k:Nat):SummOk Try.prog cod 77 (rd_ k):=aE_ codOk Try.f77 (fun k=>ay_ []) xX_ false [.tmp 6] 0 [] aF_ Try.func77 (by kernel_rfl) (by kernel_rfl) (by kernel_rfl) (by kernel_rfl)
  (fun k=>Known.of tok eok codOk (ac_))
  (fun k=>QuietOk.of (ac_))
  (fun a=>rfl)
  (all_cons (ao_ codOk (by kernel_rfl) (by (repeat intro _);show _=_;kernel_rfl) (fun k=>by (repeat intro _);show _=_;kernel_rfl)) (all_cons (ao_ codOk (by kernel_rfl) (by (repeat intro _);show _=_;kernel_rfl) (fun k=>by (repeat intro _);show _=_;kernel_rfl)) (ac_)))
  (fun k=>by (repeat intro _);show _=_;kernel_rfl)
noncomputable def fF_ (k:Nat):a3_ K TyK:=sm cod (ByteArray) [.bo, .bo, .bo] [.g [.i .i64, .i .i64, .i .i64, .i .i64, .i .i64, .i .i64, .i .i64, .b, .s], .c (.s), .c (.i .i64)] [] (fun k v1 v2 v3 v4 v5 v6 v7 v8 v9 v10 v11=>dd_ k (⟨v1,v2,v3,v4,v5,v6,v7,v8,v9⟩:ae_) v10 v11) k [.c (.s)] [] (fun r=>(r,())) (fun v1=>v1) true
noncomputable abbrev l2_:List (Nat×Cut K TyK (ByteArray)):=[(10,ct cod [1,2,7] [.c (.s), .c (.i .i64), .c (.s)] [] cz_),
  (9,ct cod [1,2,3,7,8] [.c (.s), .c (.i .i64), .c (.r 0 0), .c (.s), .c (.i .i64)] [.x [.i .i64, .i .i64, .i .i64, .i .i64, .i .i64, .i .i64, .i .i64, .b, .s]] cW_)]
theorem hf_ (k:Nat):SummOk Try.prog cod 28 (fF_ k):=aE_ codOk Try.f28 (fun k=>ay_ [(59,dY_ k),(76,t5_ k),(77,rd_ k)]) l2_ false [.tmp 6] 0 [] aF_ Try.func28 (by kernel_rfl) (by kernel_rfl) (by kernel_rfl) (by kernel_rfl)
  (fun k=>Known.of tok eok codOk (all_cons (e3_ k) (all_cons (xR_ k) (all_cons (vu_ k) (ac_)))))
  (fun k=>QuietOk.of (all_cons (fun h r=>⟨rfl,rfl⟩) (all_cons (fun h r=>⟨rfl,rfl⟩) (all_cons (fun h r=>⟨rfl,rfl⟩) (ac_)))))
  (fun a=>rfl)
  (all_cons (ao_ codOk (by kernel_rfl) (by (repeat intro _);show _=_;kernel_rfl) (fun k=>by (repeat intro _);show _=_;kernel_rfl)) (all_cons (ao_ codOk (by kernel_rfl) (by (repeat intro _);show _=_;kernel_rfl) (fun k=>by (repeat intro _);show _=_;kernel_rfl)) (ac_)))
  (fun k=>by (repeat intro _);show _=_;kernel_rfl)
noncomputable def gp_ (k:Nat):a3_ K TyK:=sm cod (ab_) [.bo] [.g [.s, .i .i64, .l true .end, .l true .parcel, .s, .l true .record, .l true .record]] [] (fun k v1 v2 v3 v4 v5 v6 v7=>eP_ k (⟨v1,v2,v3,v4,v5,v6,v7⟩:ab_)) k [.g [.s, .i .i64, .o 0, .o 1, .s, .o 2, .o 3]] [.l .end, .l .parcel, .l .record, .l .record] (fun r=>(r.Key,r.Width,(),(),r.Forged,(),(),r.Ends,r.Flight,r.Given,r.Taken,())) (fun v1 v2 v3 v4 v5 v6 v7=>(⟨v1,v2,v4,v5,v3,v6,v7⟩:ab_)) false
noncomputable abbrev nH_:List (Nat×Cut K TyK (ab_)):=[(3,ct cod [1,2,10,11] [.c (.r 0 0), .c (.r 1 0), .c (.i .i64), .c (.i .i64)] [.x [.s, .i .i64, .o 2, .l true .parcel, .s, .l true .record, .l true .record], .x [.s, .i .i64, .o 3, .o 4, .s, .o 5, .o 6], .l .end, .l .end, .l .parcel, .l .record, .l .record] cr_)]
theorem hT_ (k:Nat):SummOk Try.prog cod 78 (gp_ k):=aE_ codOk Try.f78 (fun k=>ay_ [(58,cX_ k)]) nH_ false [.cell 2 60] 0 [] aF_ Try.func78 (by kernel_rfl) (by kernel_rfl) (by kernel_rfl) (by kernel_rfl)
  (fun k=>Known.of tok eok codOk (all_cons (c8_ k) (ac_)))
  (fun k=>QuietOk.of (all_cons (fun h r=>by cases h) (ac_)))
  (fun a=>rfl)
  (all_cons (ao_ codOk (by kernel_rfl) (by (repeat intro _);show _=_;kernel_rfl) (fun k=>by (repeat intro _);show _=_;kernel_rfl)) (ac_))
  (fun k=>by (repeat intro _);show _=_;kernel_rfl)
noncomputable def i7_ (k:Nat):a3_ K TyK:=sm cod (ak_×List Int) [.bo] [.g [.i .i64, .l true .item]] [] (fun k v1 v2=>gz_ k (⟨v1,v2⟩:ak_)) k [.g [.i .i64, .o 0], .c (.o 1)] [.l .item, .l .int] (fun r=>(r.1.Base,(),(),r.1.Items,r.2,())) (fun v1 v2 v3=>((⟨v1,v2⟩:ak_),v3)) false
noncomputable abbrev oi_:List (Nat×Cut K TyK (ak_×List Int)):=[(6,ct cod [2,4,5,6] [.c (.r 0 0), .c (.r 1 0), .c (.o 2), .c (.i .i64)] [.x [.i .i64, .o 3], .x [.i .i64, .o 4], .l .int, .l .item, .l .item] cL_),
  (7,ct cod [2,4,5,6] [.c (.r 0 0), .c (.r 1 0), .c (.o 2), .c (.i .i64)] [.x [.i .i64, .o 3], .x [.i .i64, .o 4], .l .int, .l .item, .l .item] cf_)]
theorem nn_ (k:Nat):SummOk Try.prog cod 96 (i7_ k):=aE_ codOk Try.f96 (fun k=>ay_ [(109,dI_ k),(126,ed_ k)]) oi_ false [.cell 2 37, .tmp 3] 0 [] aF_ Try.func96 (by kernel_rfl) (by kernel_rfl) (by kernel_rfl) (by kernel_rfl)
  (fun k=>Known.of tok eok codOk (all_cons (eA_ k) (all_cons (eZ_ k) (ac_))))
  (fun k=>QuietOk.of (all_cons (fun h r=>⟨rfl,rfl⟩) (all_cons (fun h r=>by cases h) (ac_))))
  (fun a=>rfl)
  (all_cons (ao_ codOk (by kernel_rfl) (by (repeat intro _);show _=_;kernel_rfl) (fun k=>by (repeat intro _);show _=_;kernel_rfl)) (all_cons (ao_ codOk (by kernel_rfl) (by (repeat intro _);show _=_;kernel_rfl) (fun k=>by (repeat intro _);show _=_;kernel_rfl)) (ac_)))
  (fun k=>by (repeat intro _);show _=_;kernel_rfl)
noncomputable def iV_ (k:Nat):a3_ K TyK:=sm cod (Int×Int) [.bo] [.g [.i .i64, .l true .held, .s, .l true .str]] [] (fun k v1 v2 v3 v4=>ep_ k (⟨v1,v2,v3,v4⟩:ai_)) k [.c (.i .i64), .c (.i .i64)] [] (fun r=>(r.1,r.2,())) (fun v1 v2=>(v1,v2)) true
noncomputable abbrev oq_:List (Nat×Cut K TyK (Int×Int)):=[(5,ct cod [1,4,11,12,13] [.c (.r 0 0), .c (.i .i64), .c (.l true .held), .c (.i .i64), .c (.i .i64)] [.x [.i .i64, .l true .held, .s, .l true .str]] cM_)]
theorem nK_ (k:Nat):SummOk Try.prog cod 97 (iV_ k):=aE_ codOk Try.f97 (fun k=>ay_ [(110,dF_ k)]) oq_ false [.tmp 2, .tmp 3] 0 [] aF_ Try.func97 (by kernel_rfl) (by kernel_rfl) (by kernel_rfl) (by kernel_rfl)
  (fun k=>Known.of tok eok codOk (all_cons (eC_ k) (ac_)))
  (fun k=>QuietOk.of (all_cons (fun h r=>⟨rfl,rfl⟩) (ac_)))
  (fun a=>rfl)
  (all_cons (ao_ codOk (by kernel_rfl) (by (repeat intro _);show _=_;kernel_rfl) (fun k=>by (repeat intro _);show _=_;kernel_rfl)) (ac_))
  (fun k=>by (repeat intro _);show _=_;kernel_rfl)
noncomputable def km_ (k:Nat):a3_ K TyK:=sm cod (aw_) [.bo] [.g [.i .i64, .b, .i .i64, .i .i64, .i .i64, .b, .i .i64, .l true .item, .i .i64, .l true .held, .s, .l true .str]] [] (fun k v1 v2 v3 v4 v5 v6 v7 v8 v9 v10 v11 v12=>hy_ k (⟨v1,v2,v3,v4,v5,v6,(⟨v7,v8⟩:ak_),(⟨v9,v10,v11,v12⟩:ai_)⟩:am_)) k [.g [.i .i64, .i .i64, .b, .i .i64, .i .i64, .i .i64, .b, .i .i64, .o 0, .i .i64, .o 1, .s, .o 2, .o 3, .s]] [.l .item, .l .held, .l .str, .l .packet] (fun r=>(r.Code,r.End.Number,r.End.Up,r.End.Life,r.End.Peer,r.End.Since,r.End.Owes,r.End.Send.Base,(),r.End.Take.Next,(),r.End.Take.Open,(),(),r.Text,r.End.Send.Items,r.End.Take.Held,r.End.Take.Ready,r.Out,())) (fun v1 v2 v3 v4 v5 v6 v7 v8 v9 v10 v11 v12 v13 v14 v15=>(⟨v1,(⟨v2,v3,v4,v5,v6,v7,(⟨v8,v12⟩:ak_),(⟨v9,v13,v10,v14⟩:ai_)⟩:am_),v15,v11⟩:aw_)) false
noncomputable abbrev qB_:List (Nat×Cut K TyK (aw_)):=[(9,ct cod [2,3,4] [.c (.r 0 0), .c (.r 1 0), .c (.r 1 1)] [.x [.i .i64, .i .i64, .b, .i .i64, .i .i64, .i .i64, .b, .i .i64, .o 2, .i .i64, .o 3, .s, .o 4, .o 5, .s], .x [.i .i64, .i .i64, .b, .i .i64, .i .i64, .i .i64, .b, .i .i64, .o 6, .i .i64, .o 7, .s, .o 8, .o 9, .s], .l .item, .l .held, .l .str, .l .packet, .l .item, .l .held, .l .str, .l .packet] d8_),
  (13,ct cod [2,3,4,53,54,55] [.c (.r 0 0), .c (.r 1 0), .c (.r 1 1), .c (.o 2), .c (.i .i64), .c (.i .i64)] [.x [.i .i64, .i .i64, .b, .i .i64, .i .i64, .i .i64, .b, .i .i64, .o 3, .i .i64, .o 4, .s, .o 5, .o 6, .s], .x [.i .i64, .i .i64, .b, .i .i64, .i .i64, .i .i64, .b, .i .i64, .o 7, .i .i64, .o 8, .s, .o 9, .o 10, .s], .l .int, .l .item, .l .held, .l .str, .l .packet, .l .item, .l .held, .l .str, .l .packet] cJ_),
  (18,ct cod [2,3,4] [.c (.r 0 0), .c (.r 1 0), .c (.r 1 1)] [.x [.i .i64, .i .i64, .b, .i .i64, .i .i64, .i .i64, .b, .i .i64, .o 2, .i .i64, .o 3, .s, .o 4, .o 5, .s], .x [.i .i64, .i .i64, .b, .i .i64, .i .i64, .i .i64, .b, .i .i64, .o 6, .i .i64, .o 7, .s, .o 8, .o 9, .s], .l .item, .l .held, .l .str, .l .packet, .l .item, .l .held, .l .str, .l .packet] dO_),
  (22,ct cod [2,3] [.c (.r 0 0), .c (.r 1 0)] [.x [.i .i64, .i .i64, .b, .i .i64, .i .i64, .i .i64, .b, .i .i64, .o 2, .i .i64, .o 3, .s, .o 4, .o 5, .s], .x [.i .i64, .i .i64, .b, .i .i64, .i .i64, .i .i64, .b, .i .i64, .o 6, .i .i64, .o 7, .s, .o 8, .o 9, .s], .l .item, .l .held, .l .str, .l .packet, .l .item, .l .held, .l .str, .l .packet] cc_)]
theorem op_ (k:Nat):SummOk Try.prog cod 38 (km_ k):=aE_ codOk Try.f38 (fun k=>ay_ [(46,bV_ k),(58,cX_ k),(96,i7_ k),(97,iV_ k)]) qB_ false [.cell 2 45] 0 [] aF_ Try.func38 (by kernel_rfl) (by kernel_rfl) (by kernel_rfl) (by kernel_rfl)
  (fun k=>Known.of tok eok codOk (all_cons (cd_ k) (all_cons (c8_ k) (all_cons (nn_ k) (all_cons (nK_ k) (ac_))))))
  (fun k=>QuietOk.of (all_cons (fun h r=>⟨rfl,rfl⟩) (all_cons (fun h r=>by cases h) (all_cons (fun h r=>by cases h) (all_cons (fun h r=>⟨rfl,rfl⟩) (ac_))))))
  (fun a=>rfl)
  (all_cons (ao_ codOk (by kernel_rfl) (by (repeat intro _);show _=_;kernel_rfl) (fun k=>by (repeat intro _);show _=_;kernel_rfl)) (all_cons (ao_ codOk (by kernel_rfl) (by (repeat intro _);show _=_;kernel_rfl) (fun k=>by (repeat intro _);show _=_;kernel_rfl)) (all_cons (ao_ codOk (by kernel_rfl) (by (repeat intro _);show _=_;kernel_rfl) (fun k=>by (repeat intro _);show _=_;kernel_rfl)) (all_cons (ao_ codOk (by kernel_rfl) (by (repeat intro _);show _=_;kernel_rfl) (fun k=>by (repeat intro _);show _=_;kernel_rfl)) (ac_)))))
  (fun k=>by (repeat intro _);show _=_;kernel_rfl)
noncomputable def fZ_ (k:Nat):a3_ K TyK:=sm cod (ab_) [.mv] [.c (.r 0 0)] [.x [.s, .i .i64, .o 1, .o 2, .s, .o 3, .o 4], .l .end, .l .parcel, .l .record, .l .record] (fun k v1 v2 v3 v4 v5 v6 v7=>ea_ k (⟨v1,v2,v4,v5,v3,v6,v7⟩:ab_)) k [] [.x [.s, .i .i64, .o 5, .o 6, .s, .o 7, .o 8], .d, .d, .d, .d, .l .end, .l .parcel, .l .record, .l .record] (fun r=>(r.Key,r.Width,(),(),r.Forged,(),(),r.Ends,r.Flight,r.Given,r.Taken,())) (fun v1 v2 v3 v4 v5 v6 v7=>(⟨v1,v2,v4,v5,v3,v6,v7⟩:ab_)) false
noncomputable abbrev l3_:List (Nat×Cut K TyK (ab_)):=[(1,ct cod [0,11,12] [.c (.r 0 0), .c (.i .i64), .c (.i .i64)] [.x [.s, .i .i64, .o 5, .o 6, .s, .o 7, .o 8], .d, .d, .d, .d, .l .end, .l .parcel, .l .record, .l .record] bm_),
  (6,ct cod [0,2,11,12,32,33,34] [.c (.r 0 0), .c (.i .i64), .c (.i .i64), .c (.i .i64), .c (.o 5), .c (.i .i64), .c (.i .i64)] [.x [.s, .i .i64, .o 6, .o 7, .s, .o 8, .o 9], .d, .d, .d, .d, .l .packet, .l .end, .l .parcel, .l .record, .l .record] b7_),
  (11,ct cod [0,2,11,12,32,33,34] [.c (.r 0 0), .c (.i .i64), .c (.i .i64), .c (.i .i64), .c (.o 5), .c (.i .i64), .c (.i .i64)] [.x [.s, .i .i64, .o 6, .o 7, .s, .o 8, .o 9], .d, .d, .d, .d, .l .packet, .l .end, .l .parcel, .l .record, .l .record] cv_)]
theorem hx_ (k:Nat):SummOk Try.prog cod 79 (fZ_ k):=aE_ codOk Try.f79 (fun k=>ay_ [(38,km_ k),(28,fF_ k)]) l3_ false [] 5 [false,true,true,true,true] aF_ Try.func79 (by kernel_rfl) (by kernel_rfl) (by kernel_rfl) (by kernel_rfl)
  (fun k=>Known.of tok eok codOk (all_cons (op_ k) (all_cons (hf_ k) (ac_))))
  (fun k=>QuietOk.of (all_cons (fun h r=>by cases h) (all_cons (fun h r=>⟨rfl,rfl⟩) (ac_))))
  (fun a=>rfl)
  (all_cons (ao_ codOk (by kernel_rfl) (by (repeat intro _);show _=_;kernel_rfl) (fun k=>by (repeat intro _);show _=_;kernel_rfl)) (all_cons (ao_ codOk (by kernel_rfl) (by (repeat intro _);show _=_;kernel_rfl) (fun k=>by (repeat intro _);show _=_;kernel_rfl)) (all_cons (ao_ codOk (by kernel_rfl) (by (repeat intro _);show _=_;kernel_rfl) (fun k=>by (repeat intro _);show _=_;kernel_rfl)) (ac_))))
  (fun k=>by (repeat intro _);show _=_;kernel_rfl)
noncomputable def q1_ (k:Nat):a3_ K TyK:=sm cod (Int) [.bo] [.c (.s)] [] (jI_) k [.c (.i .i64)] [] (fun r=>(r,())) (fun v1=>v1) true
noncomputable abbrev yv_:List (Nat×Cut K TyK (Int)):=[(3,ct cod [0,3,4] [.c (.s), .c (.i .i64), .c (.i .i64)] [] fW_)]
theorem vk_ (k:Nat):SummOk Try.prog cod 173 (q1_ k):=aE_ codOk Try.f173 (fun k=>ay_ []) yv_ false [.tmp 2] 0 [] aF_ Try.func173 (by kernel_rfl) (by kernel_rfl) (by kernel_rfl) (by kernel_rfl)
  (fun k=>Known.of tok eok codOk (ac_))
  (fun k=>QuietOk.of (ac_))
  (fun a=>rfl)
  (all_cons (ao_ codOk (by kernel_rfl) (by (repeat intro _);show _=_;kernel_rfl) (fun k=>by (repeat intro _);show _=_;kernel_rfl)) (ac_))
  (fun k=>by (repeat intro _);show _=_;kernel_rfl)
noncomputable def h7_ (k:Nat):a3_ K TyK:=sm cod (ae_×Bool) [.bo, .bo, .bo] [.c (.s), .c (.s), .c (.i .i64)] [] (fD_) k [.g [.i .i64, .i .i64, .i .i64, .i .i64, .i .i64, .i .i64, .i .i64, .b, .s], .c (.b)] [] (fun r=>(r.1.Kind,r.1.From,r.1.Mine,r.1.Yours,r.1.Next,r.1.Mask,r.1.Seq,r.1.Last,r.1.Part,r.2,())) (fun v1 v2 v3 v4 v5 v6 v7 v8 v9 v10=>((⟨v1,v2,v3,v4,v5,v6,v7,v8,v9⟩:ae_),v10)) true
noncomputable abbrev my_:List (Nat×Cut K TyK (ae_×Bool)):=[(10,ct cod [0,1,2,6,9] [.c (.s), .c (.s), .c (.i .i64), .c (.r 0 0), .c (.r 1 0)] [.x [.i .i64, .i .i64, .i .i64, .i .i64, .i .i64, .i .i64, .i .i64, .b, .s], .x [.i .i64, .i .i64, .i .i64, .i .i64, .i .i64, .i .i64, .i .i64, .b, .s]] bw_)]
theorem lI_ (k:Nat):SummOk Try.prog cod 149 (h7_ k):=aE_ codOk Try.f149 (fun k=>ay_ [(173,q1_ k),(59,dY_ k),(28,fF_ k)]) my_ false [.cell 6 48, .tmp 7] 0 [] aF_ Try.func149 (by kernel_rfl) (by kernel_rfl) (by kernel_rfl) (by kernel_rfl)
  (fun k=>Known.of tok eok codOk (all_cons (vk_ k) (all_cons (e3_ k) (all_cons (hf_ k) (ac_)))))
  (fun k=>QuietOk.of (all_cons (fun h r=>⟨rfl,rfl⟩) (all_cons (fun h r=>⟨rfl,rfl⟩) (all_cons (fun h r=>⟨rfl,rfl⟩) (ac_)))))
  (fun a=>rfl)
  (all_cons (ao_ codOk (by kernel_rfl) (by (repeat intro _);show _=_;kernel_rfl) (fun k=>by (repeat intro _);show _=_;kernel_rfl)) (ac_))
  (fun k=>by (repeat intro _);show _=_;kernel_rfl)
noncomputable def fw_ (k:Nat):a3_ K TyK:=sm cod (ab_) [.mv, .mv] [.c (.r 0 0), .g [.i .i64, .s, .s]] [.x [.s, .i .i64, .o 1, .o 2, .s, .o 3, .o 4], .l .end, .l .parcel, .l .record, .l .record] (fun k v1 v2 v3 v4 v5 v6 v7 v8 v9 v10=>cH_ k (⟨v4,v5,v7,v8,v6,v9,v10⟩:ab_) (⟨v1,v2,v3⟩:ad_)) k [] [.x [.s, .i .i64, .o 5, .o 6, .s, .o 7, .o 8], .d, .d, .d, .d, .l .end, .l .parcel, .l .record, .l .record] (fun r=>(r.Key,r.Width,(),(),r.Forged,(),(),r.Ends,r.Flight,r.Given,r.Taken,())) (fun v1 v2 v3 v4 v5 v6 v7=>(⟨v1,v2,v4,v5,v3,v6,v7⟩:ab_)) false
noncomputable abbrev ll_:List (Nat×Cut K TyK (ab_)):=[(5,ct cod [0,3,4] [.c (.r 0 0), .c (.r 5 0), .c (.r 6 0)] [.x [.s, .i .i64, .o 7, .o 8, .s, .o 9, .o 10], .d, .d, .d, .d, .x [.i .i64, .s, .s], .x [.i .i64, .i .i64, .i .i64, .i .i64, .i .i64, .i .i64, .i .i64, .b, .s], .l .end, .l .parcel, .l .record, .l .record] bN_)]
theorem g6_ (k:Nat):SummOk Try.prog cod 80 (fw_ k):=aE_ codOk Try.f80 (fun k=>ay_ [(149,h7_ k),(15,j8_ k)]) ll_ false [] 5 [false,true,true,true,true] aF_ Try.func80 (by kernel_rfl) (by kernel_rfl) (by kernel_rfl) (by kernel_rfl)
  (fun k=>Known.of tok eok codOk (all_cons (lI_ k) (all_cons (qe_ k) (ac_))))
  (fun k=>QuietOk.of (all_cons (fun h r=>⟨rfl,rfl⟩) (all_cons (fun h r=>by cases h) (ac_))))
  (fun a=>rfl)
  (all_cons (ao_ codOk (by kernel_rfl) (by (repeat intro _);show _=_;kernel_rfl) (fun k=>by (repeat intro _);show _=_;kernel_rfl)) (ac_))
  (fun k=>by (repeat intro _);show _=_;kernel_rfl)
noncomputable def ka_ (k:Nat):a3_ K TyK:=sm cod (am_) [.bo] [.g [.i .i64, .b, .i .i64, .i .i64, .i .i64, .b, .i .i64, .l true .item, .i .i64, .l true .held, .s, .l true .str]] [] (fun k v1 v2 v3 v4 v5 v6 v7 v8 v9 v10 v11 v12=>ho_ k (⟨v1,v2,v3,v4,v5,v6,(⟨v7,v8⟩:ak_),(⟨v9,v10,v11,v12⟩:ai_)⟩:am_)) k [.g [.i .i64, .b, .i .i64, .i .i64, .i .i64, .b, .i .i64, .o 0, .i .i64, .o 1, .s, .o 2]] [.l .item, .l .held, .l .str] (fun r=>(r.Number,r.Up,r.Life,r.Peer,r.Since,r.Owes,r.Send.Base,(),r.Take.Next,(),r.Take.Open,(),r.Send.Items,r.Take.Held,r.Take.Ready,())) (fun v1 v2 v3 v4 v5 v6 v7 v8 v9 v10 v11 v12=>(⟨v1,v2,v3,v4,v5,v6,(⟨v7,v10⟩:ak_),(⟨v8,v11,v9,v12⟩:ai_)⟩:am_)) false
theorem py_ (k:Nat):SummOk Try.prog cod 48 (ka_ k):=aE_ codOk Try.f48 (fun k=>ay_ [(46,bV_ k)]) [] false [.cell 2 42] 0 [] aF_ Try.func48 (by kernel_rfl) (by kernel_rfl) (by kernel_rfl) (by kernel_rfl)
  (fun k=>Known.of tok eok codOk (all_cons (cd_ k) (ac_)))
  (fun k=>QuietOk.of (all_cons (fun h r=>⟨rfl,rfl⟩) (ac_)))
  (fun a=>rfl)
  (ac_)
  (fun k=>by (repeat intro _);show _=_;kernel_rfl)
noncomputable def kb_ (k:Nat):a3_ K TyK:=sm cod (am_) [.bo] [.g [.i .i64, .b, .i .i64, .i .i64, .i .i64, .b, .i .i64, .l true .item, .i .i64, .l true .held, .s, .l true .str]] [] (fun k v1 v2 v3 v4 v5 v6 v7 v8 v9 v10 v11 v12=>hu_ k (⟨v1,v2,v3,v4,v5,v6,(⟨v7,v8⟩:ak_),(⟨v9,v10,v11,v12⟩:ai_)⟩:am_)) k [.g [.i .i64, .b, .i .i64, .i .i64, .i .i64, .b, .i .i64, .o 0, .i .i64, .o 1, .s, .o 2]] [.l .item, .l .held, .l .str] (fun r=>(r.Number,r.Up,r.Life,r.Peer,r.Since,r.Owes,r.Send.Base,(),r.Take.Next,(),r.Take.Open,(),r.Send.Items,r.Take.Held,r.Take.Ready,())) (fun v1 v2 v3 v4 v5 v6 v7 v8 v9 v10 v11 v12=>(⟨v1,v2,v3,v4,v5,v6,(⟨v7,v10⟩:ak_),(⟨v8,v11,v9,v12⟩:ai_)⟩:am_)) false
theorem oH_ (k:Nat):SummOk Try.prog cod 47 (kb_ k):=aE_ codOk Try.f47 (fun k=>ay_ [(46,bV_ k),(58,cX_ k)]) [] false [.cell 2 42] 0 [] aF_ Try.func47 (by kernel_rfl) (by kernel_rfl) (by kernel_rfl) (by kernel_rfl)
  (fun k=>Known.of tok eok codOk (all_cons (cd_ k) (all_cons (c8_ k) (ac_))))
  (fun k=>QuietOk.of (all_cons (fun h r=>⟨rfl,rfl⟩) (all_cons (fun h r=>by cases h) (ac_))))
  (fun a=>rfl)
  (ac_)
  (fun k=>by (repeat intro _);show _=_;kernel_rfl)
noncomputable def fI_ (k:Nat):a3_ K TyK:=sm cod (Bool×ab_) [.mv] [.c (.r 0 0)] [.x [.s, .i .i64, .o 1, .o 2, .s, .o 3, .o 4], .l .end, .l .parcel, .l .record, .l .record] (fun k v1 v2 v3 v4 v5 v6 v7=>ek_ k (⟨v1,v2,v4,v5,v3,v6,v7⟩:ab_)) k [.c (.b)] [.x [.s, .i .i64, .o 5, .o 6, .s, .o 7, .o 8], .d, .d, .d, .d, .l .end, .l .parcel, .l .record, .l .record] (fun r=>(r.1,r.2.Key,r.2.Width,(),(),r.2.Forged,(),(),r.2.Ends,r.2.Flight,r.2.Given,r.2.Taken,())) (fun v1 v2 v3 v4 v5 v6 v7 v8=>(v1,(⟨v2,v3,v5,v6,v4,v7,v8⟩:ab_))) false
theorem hd_ (k:Nat):SummOk Try.prog cod 81 (fI_ k):=aE_ codOk Try.f81 (fun k=>ay_ []) [] false [.tmp 2] 5 [false,true,true,true,true] aF_ Try.func81 (by kernel_rfl) (by kernel_rfl) (by kernel_rfl) (by kernel_rfl)
  (fun k=>Known.of tok eok codOk (ac_))
  (fun k=>QuietOk.of (ac_))
  (fun a=>rfl)
  (ac_)
  (fun k=>by (repeat intro _);show _=_;kernel_rfl)
noncomputable def ri_ (k:Nat):a3_ K TyK:=sm cod (List az_) [.bo] [.c (.s)] [] (lH_) k [.c (.o 0)] [.l .part] (fun r=>((),r,())) (fun v1=>v1) false
noncomputable abbrev xV_:List (Nat×Cut K TyK (List az_)):=[(4,ct cod [0,3] [.c (.s), .c (.o 0)] [.l .part] gY_)]
theorem vY_ (k:Nat):SummOk Try.prog cod 155 (ri_ k):=aE_ codOk Try.f155 (fun k=>ay_ []) xV_ false [.tmp 2] 0 [] aF_ Try.func155 (by kernel_rfl) (by kernel_rfl) (by kernel_rfl) (by kernel_rfl)
  (fun k=>Known.of tok eok codOk (ac_))
  (fun k=>QuietOk.of (ac_))
  (fun a=>rfl)
  (all_cons (ao_ codOk (by kernel_rfl) (by (repeat intro _);show _=_;kernel_rfl) (fun k=>by (repeat intro _);show _=_;kernel_rfl)) (ac_))
  (fun k=>by (repeat intro _);show _=_;kernel_rfl)
noncomputable def jh_ (k:Nat):a3_ K TyK:=sm cod (ak_×Int) [.bo, .bo] [.g [.i .i64, .l true .item], .c (.s)] [] (fun k v1 v2 v3=>gB_ k (⟨v1,v2⟩:ak_) v3) k [.g [.i .i64, .o 0], .c (.i .i64)] [.l .item] (fun r=>(r.1.Base,(),r.2,r.1.Items,())) (fun v1 v2 v3=>((⟨v1,v3⟩:ak_),v2)) false
noncomputable abbrev oR_:List (Nat×Cut K TyK (ak_×Int)):=[(9,ct cod [4,8,40,41,42] [.c (.r 0 0), .c (.r 1 0), .c (.o 2), .c (.i .i64), .c (.i .i64)] [.x [.i .i64, .o 3], .x [.i .i64, .o 4], .l .part, .l .item, .l .item] cP_)]
theorem nm_ (k:Nat):SummOk Try.prog cod 98 (jh_ k):=aE_ codOk Try.f98 (fun k=>ay_ [(109,dI_ k),(155,ri_ k),(126,ed_ k)]) oR_ false [.cell 4 37, .tmp 5] 0 [] aF_ Try.func98 (by kernel_rfl) (by kernel_rfl) (by kernel_rfl) (by kernel_rfl)
  (fun k=>Known.of tok eok codOk (all_cons (eA_ k) (all_cons (vY_ k) (all_cons (eZ_ k) (ac_)))))
  (fun k=>QuietOk.of (all_cons (fun h r=>⟨rfl,rfl⟩) (all_cons (fun h r=>by cases h) (all_cons (fun h r=>by cases h) (ac_)))))
  (fun a=>rfl)
  (all_cons (ao_ codOk (by kernel_rfl) (by (repeat intro _);show _=_;kernel_rfl) (fun k=>by (repeat intro _);show _=_;kernel_rfl)) (ac_))
  (fun k=>by (repeat intro _);show _=_;kernel_rfl)
noncomputable def ko_ (k:Nat):a3_ K TyK:=sm cod (aw_) [.bo, .bo] [.g [.i .i64, .b, .i .i64, .i .i64, .i .i64, .b, .i .i64, .l true .item, .i .i64, .l true .held, .s, .l true .str], .c (.s)] [] (fun k v1 v2 v3 v4 v5 v6 v7 v8 v9 v10 v11 v12 v13=>gh_ k (⟨v1,v2,v3,v4,v5,v6,(⟨v7,v8⟩:ak_),(⟨v9,v10,v11,v12⟩:ai_)⟩:am_) v13) k [.g [.i .i64, .i .i64, .b, .i .i64, .i .i64, .i .i64, .b, .i .i64, .o 0, .i .i64, .o 1, .s, .o 2, .o 3, .s]] [.l .item, .l .held, .l .str, .l .packet] (fun r=>(r.Code,r.End.Number,r.End.Up,r.End.Life,r.End.Peer,r.End.Since,r.End.Owes,r.End.Send.Base,(),r.End.Take.Next,(),r.End.Take.Open,(),(),r.Text,r.End.Send.Items,r.End.Take.Held,r.End.Take.Ready,r.Out,())) (fun v1 v2 v3 v4 v5 v6 v7 v8 v9 v10 v11 v12 v13 v14 v15=>(⟨v1,(⟨v2,v3,v4,v5,v6,v7,(⟨v8,v12⟩:ak_),(⟨v9,v13,v10,v14⟩:ai_)⟩:am_),v15,v11⟩:aw_)) false
theorem oX_ (k:Nat):SummOk Try.prog cod 39 (ko_ k):=aE_ codOk Try.f39 (fun k=>ay_ [(46,bV_ k),(98,jh_ k),(58,cX_ k)]) [] false [.cell 4 45] 0 [] aF_ Try.func39 (by kernel_rfl) (by kernel_rfl) (by kernel_rfl) (by kernel_rfl)
  (fun k=>Known.of tok eok codOk (all_cons (cd_ k) (all_cons (nm_ k) (all_cons (c8_ k) (ac_)))))
  (fun k=>QuietOk.of (all_cons (fun h r=>⟨rfl,rfl⟩) (all_cons (fun h r=>by cases h) (all_cons (fun h r=>by cases h) (ac_)))))
  (fun a=>rfl)
  (ac_)
  (fun k=>by (repeat intro _);show _=_;kernel_rfl)
noncomputable def jc_ (k:Nat):a3_ K TyK:=sm cod (ai_×ByteArray×Bool) [.bo] [.g [.i .i64, .l true .held, .s, .l true .str]] [] (fun k v1 v2 v3 v4=>gH_ k (⟨v1,v2,v3,v4⟩:ai_)) k [.g [.i .i64, .o 0, .s, .o 1], .c (.s), .c (.b)] [.l .held, .l .str] (fun r=>(r.1.Next,(),r.1.Open,(),r.2.1,r.2.2,r.1.Held,r.1.Ready,())) (fun v1 v2 v3 v4 v5 v6=>((⟨v1,v5,v2,v6⟩:ai_),v3,v4)) false
theorem nk_ (k:Nat):SummOk Try.prog cod 99 (jc_ k):=aE_ codOk Try.f99 (fun k=>ay_ [(110,dF_ k),(127,fC_ k),(128,kR_ k)]) [] false [.cell 2 40, .tmp 3, .tmp 4] 0 [] aF_ Try.func99 (by kernel_rfl) (by kernel_rfl) (by kernel_rfl) (by kernel_rfl)
  (fun k=>Known.of tok eok codOk (all_cons (eC_ k) (all_cons (gn_ k) (all_cons (m1_ k) (ac_)))))
  (fun k=>QuietOk.of (all_cons (fun h r=>⟨rfl,rfl⟩) (all_cons (fun h r=>by cases h) (all_cons (fun h r=>by cases h) (ac_)))))
  (fun a=>rfl)
  (ac_)
  (fun k=>by (repeat intro _);show _=_;kernel_rfl)
noncomputable def kt_ (k:Nat):a3_ K TyK:=sm cod (aw_) [.bo] [.g [.i .i64, .b, .i .i64, .i .i64, .i .i64, .b, .i .i64, .l true .item, .i .i64, .l true .held, .s, .l true .str]] [] (fun k v1 v2 v3 v4 v5 v6 v7 v8 v9 v10 v11 v12=>hA_ k (⟨v1,v2,v3,v4,v5,v6,(⟨v7,v8⟩:ak_),(⟨v9,v10,v11,v12⟩:ai_)⟩:am_)) k [.g [.i .i64, .i .i64, .b, .i .i64, .i .i64, .i .i64, .b, .i .i64, .o 0, .i .i64, .o 1, .s, .o 2, .o 3, .s]] [.l .item, .l .held, .l .str, .l .packet] (fun r=>(r.Code,r.End.Number,r.End.Up,r.End.Life,r.End.Peer,r.End.Since,r.End.Owes,r.End.Send.Base,(),r.End.Take.Next,(),r.End.Take.Open,(),(),r.Text,r.End.Send.Items,r.End.Take.Held,r.End.Take.Ready,r.Out,())) (fun v1 v2 v3 v4 v5 v6 v7 v8 v9 v10 v11 v12 v13 v14 v15=>(⟨v1,(⟨v2,v3,v4,v5,v6,v7,(⟨v8,v12⟩:ak_),(⟨v9,v13,v10,v14⟩:ai_)⟩:am_),v15,v11⟩:aw_)) false
theorem ps_ (k:Nat):SummOk Try.prog cod 40 (kt_ k):=aE_ codOk Try.f40 (fun k=>ay_ [(46,bV_ k),(99,jc_ k),(58,cX_ k)]) [] false [.cell 2 45] 0 [] aF_ Try.func40 (by kernel_rfl) (by kernel_rfl) (by kernel_rfl) (by kernel_rfl)
  (fun k=>Known.of tok eok codOk (all_cons (cd_ k) (all_cons (nk_ k) (all_cons (c8_ k) (ac_)))))
  (fun k=>QuietOk.of (all_cons (fun h r=>⟨rfl,rfl⟩) (all_cons (fun h r=>by cases h) (all_cons (fun h r=>by cases h) (ac_)))))
  (fun a=>rfl)
  (ac_)
  (fun k=>by (repeat intro _);show _=_;kernel_rfl)
noncomputable def fM_ (k:Nat):a3_ K TyK:=sm cod (ab_) [.mv, .mv] [.c (.r 0 0), .c (.i .i64)] [.x [.s, .i .i64, .o 1, .o 2, .s, .o 3, .o 4], .l .end, .l .parcel, .l .record, .l .record] (fun k v1 v2 v3 v4 v5 v6 v7 v8=>d4_ k (⟨v2,v3,v5,v6,v4,v7,v8⟩:ab_) v1) k [] [.x [.s, .i .i64, .o 5, .o 6, .s, .o 7, .o 8], .d, .d, .d, .d, .l .end, .l .parcel, .l .record, .l .record] (fun r=>(r.Key,r.Width,(),(),r.Forged,(),(),r.Ends,r.Flight,r.Given,r.Taken,())) (fun v1 v2 v3 v4 v5 v6 v7=>(⟨v1,v2,v4,v5,v3,v6,v7⟩:ab_)) false
theorem hw_ (k:Nat):SummOk Try.prog cod 82 (fM_ k):=aE_ codOk Try.f82 (fun k=>ay_ [(81,fI_ k),(40,kt_ k)]) [] false [] 5 [false,true,true,true,true] aF_ Try.func82 (by kernel_rfl) (by kernel_rfl) (by kernel_rfl) (by kernel_rfl)
  (fun k=>Known.of tok eok codOk (all_cons (hd_ k) (all_cons (ps_ k) (ac_))))
  (fun k=>QuietOk.of (all_cons (fun h r=>by cases h) (all_cons (fun h r=>by cases h) (ac_))))
  (fun a=>rfl)
  (ac_)
  (fun k=>by (repeat intro _);show _=_;kernel_rfl)
noncomputable def uK_ (k:Nat):a3_ K TyK:=sm cod (ab_) [.bo, .bo] [.g [.s, .i .i64, .l true .end, .l true .parcel, .s, .l true .record, .l true .record], .g [.i .i64, .i .i64, .i .i64, .i .i64, .s]] [] (fun k v1 v2 v3 v4 v5 v6 v7 v8 v9 v10 v11 v12=>pN_ k (⟨v1,v2,v3,v4,v5,v6,v7⟩:ab_) (⟨v8,v9,v10,v11,v12⟩:aT_)) k [.g [.s, .i .i64, .o 0, .o 1, .s, .o 2, .o 3]] [.l .end, .l .parcel, .l .record, .l .record] (fun r=>(r.Key,r.Width,(),(),r.Forged,(),(),r.Ends,r.Flight,r.Given,r.Taken,())) (fun v1 v2 v3 v4 v5 v6 v7=>(⟨v1,v2,v4,v5,v3,v6,v7⟩:ab_)) false
noncomputable abbrev zC_:List (Nat×Cut K TyK (ab_)):=[(5,ct cod [3,4,5,6] [.c (.r 0 0), .c (.r 1 0), .c (.r 2 0), .c (.b)] [.x [.i .i64, .i .i64, .i .i64, .i .i64, .s], .x [.s, .i .i64, .o 3, .o 4, .s, .o 5, .o 6], .x [.s, .i .i64, .o 7, .o 8, .s, .o 9, .o 10], .l .end, .l .parcel, .l .record, .l .record, .l .end, .l .parcel, .l .record, .l .record] h0_),
  (6,ct cod [3,4,5,6,7] [.c (.r 0 0), .c (.r 1 0), .c (.r 2 0), .c (.b), .c (.b)] [.x [.i .i64, .i .i64, .i .i64, .i .i64, .s], .x [.s, .i .i64, .o 3, .o 4, .s, .o 5, .o 6], .x [.s, .i .i64, .o 7, .o 8, .s, .o 9, .o 10], .l .end, .l .parcel, .l .record, .l .record, .l .end, .l .parcel, .l .record, .l .record] h2_),
  (45,ct cod [4,5] [.c (.r 0 0), .c (.r 1 0)] [.x [.s, .i .i64, .o 2, .o 3, .s, .o 4, .o 5], .x [.s, .i .i64, .o 6, .o 7, .s, .o 8, .o 9], .l .end, .l .parcel, .l .record, .l .record, .l .end, .l .parcel, .l .record, .l .record] ar_),
  (11,ct cod [3,4,5,7] [.c (.r 0 0), .c (.r 1 0), .c (.r 2 0), .c (.b)] [.x [.i .i64, .i .i64, .i .i64, .i .i64, .s], .x [.s, .i .i64, .o 3, .o 4, .s, .o 5, .o 6], .x [.s, .i .i64, .o 7, .o 8, .s, .o 9, .o 10], .l .end, .l .parcel, .l .record, .l .record, .l .end, .l .parcel, .l .record, .l .record] gQ_),
  (16,ct cod [3,4,5,6,7,37] [.c (.r 0 0), .c (.r 1 0), .c (.r 2 0), .c (.b), .c (.b), .c (.i .i64)] [.x [.i .i64, .i .i64, .i .i64, .i .i64, .s], .x [.s, .i .i64, .o 3, .o 4, .s, .o 5, .o 6], .x [.s, .i .i64, .o 7, .o 8, .s, .o 9, .o 10], .l .end, .l .parcel, .l .record, .l .record, .l .end, .l .parcel, .l .record, .l .record] iA_)]
theorem xG_ (k:Nat):SummOk Try.prog cod 29 (uK_ k):=aE_ codOk Try.f29 (fun k=>ay_ [(27,cs_ k),(78,gp_ k),(79,fZ_ k),(80,fw_ k),(48,ka_ k),(47,kb_ k),(81,fI_ k),(39,ko_ k),(82,fM_ k)]) zC_ false [.cell 4 60] 0 [] aF_ Try.func29 (by kernel_rfl) (by kernel_rfl) (by kernel_rfl) (by kernel_rfl)
  (fun k=>Known.of tok eok codOk (all_cons (cU_ k) (all_cons (hT_ k) (all_cons (hx_ k) (all_cons (g6_ k) (all_cons (py_ k) (all_cons (oH_ k) (all_cons (hd_ k) (all_cons (oX_ k) (all_cons (hw_ k) (ac_)))))))))))
  (fun k=>QuietOk.of (all_cons (fun h r=>⟨rfl,rfl⟩) (all_cons (fun h r=>by cases h) (all_cons (fun h r=>by cases h) (all_cons (fun h r=>by cases h) (all_cons (fun h r=>by cases h) (all_cons (fun h r=>by cases h) (all_cons (fun h r=>by cases h) (all_cons (fun h r=>by cases h) (all_cons (fun h r=>by cases h) (ac_)))))))))))
  (fun a=>rfl)
  (all_cons (ao_ codOk (by kernel_rfl) (by (repeat intro _);show _=_;kernel_rfl) (fun k=>by (repeat intro _);show _=_;kernel_rfl)) (all_cons (ao_ codOk (by kernel_rfl) (by (repeat intro _);show _=_;kernel_rfl) (fun k=>by (repeat intro _);show _=_;kernel_rfl)) (all_cons (ao_ codOk (by kernel_rfl) (by (repeat intro _);show _=_;kernel_rfl) (fun k=>by (repeat intro _);show _=_;kernel_rfl)) (all_cons (ao_ codOk (by kernel_rfl) (by (repeat intro _);show _=_;kernel_rfl) (fun k=>by (repeat intro _);show _=_;kernel_rfl)) (all_cons (ao_ codOk (by kernel_rfl) (by (repeat intro _);show _=_;kernel_rfl) (fun k=>by (repeat intro _);show _=_;kernel_rfl)) (ac_))))))
  (fun k=>by (repeat intro _);show _=_;kernel_rfl)
noncomputable def le_ (k:Nat):a3_ K TyK:=sm cod (Bool) [.bo, .bo] [.c (.l true .str), .c (.l true .str)] [] (ih_) k [.c (.b)] [] (fun r=>(r,())) (fun v1=>v1) true
noncomputable abbrev rP_:List (Nat×Cut K TyK (Bool)):=[(4,ct cod [0,1,5] [.c (.l true .str), .c (.l true .str), .c (.i .i64)] [] dS_)]
theorem qO_ (k:Nat):SummOk Try.prog cod 113 (le_ k):=aE_ codOk Try.f113 (fun k=>ay_ []) rP_ false [.tmp 4] 0 [] aF_ Try.func113 (by kernel_rfl) (by kernel_rfl) (by kernel_rfl) (by kernel_rfl)
  (fun k=>Known.of tok eok codOk (ac_))
  (fun k=>QuietOk.of (ac_))
  (fun a=>rfl)
  (all_cons (ao_ codOk (by kernel_rfl) (by (repeat intro _);show _=_;kernel_rfl) (fun k=>by (repeat intro _);show _=_;kernel_rfl)) (ac_))
  (fun k=>by (repeat intro _);show _=_;kernel_rfl)
noncomputable def pJ_ (k:Nat):a3_ K TyK:=sm cod (ab_) [.bo, .bo, .bo] [.g [.s, .i .i64, .l true .end, .l true .parcel, .s, .l true .record, .l true .record], .c (.i .i64), .c (.i .i64)] [] (fun k v1 v2 v3 v4 v5 v6 v7 v8 v9=>lz_ k (⟨v1,v2,v3,v4,v5,v6,v7⟩:ab_) v8 v9) k [.g [.s, .i .i64, .o 0, .o 1, .s, .o 2, .o 3]] [.l .end, .l .parcel, .l .record, .l .record] (fun r=>(r.Key,r.Width,(),(),r.Forged,(),(),r.Ends,r.Flight,r.Given,r.Taken,())) (fun v1 v2 v3 v4 v5 v6 v7=>(⟨v1,v2,v4,v5,v3,v6,v7⟩:ab_)) false
noncomputable abbrev vV_:List (Nat×Cut K TyK (ab_)):=[(7,ct cod [1,2,6,7,8] [.c (.i .i64), .c (.i .i64), .c (.r 0 0), .c (.r 1 0), .c (.m 2)] [.x [.s, .i .i64, .o 3, .o 4, .s, .o 5, .o 6], .x [.s, .i .i64, .o 7, .o 8, .s, .o 9, .o 10], .m .key .int, .l .end, .l .parcel, .l .record, .l .record, .l .end, .l .parcel, .l .record, .l .record] do_),
  (13,ct cod [1,2,6,7,8,40,41,42] [.c (.i .i64), .c (.i .i64), .c (.r 0 0), .c (.r 1 0), .c (.m 2), .c (.o 3), .c (.i .i64), .c (.i .i64)] [.x [.s, .i .i64, .o 4, .o 5, .s, .o 6, .o 7], .x [.s, .i .i64, .o 8, .o 9, .s, .o 10, .o 11], .m .key .int, .l .parcel, .l .end, .l .parcel, .l .record, .l .record, .l .end, .l .parcel, .l .record, .l .record] ds_),
  (17,ct cod [1,2,6,7,8,11,12,40,41,42] [.c (.i .i64), .c (.i .i64), .c (.r 0 0), .c (.r 1 0), .c (.m 2), .c (.r 3 0), .c (.r 4 0), .c (.o 5), .c (.i .i64), .c (.i .i64)] [.x [.s, .i .i64, .o 6, .o 7, .s, .o 8, .o 9], .x [.s, .i .i64, .o 10, .o 11, .s, .o 12, .o 13], .m .key .int, .x [.i .i64, .s, .s], .x [.i .i64, .s], .l .parcel, .l .end, .l .parcel, .l .record, .l .record, .l .end, .l .parcel, .l .record, .l .record] bu_),
  (21,ct cod [1,2,6,7,8,13] [.c (.i .i64), .c (.i .i64), .c (.r 0 0), .c (.r 1 0), .c (.m 2), .c (.i .i64)] [.x [.s, .i .i64, .o 3, .o 4, .s, .o 5, .o 6], .x [.s, .i .i64, .o 7, .o 8, .s, .o 9, .o 10], .m .key .int, .l .end, .l .parcel, .l .record, .l .record, .l .end, .l .parcel, .l .record, .l .record] cl_),
  (19,ct cod [1,2,6,7,8,40,41,42] [.c (.i .i64), .c (.i .i64), .c (.r 0 0), .c (.r 1 0), .c (.m 2), .c (.o 3), .c (.i .i64), .c (.i .i64)] [.x [.s, .i .i64, .o 4, .o 5, .s, .o 6, .o 7], .x [.s, .i .i64, .o 8, .o 9, .s, .o 10, .o 11], .m .key .int, .l .parcel, .l .end, .l .parcel, .l .record, .l .record, .l .end, .l .parcel, .l .record, .l .record] dx_),
  (24,ct cod [1,2,6,7,8,13,14] [.c (.i .i64), .c (.i .i64), .c (.r 0 0), .c (.r 1 0), .c (.m 2), .c (.i .i64), .c (.i .i64)] [.x [.s, .i .i64, .o 3, .o 4, .s, .o 5, .o 6], .x [.s, .i .i64, .o 7, .o 8, .s, .o 9, .o 10], .m .key .int, .l .end, .l .parcel, .l .record, .l .record, .l .end, .l .parcel, .l .record, .l .record] ew_)]
theorem tU_ (k:Nat):SummOk Try.prog cod 35 (pJ_ k):=aE_ codOk Try.f35 (fun k=>ay_ [(27,cs_ k),(78,gp_ k),(79,fZ_ k),(80,fw_ k),(82,fM_ k)]) vV_ false [.cell 6 60] 0 [] aF_ Try.func35 (by kernel_rfl) (by kernel_rfl) (by kernel_rfl) (by kernel_rfl)
  (fun k=>Known.of tok eok codOk (all_cons (cU_ k) (all_cons (hT_ k) (all_cons (hx_ k) (all_cons (g6_ k) (all_cons (hw_ k) (ac_)))))))
  (fun k=>QuietOk.of (all_cons (fun h r=>⟨rfl,rfl⟩) (all_cons (fun h r=>by cases h) (all_cons (fun h r=>by cases h) (all_cons (fun h r=>by cases h) (all_cons (fun h r=>by cases h) (ac_)))))))
  (fun a=>rfl)
  (all_cons (ao_ codOk (by kernel_rfl) (by (repeat intro _);show _=_;kernel_rfl) (fun k=>by (repeat intro _);show _=_;kernel_rfl)) (all_cons (ao_ codOk (by kernel_rfl) (by (repeat intro _);show _=_;kernel_rfl) (fun k=>by (repeat intro _);show _=_;kernel_rfl)) (all_cons (ao_ codOk (by kernel_rfl) (by (repeat intro _);show _=_;kernel_rfl) (fun k=>by (repeat intro _);show _=_;kernel_rfl)) (all_cons (ao_ codOk (by kernel_rfl) (by (repeat intro _);show _=_;kernel_rfl) (fun k=>by (repeat intro _);show _=_;kernel_rfl)) (all_cons (ao_ codOk (by kernel_rfl) (by (repeat intro _);show _=_;kernel_rfl) (fun k=>by (repeat intro _);show _=_;kernel_rfl)) (all_cons (ao_ codOk (by kernel_rfl) (by (repeat intro _);show _=_;kernel_rfl) (fun k=>by (repeat intro _);show _=_;kernel_rfl)) (ac_)))))))
  (fun k=>by (repeat intro _);show _=_;kernel_rfl)
noncomputable def mT_ (k:Nat):a3_ K TyK:=sm cod (List ByteArray) [.bo, .bo, .bo, .bo] [.c (.l true .record), .c (.i .i64), .c (.i .i64), .c (.i .i64)] [] (hO_) k [.c (.o 0)] [.l .str] (fun r=>((),r,())) (fun v1=>v1) false
noncomputable abbrev s6_:List (Nat×Cut K TyK (List ByteArray)):=[(3,ct cod [0,1,2,3,9,10] [.c (.l true .record), .c (.i .i64), .c (.i .i64), .c (.i .i64), .c (.o 0), .c (.i .i64)] [.l .str] ex_),
  (4,ct cod [0,1,2,3,9,10] [.c (.l true .record), .c (.i .i64), .c (.i .i64), .c (.i .i64), .c (.o 0), .c (.i .i64)] [.l .str] dv_)]
theorem r2_ (k:Nat):SummOk Try.prog cod 114 (mT_ k):=aE_ codOk Try.f114 (fun k=>ay_ []) s6_ false [.tmp 8] 0 [] aF_ Try.func114 (by kernel_rfl) (by kernel_rfl) (by kernel_rfl) (by kernel_rfl)
  (fun k=>Known.of tok eok codOk (ac_))
  (fun k=>QuietOk.of (ac_))
  (fun a=>rfl)
  (all_cons (ao_ codOk (by kernel_rfl) (by (repeat intro _);show _=_;kernel_rfl) (fun k=>by (repeat intro _);show _=_;kernel_rfl)) (all_cons (ao_ codOk (by kernel_rfl) (by (repeat intro _);show _=_;kernel_rfl) (fun k=>by (repeat intro _);show _=_;kernel_rfl)) (ac_)))
  (fun k=>by (repeat intro _);show _=_;kernel_rfl)
noncomputable def mL_ (k:Nat):a3_ K TyK:=sm cod (Bool) [.bo, .bo] [.g [.s, .i .i64, .l true .end, .l true .parcel, .s, .l true .record, .l true .record], .c (.i .i64)] [] (fun k v1 v2 v3 v4 v5 v6 v7 v8=>jN_ k (⟨v1,v2,v3,v4,v5,v6,v7⟩:ab_) v8) k [.c (.b)] [] (fun r=>(r,())) (fun v1=>v1) true
noncomputable abbrev ui_:List (Nat×Cut K TyK (Bool)):=[(9,ct cod [1,2,6] [.c (.i .i64), .c (.r 0 0), .c (.i .i64)] [.x [.s, .i .i64, .l true .end, .l true .parcel, .s, .l true .record, .l true .record]] fl_),
  (15,ct cod [7,8] [.c (.r 0 0), .c (.i .i64)] [.x [.s, .i .i64, .o 1, .o 2, .s, .o 3, .o 4], .l .end, .l .parcel, .l .record, .l .record] cm_)]
theorem sG_ (k:Nat):SummOk Try.prog cod 49 (mL_ k):=aE_ codOk Try.f49 (fun k=>ay_ [(34,eq_ k),(35,pJ_ k),(24,pw_ k),(22,m3_ k),(23,mJ_ k),(114,mT_ k),(113,le_ k)]) ui_ false [.tmp 4] 0 [] aF_ Try.func49 (by kernel_rfl) (by kernel_rfl) (by kernel_rfl) (by kernel_rfl)
  (fun k=>Known.of tok eok codOk (all_cons (fy_ k) (all_cons (tU_ k) (all_cons (s4_ k) (all_cons (r1_ k) (all_cons (rS_ k) (all_cons (r2_ k) (all_cons (qO_ k) (ac_)))))))))
  (fun k=>QuietOk.of (all_cons (fun h r=>⟨rfl,rfl⟩) (all_cons (fun h r=>by cases h) (all_cons (fun h r=>⟨rfl,rfl⟩) (all_cons (fun h r=>⟨rfl,rfl⟩) (all_cons (fun h r=>⟨rfl,rfl⟩) (all_cons (fun h r=>by cases h) (all_cons (fun h r=>⟨rfl,rfl⟩) (ac_)))))))))
  (fun a=>rfl)
  (all_cons (ao_ codOk (by kernel_rfl) (by (repeat intro _);show _=_;kernel_rfl) (fun k=>by (repeat intro _);show _=_;kernel_rfl)) (all_cons (ao_ codOk (by kernel_rfl) (by (repeat intro _);show _=_;kernel_rfl) (fun k=>by (repeat intro _);show _=_;kernel_rfl)) (ac_)))
  (fun k=>by (repeat intro _);show _=_;kernel_rfl)
noncomputable def rT_ (k:Nat):a3_ K TyK:=sm cod (Bool) [.pe] [.c (.l false .byte)] [] (kB_) k [.c (.b)] [] (fun r=>(r,())) (fun v1=>v1) true
theorem ok_laws_FnLive (k:Nat):SummOk Try.prog cod 9 (rT_ k):=aE_ codOk Try.f9 (fun k=>ay_ [(26,hD_ k),(27,cs_ k),(29,uK_ k),(49,mL_ k)]) [] false [.tmp 2] 0 [] aF_ Try.func9 (by kernel_rfl) (by kernel_rfl) (by kernel_rfl) (by kernel_rfl)
  (fun k=>Known.of tok eok codOk (all_cons (kQ_ k) (all_cons (cU_ k) (all_cons (xG_ k) (all_cons (sG_ k) (ac_))))))
  (fun k=>QuietOk.of (all_cons (fun h r=>by cases h) (all_cons (fun h r=>⟨rfl,rfl⟩) (all_cons (fun h r=>by cases h) (all_cons (fun h r=>⟨rfl,rfl⟩) (ac_))))))
  (fun a=>rfl)
  (ac_)
  (fun k=>by (repeat intro _);show _=_;kernel_rfl)
end Km.X
