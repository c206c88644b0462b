/- A part of the proof of FnApart: each function does what its reading says. There is no condition. -/
import Derived.Test.YtnhnpggoknepfaaKmSeat
import Derived.Test.YtnhnpggoknepfaaKxDef2
namespace Km.X
open Go Km Go.Proofs
set_option linter.unusedVariables false
set_option maxRecDepth 100000
set_option maxHeartbeats 4000000
noncomputable def bj_ (k:Nat):a5_ K TyK:=sm cod (Bool) [.bo, .bo, .bo] [.c (.i .i64), .c (.i .i64), .c (.i .i64)] [] (ay_) k [.c (.b)] [] (fun r=>(r,())) (fun v1=>v1) true
theorem a6_ (k:Nat):SummOk Try.prog cod 89 (bj_ k):=aG_ codOk Try.f89 (fun k=>aA_ []) [] false [.tmp 6] 0 [] aF_ Try.func89 (by kernel_rfl) (by kernel_rfl) (by kernel_rfl) (by kernel_rfl)
  (fun k=>Known.of tok eok codOk (ac_))
  (fun k=>QuietOk.of (ac_))
  (fun a=>rfl)
  (ac_)
  (fun k=>by (repeat intro _);show _=_;kernel_rfl)
noncomputable def dF_ (k:Nat):a5_ K TyK:=sm cod (Bool) [.bo] [.g [.i .i64, .l true .item]] [] (fun k v1 v2=>bF_ k (⟨v1,v2⟩:ak_)) k [.c (.b)] [] (fun r=>(r,())) (fun v1=>v1) true
noncomputable abbrev nM_:List (Nat×Cut K TyK (Bool)):=[(4,ct cod [1,3] [.c (.r 0 0), .c (.i .i64)] [.x [.i .i64, .l true .item]] aM_)]
theorem ey_ (k:Nat):SummOk Try.prog cod 105 (dF_ k):=aG_ codOk Try.f105 (fun k=>aA_ [(89,bj_ k)]) nM_ false [.tmp 2] 0 [] aF_ Try.func105 (by kernel_rfl) (by kernel_rfl) (by kernel_rfl) (by kernel_rfl)
  (fun k=>Known.of tok eok codOk (all_cons (a6_ k) (ac_)))
  (fun k=>QuietOk.of (all_cons (fun h r=>⟨rfl,rfl⟩) (ac_)))
  (fun a=>rfl)
  (all_cons (ap_ codOk (by kernel_rfl) (by (repeat intro _);show _=_;kernel_rfl) (fun k=>by (repeat intro _);show _=_;kernel_rfl)) (ac_))
  (fun k=>by (repeat intro _);show _=_;kernel_rfl)
noncomputable def ih_ (k:Nat):a5_ K TyK:=sm cod (Bool) [.bo, .bo] [.g [.i .i64, .l true .held, .s, .l true .str], .c (.i .i64)] [] (fun k v1 v2 v3 v4 v5=>gW_ k (⟨v1,v2,v3,v4⟩:ai_) v5) k [.c (.b)] [] (fun r=>(r,())) (fun v1=>v1) true
theorem kk_ (k:Nat):SummOk Try.prog cod 121 (ih_ k):=aG_ codOk Try.f121 (fun k=>aA_ [(89,bj_ k)]) [] false [.tmp 4] 0 [] aF_ Try.func121 (by kernel_rfl) (by kernel_rfl) (by kernel_rfl) (by kernel_rfl)
  (fun k=>Known.of tok eok codOk (all_cons (a6_ k) (ac_)))
  (fun k=>QuietOk.of (all_cons (fun h r=>⟨rfl,rfl⟩) (ac_)))
  (fun a=>rfl)
  (ac_)
  (fun k=>by (repeat intro _);show _=_;kernel_rfl)
noncomputable def jF_ (k:Nat):a5_ K TyK:=sm cod (Bool) [.bo, .bo] [.g [.i .i64, .l true .held, .s, .l true .str], .g [.s, .b]] [] (fun k v1 v2 v3 v4 v5 v6=>ff_ k (⟨v1,v2,v3,v4⟩:ai_) (⟨v5,v6⟩:az_)) k [.c (.b)] [] (fun r=>(r,())) (fun v1=>v1) true
theorem lb_ (k:Nat):SummOk Try.prog cod 157 (jF_ k):=aG_ codOk Try.f157 (fun k=>aA_ []) [] false [.tmp 4] 0 [] aF_ Try.func157 (by kernel_rfl) (by kernel_rfl) (by kernel_rfl) (by kernel_rfl)
  (fun k=>Known.of tok eok codOk (ac_))
  (fun k=>QuietOk.of (ac_))
  (fun a=>rfl)
  (ac_)
  (fun k=>by (repeat intro _);show _=_;kernel_rfl)
noncomputable def dA_ (k:Nat):a5_ K TyK:=sm cod (Bool) [.bo] [.g [.i .i64, .l true .held, .s, .l true .str]] [] (fun k v1 v2 v3 v4=>c3_ k (⟨v1,v2,v3,v4⟩:ai_)) k [.c (.b)] [] (fun r=>(r,())) (fun v1=>v1) true
noncomputable abbrev nt_:List (Nat×Cut K TyK (Bool)):=[(4,ct cod [1,3] [.c (.r 0 0), .c (.i .i64)] [.x [.i .i64, .l true .held, .s, .l true .str]] ct_),
  (9,ct cod [1,4] [.c (.r 0 0), .c (.i .i64)] [.x [.i .i64, .l true .held, .s, .l true .str]] aN_)]
theorem ev_ (k:Nat):SummOk Try.prog cod 106 (dA_ k):=aG_ codOk Try.f106 (fun k=>aA_ [(89,bj_ k),(121,ih_ k),(157,jF_ k)]) nt_ false [.tmp 2] 0 [] aF_ Try.func106 (by kernel_rfl) (by kernel_rfl) (by kernel_rfl) (by kernel_rfl)
  (fun k=>Known.of tok eok codOk (all_cons (a6_ k) (all_cons (kk_ k) (all_cons (lb_ k) (ac_)))))
  (fun k=>QuietOk.of (all_cons (fun h r=>⟨rfl,rfl⟩) (all_cons (fun h r=>⟨rfl,rfl⟩) (all_cons (fun h r=>⟨rfl,rfl⟩) (ac_)))))
  (fun a=>rfl)
  (all_cons (ap_ codOk (by kernel_rfl) (by (repeat intro _);show _=_;kernel_rfl) (fun k=>by (repeat intro _);show _=_;kernel_rfl)) (all_cons (ap_ codOk (by kernel_rfl) (by (repeat intro _);show _=_;kernel_rfl) (fun k=>by (repeat intro _);show _=_;kernel_rfl)) (ac_)))
  (fun k=>by (repeat intro _);show _=_;kernel_rfl)
noncomputable def jH_ (k:Nat):a5_ K TyK:=sm cod (Bool) [.bo] [.g [.i .i64, .l true .item]] [] (fun k v1 v2=>gv_ k (⟨v1,v2⟩:ak_)) k [.c (.b)] [] (fun r=>(r,())) (fun v1=>v1) true
theorem no_ (k:Nat):SummOk Try.prog cod 107 (jH_ k):=aG_ codOk Try.f107 (fun k=>aA_ []) [] false [.tmp 2] 0 [] aF_ Try.func107 (by kernel_rfl) (by kernel_rfl) (by kernel_rfl) (by kernel_rfl)
  (fun k=>Known.of tok eok codOk (ac_))
  (fun k=>QuietOk.of (ac_))
  (fun a=>rfl)
  (ac_)
  (fun k=>by (repeat intro _);show _=_;kernel_rfl)
noncomputable def jt_ (k:Nat):a5_ K TyK:=sm cod (Bool) [.bo] [.g [.i .i64, .l true .held, .s, .l true .str]] [] (fun k v1 v2 v3 v4=>gx_ k (⟨v1,v2,v3,v4⟩:ai_)) k [.c (.b)] [] (fun r=>(r,())) (fun v1=>v1) true
theorem nl_ (k:Nat):SummOk Try.prog cod 108 (jt_ k):=aG_ codOk Try.f108 (fun k=>aA_ []) [] false [.tmp 2] 0 [] aF_ Try.func108 (by kernel_rfl) (by kernel_rfl) (by kernel_rfl) (by kernel_rfl)
  (fun k=>Known.of tok eok codOk (ac_))
  (fun k=>QuietOk.of (ac_))
  (fun a=>rfl)
  (ac_)
  (fun k=>by (repeat intro _);show _=_;kernel_rfl)
noncomputable def b2_ (k:Nat):a5_ K TyK:=sm cod (Bool) [.bo] [.g [.i .i64, .b, .i .i64, .i .i64, .i .i64, .b, .i .i64, .l true .item, .i .i64, .l true .held, .s, .l true .str]] [] (fun k v1 v2 v3 v4 v5 v6 v7 v8 v9 v10 v11 v12=>bX_ k (⟨v1,v2,v3,v4,v5,v6,(⟨v7,v8⟩:ak_),(⟨v9,v10,v11,v12⟩:ai_)⟩:am_)) k [.c (.b)] [] (fun r=>(r,())) (fun v1=>v1) true
theorem cf_ (k:Nat):SummOk Try.prog cod 45 (b2_ k):=aG_ codOk Try.f45 (fun k=>aA_ [(89,bj_ k),(105,dF_ k),(106,dA_ k),(107,jH_ k),(108,jt_ k)]) [] false [.tmp 2] 0 [] aF_ Try.func45 (by kernel_rfl) (by kernel_rfl) (by kernel_rfl) (by kernel_rfl)
  (fun k=>Known.of tok eok codOk (all_cons (a6_ k) (all_cons (ey_ k) (all_cons (ev_ k) (all_cons (no_ k) (all_cons (nl_ k) (ac_)))))))
  (fun k=>QuietOk.of (all_cons (fun h r=>⟨rfl,rfl⟩) (all_cons (fun h r=>⟨rfl,rfl⟩) (all_cons (fun h r=>⟨rfl,rfl⟩) (all_cons (fun h r=>⟨rfl,rfl⟩) (all_cons (fun h r=>⟨rfl,rfl⟩) (ac_)))))))
  (fun a=>rfl)
  (ac_)
  (fun k=>by (repeat intro _);show _=_;kernel_rfl)
noncomputable def fh_ (k:Nat):a5_ K TyK:=sm cod (ak_) [.bo] [.g [.i .i64, .l true .item]] [] (fun k v1 v2=>d4_ k (⟨v1,v2⟩:ak_)) k [.g [.i .i64, .o 0]] [.l .item] (fun r=>(r.Base,(),r.Items,())) (fun v1 v2=>(⟨v1,v2⟩:ak_)) false
theorem f5_ (k:Nat):SummOk Try.prog cod 118 (fh_ k):=aG_ codOk Try.f118 (fun k=>aA_ []) [] false [.cell 2 37] 0 [] aF_ Try.func118 (by kernel_rfl) (by kernel_rfl) (by kernel_rfl) (by kernel_rfl)
  (fun k=>Known.of tok eok codOk (ac_))
  (fun k=>QuietOk.of (ac_))
  (fun a=>rfl)
  (ac_)
  (fun k=>by (repeat intro _);show _=_;kernel_rfl)
noncomputable def gu_ (k:Nat):a5_ K TyK:=sm cod (ai_) [.bo] [.g [.i .i64, .l true .held, .s, .l true .str]] [] (fun k v1 v2 v3 v4=>eY_ k (⟨v1,v2,v3,v4⟩:ai_)) k [.g [.i .i64, .o 0, .s, .o 1]] [.l .held, .l .str] (fun r=>(r.Next,(),r.Open,(),r.Held,r.Ready,())) (fun v1 v2 v3 v4=>(⟨v1,v3,v2,v4⟩:ai_)) false
theorem hK_ (k:Nat):SummOk Try.prog cod 119 (gu_ k):=aG_ codOk Try.f119 (fun k=>aA_ []) [] false [.cell 2 40] 0 [] aF_ Try.func119 (by kernel_rfl) (by kernel_rfl) (by kernel_rfl) (by kernel_rfl)
  (fun k=>Known.of tok eok codOk (ac_))
  (fun k=>QuietOk.of (ac_))
  (fun a=>rfl)
  (ac_)
  (fun k=>by (repeat intro _);show _=_;kernel_rfl)
noncomputable def dv_ (k:Nat):a5_ K TyK:=sm cod (am_) [.bo] [.g [.i .i64, .b, .i .i64, .i .i64, .i .i64, .b, .i .i64, .l true .item, .i .i64, .l true .held, .s, .l true .str]] [] (fun k v1 v2 v3 v4 v5 v6 v7 v8 v9 v10 v11 v12=>c1_ k (⟨v1,v2,v3,v4,v5,v6,(⟨v7,v8⟩:ak_),(⟨v9,v10,v11,v12⟩:ai_)⟩:am_)) k [.g [.i .i64, .b, .i .i64, .i .i64, .i .i64, .b, .i .i64, .o 0, .i .i64, .o 1, .s, .o 2]] [.l .item, .l .held, .l .str] (fun r=>(r.Number,r.Up,r.Life,r.Peer,r.Since,r.Owes,r.Send.Base,(),r.Take.Next,(),r.Take.Open,(),r.Send.Items,r.Take.Held,r.Take.Ready,())) (fun v1 v2 v3 v4 v5 v6 v7 v8 v9 v10 v11 v12=>(⟨v1,v2,v3,v4,v5,v6,(⟨v7,v10⟩:ak_),(⟨v8,v11,v9,v12⟩:ai_)⟩:am_)) false
theorem dQ_ (k:Nat):SummOk Try.prog cod 52 (dv_ k):=aG_ codOk Try.f52 (fun k=>aA_ [(118,fh_ k),(119,gu_ k)]) [] false [.cell 2 42] 0 [] aF_ Try.func52 (by kernel_rfl) (by kernel_rfl) (by kernel_rfl) (by kernel_rfl)
  (fun k=>Known.of tok eok codOk (all_cons (f5_ k) (all_cons (hK_ k) (ac_))))
  (fun k=>QuietOk.of (all_cons (fun h r=>by cases h) (all_cons (fun h r=>by cases h) (ac_))))
  (fun a=>rfl)
  (ac_)
  (fun k=>by (repeat intro _);show _=_;kernel_rfl)
noncomputable def kR_ (k:Nat):a5_ K TyK:=sm cod (Bool) [.bo] [.g [.i .i64, .i .i64, .i .i64, .i .i64, .i .i64, .i .i64, .i .i64, .b, .s]] [] (fun k v1 v2 v3 v4 v5 v6 v7 v8 v9=>gi_ k (⟨v1,v2,v3,v4,v5,v6,v7,v8,v9⟩:ae_)) k [.c (.b)] [] (fun r=>(r,())) (fun v1=>v1) true
theorem m2_ (k:Nat):SummOk Try.prog cod 53 (kR_ k):=aG_ codOk Try.f53 (fun k=>aA_ [(89,bj_ k)]) [] false [.tmp 2] 0 [] aF_ Try.func53 (by kernel_rfl) (by kernel_rfl) (by kernel_rfl) (by kernel_rfl)
  (fun k=>Known.of tok eok codOk (all_cons (a6_ k) (ac_)))
  (fun k=>QuietOk.of (all_cons (fun h r=>⟨rfl,rfl⟩) (ac_)))
  (fun a=>rfl)
  (ac_)
  (fun k=>by (repeat intro _);show _=_;kernel_rfl)
noncomputable def km_ (k:Nat):a5_ K TyK:=sm cod (Int) [.bo] [.g [.i .i64, .l true .item]] [] (fun k v1 v2=>mG_ k (⟨v1,v2⟩:ak_)) k [.c (.i .i64)] [] (fun r=>(r,())) (fun v1=>v1) true
noncomputable abbrev qK_:List (Nat×Cut K TyK (Int)):=[(2,ct cod [1,3] [.c (.r 0 0), .c (.i .i64)] [.x [.i .i64, .l true .item]] di_)]
theorem o9_ (k:Nat):SummOk Try.prog cod 120 (km_ k):=aG_ codOk Try.f120 (fun k=>aA_ []) qK_ false [.tmp 2] 0 [] aF_ Try.func120 (by kernel_rfl) (by kernel_rfl) (by kernel_rfl) (by kernel_rfl)
  (fun k=>Known.of tok eok codOk (ac_))
  (fun k=>QuietOk.of (ac_))
  (fun a=>rfl)
  (all_cons (ap_ codOk (by kernel_rfl) (by (repeat intro _);show _=_;kernel_rfl) (fun k=>by (repeat intro _);show _=_;kernel_rfl)) (ac_))
  (fun k=>by (repeat intro _);show _=_;kernel_rfl)
noncomputable def jE_ (k:Nat):a5_ K TyK:=sm cod (ak_) [.bo, .bo, .bo] [.g [.i .i64, .l true .item], .c (.i .i64), .c (.i .i64)] [] (fun k v1 v2 v3 v4=>ft_ k (⟨v1,v2⟩:ak_) v3 v4) k [.g [.i .i64, .o 0]] [.l .item] (fun r=>(r.Base,(),r.Items,())) (fun v1 v2=>(⟨v1,v2⟩:ak_)) false
noncomputable abbrev p9_:List (Nat×Cut K TyK (ak_)):=[(9,ct cod [2,6,7,8] [.c (.i .i64), .c (.r 0 0), .c (.r 1 0), .c (.i .i64)] [.x [.i .i64, .o 2], .x [.i .i64, .o 3], .l .item, .l .item] bt_),
  (13,ct cod [2,6,7,8] [.c (.i .i64), .c (.r 0 0), .c (.r 1 0), .c (.i .i64)] [.x [.i .i64, .o 2], .x [.i .i64, .o 3], .l .item, .l .item] bg_)]
theorem nv_ (k:Nat):SummOk Try.prog cod 54 (jE_ k):=aG_ codOk Try.f54 (fun k=>aA_ [(105,dF_ k),(118,fh_ k),(120,km_ k),(89,bj_ k)]) p9_ false [.cell 6 37] 0 [] aF_ Try.func54 (by kernel_rfl) (by kernel_rfl) (by kernel_rfl) (by kernel_rfl)
  (fun k=>Known.of tok eok codOk (all_cons (ey_ k) (all_cons (f5_ k) (all_cons (o9_ k) (all_cons (a6_ k) (ac_))))))
  (fun k=>QuietOk.of (all_cons (fun h r=>⟨rfl,rfl⟩) (all_cons (fun h r=>by cases h) (all_cons (fun h r=>⟨rfl,rfl⟩) (all_cons (fun h r=>⟨rfl,rfl⟩) (ac_))))))
  (fun a=>rfl)
  (all_cons (ap_ codOk (by kernel_rfl) (by (repeat intro _);show _=_;kernel_rfl) (fun k=>by (repeat intro _);show _=_;kernel_rfl)) (all_cons (ap_ codOk (by kernel_rfl) (by (repeat intro _);show _=_;kernel_rfl) (fun k=>by (repeat intro _);show _=_;kernel_rfl)) (ac_)))
  (fun k=>by (repeat intro _);show _=_;kernel_rfl)
noncomputable def kL_ (k:Nat):a5_ K TyK:=sm cod (ai_) [.mv] [.g [.i .i64, .o 0, .s, .o 1]] [.l .held, .l .str] (fun k v1 v2 v3 v4=>iV_ k (⟨v1,v3,v2,v4⟩:ai_)) k [.g [.i .i64, .o 2, .s, .o 3]] [.d, .d, .l .held, .l .str] (fun r=>(r.Next,(),r.Open,(),r.Held,r.Ready,())) (fun v1 v2 v3 v4=>(⟨v1,v3,v2,v4⟩:ai_)) false
noncomputable abbrev uZ_:List (Nat×Cut K TyK (ai_)):=[(1,ct cod [1,2] [.c (.r 2 0), .c (.r 3 0)] [.d, .d, .x [.i .i64, .o 4, .s, .o 5], .x [.i .i64, .o 6, .s, .o 7], .l .held, .l .str, .l .held, .l .str] cV_)]
theorem na_ (k:Nat):SummOk Try.prog cod 122 (kL_ k):=aG_ codOk Try.f122 (fun k=>aA_ [(157,jF_ k)]) uZ_ false [.cell 2 40] 2 [true,true] aF_ Try.func122 (by kernel_rfl) (by kernel_rfl) (by kernel_rfl) (by kernel_rfl)
  (fun k=>Known.of tok eok codOk (all_cons (lb_ k) (ac_)))
  (fun k=>QuietOk.of (all_cons (fun h r=>⟨rfl,rfl⟩) (ac_)))
  (fun a=>rfl)
  (all_cons (ap_ codOk (by kernel_rfl) (by (repeat intro _);show _=_;kernel_rfl) (fun k=>by (repeat intro _);show _=_;kernel_rfl)) (ac_))
  (fun k=>by (repeat intro _);show _=_;kernel_rfl)
noncomputable def i9_ (k:Nat):a5_ K TyK:=sm cod (ai_) [.bo, .bo, .bo] [.g [.i .i64, .l true .held, .s, .l true .str], .c (.i .i64), .g [.s, .b]] [] (fun k v1 v2 v3 v4 v5 v6 v7=>fy_ k (⟨v1,v2,v3,v4⟩:ai_) v5 (⟨v6,v7⟩:az_)) k [.g [.i .i64, .o 0, .s, .o 1]] [.l .held, .l .str] (fun r=>(r.Next,(),r.Open,(),r.Held,r.Ready,())) (fun v1 v2 v3 v4=>(⟨v1,v3,v2,v4⟩:ai_)) false
noncomputable abbrev pr_:List (Nat×Cut K TyK (ai_)):=[(9,ct cod [1,3,5,6,7,8,9,10] [.c (.i .i64), .c (.r 0 0), .c (.r 1 0), .c (.r 2 0), .c (.r 3 0), .c (.o 4), .c (.b), .c (.i .i64)] [.x [.i .i64, .l true .held, .s, .l true .str], .x [.s, .b], .x [.i .i64, .o 5, .s, .o 6], .x [.i .i64, .o 7, .s, .o 8], .l .held, .l .held, .l .str, .l .held, .l .str] bs_),
  (16,ct cod [1,3,5,6,7,8,9,10] [.c (.i .i64), .c (.r 0 0), .c (.r 1 0), .c (.r 2 0), .c (.r 3 0), .c (.o 4), .c (.b), .c (.i .i64)] [.x [.i .i64, .l true .held, .s, .l true .str], .x [.s, .b], .x [.i .i64, .o 5, .s, .o 6], .x [.i .i64, .o 7, .s, .o 8], .l .held, .l .held, .l .str, .l .held, .l .str] bO_),
  (19,ct cod [6,7,8] [.c (.r 0 0), .c (.r 1 0), .c (.o 2)] [.x [.i .i64, .o 3, .s, .o 4], .x [.i .i64, .o 5, .s, .o 6], .l .held, .l .held, .l .str, .l .held, .l .str] db_)]
theorem nI_ (k:Nat):SummOk Try.prog cod 55 (i9_ k):=aG_ codOk Try.f55 (fun k=>aA_ [(106,dA_ k),(119,gu_ k),(121,ih_ k),(122,kL_ k)]) pr_ false [.cell 6 40] 0 [] aF_ Try.func55 (by kernel_rfl) (by kernel_rfl) (by kernel_rfl) (by kernel_rfl)
  (fun k=>Known.of tok eok codOk (all_cons (ev_ k) (all_cons (hK_ k) (all_cons (kk_ k) (all_cons (na_ k) (ac_))))))
  (fun k=>QuietOk.of (all_cons (fun h r=>⟨rfl,rfl⟩) (all_cons (fun h r=>by cases h) (all_cons (fun h r=>⟨rfl,rfl⟩) (all_cons (fun h r=>by cases h) (ac_))))))
  (fun a=>rfl)
  (all_cons (ap_ codOk (by kernel_rfl) (by (repeat intro _);show _=_;kernel_rfl) (fun k=>by (repeat intro _);show _=_;kernel_rfl)) (all_cons (ap_ codOk (by kernel_rfl) (by (repeat intro _);show _=_;kernel_rfl) (fun k=>by (repeat intro _);show _=_;kernel_rfl)) (all_cons (ap_ codOk (by kernel_rfl) (by (repeat intro _);show _=_;kernel_rfl) (fun k=>by (repeat intro _);show _=_;kernel_rfl)) (ac_))))
  (fun k=>by (repeat intro _);show _=_;kernel_rfl)
noncomputable def ko_ (k:Nat):a5_ K TyK:=sm cod (aw_) [.bo, .bo] [.g [.i .i64, .b, .i .i64, .i .i64, .i .i64, .b, .i .i64, .l true .item, .i .i64, .l true .held, .s, .l true .str], .g [.i .i64, .i .i64, .i .i64, .i .i64, .i .i64, .i .i64, .i .i64, .b, .s]] [] (fun k v1 v2 v3 v4 v5 v6 v7 v8 v9 v10 v11 v12 v13 v14 v15 v16 v17 v18 v19 v20 v21=>hn_ k (⟨v1,v2,v3,v4,v5,v6,(⟨v7,v8⟩:ak_),(⟨v9,v10,v11,v12⟩:ai_)⟩:am_) (⟨v13,v14,v15,v16,v17,v18,v19,v20,v21⟩:ae_)) k [.g [.i .i64, .i .i64, .b, .i .i64, .i .i64, .i .i64, .b, .i .i64, .o 0, .i .i64, .o 1, .s, .o 2, .o 3, .s]] [.l .item, .l .held, .l .str, .l .packet] (fun r=>(r.Code,r.End.Number,r.End.Up,r.End.Life,r.End.Peer,r.End.Since,r.End.Owes,r.End.Send.Base,(),r.End.Take.Next,(),r.End.Take.Open,(),(),r.Text,r.End.Send.Items,r.End.Take.Held,r.End.Take.Ready,r.Out,())) (fun v1 v2 v3 v4 v5 v6 v7 v8 v9 v10 v11 v12 v13 v14 v15=>(⟨v1,(⟨v2,v3,v4,v5,v6,v7,(⟨v8,v12⟩:ak_),(⟨v9,v13,v10,v14⟩:ai_)⟩:am_),v15,v11⟩:aw_)) false
noncomputable abbrev qt_:List (Nat×Cut K TyK (aw_)):=[(11,ct cod [3,4,5] [.c (.r 0 0), .c (.r 1 0), .c (.r 2 0)] [.x [.i .i64, .i .i64, .i .i64, .i .i64, .i .i64, .i .i64, .i .i64, .b, .s], .x [.i .i64, .i .i64, .b, .i .i64, .i .i64, .i .i64, .b, .i .i64, .o 3, .i .i64, .o 4, .s, .o 5, .o 6, .s], .x [.i .i64, .b, .i .i64, .i .i64, .i .i64, .b, .i .i64, .o 7, .i .i64, .o 8, .s, .o 9], .l .item, .l .held, .l .str, .l .packet, .l .item, .l .held, .l .str] dD_)]
theorem pC_ (k:Nat):SummOk Try.prog cod 12 (ko_ k):=aG_ codOk Try.f12 (fun k=>aA_ [(45,b2_ k),(52,dv_ k),(53,kR_ k),(54,jE_ k),(55,i9_ k)]) qt_ false [.cell 4 45] 0 [] aF_ Try.func12 (by kernel_rfl) (by kernel_rfl) (by kernel_rfl) (by kernel_rfl)
  (fun k=>Known.of tok eok codOk (all_cons (cf_ k) (all_cons (dQ_ k) (all_cons (m2_ k) (all_cons (nv_ k) (all_cons (nI_ k) (ac_)))))))
  (fun k=>QuietOk.of (all_cons (fun h r=>⟨rfl,rfl⟩) (all_cons (fun h r=>by cases h) (all_cons (fun h r=>⟨rfl,rfl⟩) (all_cons (fun h r=>by cases h) (all_cons (fun h r=>by cases h) (ac_)))))))
  (fun a=>rfl)
  (all_cons (ap_ codOk (by kernel_rfl) (by (repeat intro _);show _=_;kernel_rfl) (fun k=>by (repeat intro _);show _=_;kernel_rfl)) (ac_))
  (fun k=>by (repeat intro _);show _=_;kernel_rfl)
noncomputable def gb_ (k:Nat):a5_ K TyK:=sm cod (Bool) [.bo, .bo, .bo] [.c (.i .i64), .c (.i .i64), .c (.i .i64)] [] (aP_) k [.c (.b)] [] (fun r=>(r,())) (fun v1=>v1) true
theorem fY_ (k:Nat):SummOk Try.prog cod 75 (gb_ k):=aG_ codOk Try.f75 (fun k=>aA_ []) [] false [.tmp 6] 0 [] aF_ Try.func75 (by kernel_rfl) (by kernel_rfl) (by kernel_rfl) (by kernel_rfl)
  (fun k=>Known.of tok eok codOk (ac_))
  (fun k=>QuietOk.of (ac_))
  (fun a=>rfl)
  (ac_)
  (fun k=>by (repeat intro _);show _=_;kernel_rfl)
noncomputable def dG_ (k:Nat):a5_ K TyK:=sm cod (Bool) [.bo] [.g [.i .i64, .l true .item]] [] (fun k v1 v2=>bp_ k (⟨v1,v2⟩:ak_)) k [.c (.b)] [] (fun r=>(r,())) (fun v1=>v1) true
noncomputable abbrev nD_:List (Nat×Cut K TyK (Bool)):=[(4,ct cod [25,26,27] [.c (.l true .item), .c (.i .i64), .c (.i .i64)] [] bz_)]
theorem ew_ (k:Nat):SummOk Try.prog cod 109 (dG_ k):=aG_ codOk Try.f109 (fun k=>aA_ [(75,gb_ k)]) nD_ false [.tmp 2] 0 [] aF_ Try.func109 (by kernel_rfl) (by kernel_rfl) (by kernel_rfl) (by kernel_rfl)
  (fun k=>Known.of tok eok codOk (all_cons (fY_ k) (ac_)))
  (fun k=>QuietOk.of (all_cons (fun h r=>⟨rfl,rfl⟩) (ac_)))
  (fun a=>rfl)
  (all_cons (ap_ codOk (by kernel_rfl) (by (repeat intro _);show _=_;kernel_rfl) (fun k=>by (repeat intro _);show _=_;kernel_rfl)) (ac_))
  (fun k=>by (repeat intro _);show _=_;kernel_rfl)
noncomputable def kV_ (k:Nat):a5_ K TyK:=sm cod (Bool) [.bo, .bo] [.g [.i .i64, .l true .held, .s, .l true .str], .g [.s, .b]] [] (fun k v1 v2 v3 v4 v5 v6=>g3_ k (⟨v1,v2,v3,v4⟩:ai_) (⟨v5,v6⟩:az_)) k [.c (.b)] [] (fun r=>(r,())) (fun v1=>v1) true
theorem m4_ (k:Nat):SummOk Try.prog cod 158 (kV_ k):=aG_ codOk Try.f158 (fun k=>aA_ []) [] false [.tmp 4] 0 [] aF_ Try.func158 (by kernel_rfl) (by kernel_rfl) (by kernel_rfl) (by kernel_rfl)
  (fun k=>Known.of tok eok codOk (ac_))
  (fun k=>QuietOk.of (ac_))
  (fun a=>rfl)
  (ac_)
  (fun k=>by (repeat intro _);show _=_;kernel_rfl)
noncomputable def dI_ (k:Nat):a5_ K TyK:=sm cod (Bool) [.bo] [.g [.i .i64, .l true .held, .s, .l true .str]] [] (fun k v1 v2 v3 v4=>bU_ k (⟨v1,v2,v3,v4⟩:ai_)) k [.c (.b)] [] (fun r=>(r,())) (fun v1=>v1) true
noncomputable abbrev nz_:List (Nat×Cut K TyK (Bool)):=[(4,ct cod [1,30,31,32] [.c (.r 0 0), .c (.l true .held), .c (.i .i64), .c (.i .i64)] [.x [.i .i64, .l true .held, .s, .l true .str]] aK_),
  (12,ct cod [88,89,90] [.c (.l true .str), .c (.i .i64), .c (.i .i64)] [] b6_)]
theorem eo_ (k:Nat):SummOk Try.prog cod 110 (dI_ k):=aG_ codOk Try.f110 (fun k=>aA_ [(75,gb_ k),(158,kV_ k)]) nz_ false [.tmp 2] 0 [] aF_ Try.func110 (by kernel_rfl) (by kernel_rfl) (by kernel_rfl) (by kernel_rfl)
  (fun k=>Known.of tok eok codOk (all_cons (fY_ k) (all_cons (m4_ k) (ac_))))
  (fun k=>QuietOk.of (all_cons (fun h r=>⟨rfl,rfl⟩) (all_cons (fun h r=>⟨rfl,rfl⟩) (ac_))))
  (fun a=>rfl)
  (all_cons (ap_ codOk (by kernel_rfl) (by (repeat intro _);show _=_;kernel_rfl) (fun k=>by (repeat intro _);show _=_;kernel_rfl)) (all_cons (ap_ codOk (by kernel_rfl) (by (repeat intro _);show _=_;kernel_rfl) (fun k=>by (repeat intro _);show _=_;kernel_rfl)) (ac_)))
  (fun k=>by (repeat intro _);show _=_;kernel_rfl)
noncomputable def lP_ (k:Nat):a5_ K TyK:=sm cod (Bool) [.bo] [.g [.i .i64, .l true .item]] [] (fun k v1 v2=>ie_ k (⟨v1,v2⟩:ak_)) k [.c (.b)] [] (fun r=>(r,())) (fun v1=>v1) true
theorem qu_ (k:Nat):SummOk Try.prog cod 111 (lP_ k):=aG_ codOk Try.f111 (fun k=>aA_ []) [] false [.tmp 2] 0 [] aF_ Try.func111 (by kernel_rfl) (by kernel_rfl) (by kernel_rfl) (by kernel_rfl)
  (fun k=>Known.of tok eok codOk (ac_))
  (fun k=>QuietOk.of (ac_))
  (fun a=>rfl)
  (ac_)
  (fun k=>by (repeat intro _);show _=_;kernel_rfl)
noncomputable def ln_ (k:Nat):a5_ K TyK:=sm cod (Bool) [.bo] [.g [.i .i64, .l true .held, .s, .l true .str]] [] (fun k v1 v2 v3 v4=>im_ k (⟨v1,v2,v3,v4⟩:ai_)) k [.c (.b)] [] (fun r=>(r,())) (fun v1=>v1) true
theorem qN_ (k:Nat):SummOk Try.prog cod 112 (ln_ k):=aG_ codOk Try.f112 (fun k=>aA_ []) [] false [.tmp 2] 0 [] aF_ Try.func112 (by kernel_rfl) (by kernel_rfl) (by kernel_rfl) (by kernel_rfl)
  (fun k=>Known.of tok eok codOk (ac_))
  (fun k=>QuietOk.of (ac_))
  (fun a=>rfl)
  (ac_)
  (fun k=>by (repeat intro _);show _=_;kernel_rfl)
noncomputable def b3_ (k:Nat):a5_ K TyK:=sm cod (Bool) [.bo] [.g [.i .i64, .b, .i .i64, .i .i64, .i .i64, .b, .i .i64, .l true .item, .i .i64, .l true .held, .s, .l true .str]] [] (fun k v1 v2 v3 v4 v5 v6 v7 v8 v9 v10 v11 v12=>bY_ k (⟨v1,v2,v3,v4,v5,v6,(⟨v7,v8⟩:ak_),(⟨v9,v10,v11,v12⟩:ai_)⟩:am_)) k [.c (.b)] [] (fun r=>(r,())) (fun v1=>v1) true
theorem ce_ (k:Nat):SummOk Try.prog cod 46 (b3_ k):=aG_ codOk Try.f46 (fun k=>aA_ [(75,gb_ k),(109,dG_ k),(110,dI_ k),(111,lP_ k),(112,ln_ k)]) [] false [.tmp 2] 0 [] aF_ Try.func46 (by kernel_rfl) (by kernel_rfl) (by kernel_rfl) (by kernel_rfl)
  (fun k=>Known.of tok eok codOk (all_cons (fY_ k) (all_cons (ew_ k) (all_cons (eo_ k) (all_cons (qu_ k) (all_cons (qN_ k) (ac_)))))))
  (fun k=>QuietOk.of (all_cons (fun h r=>⟨rfl,rfl⟩) (all_cons (fun h r=>⟨rfl,rfl⟩) (all_cons (fun h r=>⟨rfl,rfl⟩) (all_cons (fun h r=>⟨rfl,rfl⟩) (all_cons (fun h r=>⟨rfl,rfl⟩) (ac_)))))))
  (fun a=>rfl)
  (ac_)
  (fun k=>by (repeat intro _);show _=_;kernel_rfl)
noncomputable def d9_ (k:Nat):a5_ K TyK:=sm cod (ak_) [.bo] [.g [.i .i64, .l true .item]] [] (fun k v1 v2=>eq_ k (⟨v1,v2⟩:ak_)) k [.g [.i .i64, .o 0]] [.l .item] (fun r=>(r.Base,(),r.Items,())) (fun v1 v2=>(⟨v1,v2⟩:ak_)) false
theorem eP_ (k:Nat):SummOk Try.prog cod 126 (d9_ k):=aG_ codOk Try.f126 (fun k=>aA_ []) [] false [.cell 2 37] 0 [] aF_ Try.func126 (by kernel_rfl) (by kernel_rfl) (by kernel_rfl) (by kernel_rfl)
  (fun k=>Known.of tok eok codOk (ac_))
  (fun k=>QuietOk.of (ac_))
  (fun a=>rfl)
  (ac_)
  (fun k=>by (repeat intro _);show _=_;kernel_rfl)
noncomputable def fo_ (k:Nat):a5_ K TyK:=sm cod (ai_) [.bo] [.g [.i .i64, .l true .held, .s, .l true .str]] [] (fun k v1 v2 v3 v4=>fm_ k (⟨v1,v2,v3,v4⟩:ai_)) k [.g [.i .i64, .o 0, .s, .o 1]] [.l .held, .l .str] (fun r=>(r.Next,(),r.Open,(),r.Held,r.Ready,())) (fun v1 v2 v3 v4=>(⟨v1,v3,v2,v4⟩:ai_)) false
theorem gk_ (k:Nat):SummOk Try.prog cod 127 (fo_ k):=aG_ codOk Try.f127 (fun k=>aA_ []) [] false [.cell 2 40] 0 [] aF_ Try.func127 (by kernel_rfl) (by kernel_rfl) (by kernel_rfl) (by kernel_rfl)
  (fun k=>Known.of tok eok codOk (ac_))
  (fun k=>QuietOk.of (ac_))
  (fun a=>rfl)
  (ac_)
  (fun k=>by (repeat intro _);show _=_;kernel_rfl)
noncomputable def c0_ (k:Nat):a5_ K TyK:=sm cod (am_) [.bo] [.g [.i .i64, .b, .i .i64, .i .i64, .i .i64, .b, .i .i64, .l true .item, .i .i64, .l true .held, .s, .l true .str]] [] (fun k v1 v2 v3 v4 v5 v6 v7 v8 v9 v10 v11 v12=>cW_ k (⟨v1,v2,v3,v4,v5,v6,(⟨v7,v8⟩:ak_),(⟨v9,v10,v11,v12⟩:ai_)⟩:am_)) k [.g [.i .i64, .b, .i .i64, .i .i64, .i .i64, .b, .i .i64, .o 0, .i .i64, .o 1, .s, .o 2]] [.l .item, .l .held, .l .str] (fun r=>(r.Number,r.Up,r.Life,r.Peer,r.Since,r.Owes,r.Send.Base,(),r.Take.Next,(),r.Take.Open,(),r.Send.Items,r.Take.Held,r.Take.Ready,())) (fun v1 v2 v3 v4 v5 v6 v7 v8 v9 v10 v11 v12=>(⟨v1,v2,v3,v4,v5,v6,(⟨v7,v10⟩:ak_),(⟨v8,v11,v9,v12⟩:ai_)⟩:am_)) false
theorem dh_ (k:Nat):SummOk Try.prog cod 58 (c0_ k):=aG_ codOk Try.f58 (fun k=>aA_ [(126,d9_ k),(127,fo_ k)]) [] false [.cell 2 42] 0 [] aF_ Try.func58 (by kernel_rfl) (by kernel_rfl) (by kernel_rfl) (by kernel_rfl)
  (fun k=>Known.of tok eok codOk (all_cons (eP_ k) (all_cons (gk_ k) (ac_))))
  (fun k=>QuietOk.of (all_cons (fun h r=>by cases h) (all_cons (fun h r=>by cases h) (ac_))))
  (fun a=>rfl)
  (ac_)
  (fun k=>by (repeat intro _);show _=_;kernel_rfl)
noncomputable def dV_ (k:Nat):a5_ K TyK:=sm cod (Bool) [.bo] [.g [.i .i64, .i .i64, .i .i64, .i .i64, .i .i64, .i .i64, .i .i64, .b, .s]] [] (fun k v1 v2 v3 v4 v5 v6 v7 v8 v9=>bd_ k (⟨v1,v2,v3,v4,v5,v6,v7,v8,v9⟩:ae_)) k [.c (.b)] [] (fun r=>(r,())) (fun v1=>v1) true
theorem eX_ (k:Nat):SummOk Try.prog cod 59 (dV_ k):=aG_ codOk Try.f59 (fun k=>aA_ [(75,gb_ k)]) [] false [.tmp 2] 0 [] aF_ Try.func59 (by kernel_rfl) (by kernel_rfl) (by kernel_rfl) (by kernel_rfl)
  (fun k=>Known.of tok eok codOk (all_cons (fY_ k) (ac_)))
  (fun k=>QuietOk.of (all_cons (fun h r=>⟨rfl,rfl⟩) (ac_)))
  (fun a=>rfl)
  (ac_)
  (fun k=>by (repeat intro _);show _=_;kernel_rfl)
noncomputable def jC_ (k:Nat):a5_ K TyK:=sm cod (ak_) [.bo, .bo, .bo] [.g [.i .i64, .l true .item], .c (.i .i64), .c (.i .i64)] [] (fun k v1 v2 v3 v4=>gy_ k (⟨v1,v2⟩:ak_) v3 v4) k [.g [.i .i64, .o 0]] [.l .item] (fun r=>(r.Base,(),r.Items,())) (fun v1 v2=>(⟨v1,v2⟩:ak_)) false
noncomputable abbrev qi_:List (Nat×Cut K TyK (ak_)):=[(5,ct cod [1,2,6,7,8] [.c (.i .i64), .c (.i .i64), .c (.r 0 0), .c (.r 1 0), .c (.i .i64)] [.x [.i .i64, .o 2], .x [.i .i64, .o 3], .l .item, .l .item] cL_),
  (12,ct cod [2,6,7,9] [.c (.i .i64), .c (.r 0 0), .c (.r 1 0), .c (.i .i64)] [.x [.i .i64, .o 2], .x [.i .i64, .o 3], .l .item, .l .item] bB_),
  (13,ct cod [2,6,7,9] [.c (.i .i64), .c (.r 0 0), .c (.r 1 0), .c (.i .i64)] [.x [.i .i64, .o 2], .x [.i .i64, .o 3], .l .item, .l .item] cv_)]
theorem nE_ (k:Nat):SummOk Try.prog cod 60 (jC_ k):=aG_ codOk Try.f60 (fun k=>aA_ [(109,dG_ k),(126,d9_ k),(75,gb_ k)]) qi_ false [.cell 6 37] 0 [] aF_ Try.func60 (by kernel_rfl) (by kernel_rfl) (by kernel_rfl) (by kernel_rfl)
  (fun k=>Known.of tok eok codOk (all_cons (ew_ k) (all_cons (eP_ k) (all_cons (fY_ k) (ac_)))))
  (fun k=>QuietOk.of (all_cons (fun h r=>⟨rfl,rfl⟩) (all_cons (fun h r=>by cases h) (all_cons (fun h r=>⟨rfl,rfl⟩) (ac_)))))
  (fun a=>rfl)
  (all_cons (ap_ codOk (by kernel_rfl) (by (repeat intro _);show _=_;kernel_rfl) (fun k=>by (repeat intro _);show _=_;kernel_rfl)) (all_cons (ap_ codOk (by kernel_rfl) (by (repeat intro _);show _=_;kernel_rfl) (fun k=>by (repeat intro _);show _=_;kernel_rfl)) (all_cons (ap_ codOk (by kernel_rfl) (by (repeat intro _);show _=_;kernel_rfl) (fun k=>by (repeat intro _);show _=_;kernel_rfl)) (ac_))))
  (fun k=>by (repeat intro _);show _=_;kernel_rfl)
noncomputable def kI_ (k:Nat):a5_ K TyK:=sm cod (ai_) [.mv] [.g [.i .i64, .o 0, .s, .o 1]] [.l .held, .l .str] (fun k v1 v2 v3 v4=>fq_ k (⟨v1,v3,v2,v4⟩:ai_)) k [.g [.i .i64, .o 2, .s, .o 3]] [.d, .d, .l .held, .l .str] (fun r=>(r.Next,(),r.Open,(),r.Held,r.Ready,())) (fun v1 v2 v3 v4=>(⟨v1,v3,v2,v4⟩:ai_)) false
noncomputable abbrev vP_:List (Nat×Cut K TyK (ai_)):=[(1,ct cod [1,2] [.c (.r 2 0), .c (.r 3 0)] [.d, .d, .x [.i .i64, .o 4, .s, .o 5], .x [.i .i64, .o 6, .s, .o 7], .l .held, .l .str, .l .held, .l .str] fc_)]
theorem m3_ (k:Nat):SummOk Try.prog cod 128 (kI_ k):=aG_ codOk Try.f128 (fun k=>aA_ [(158,kV_ k)]) vP_ false [.cell 2 40] 2 [true,true] aF_ Try.func128 (by kernel_rfl) (by kernel_rfl) (by kernel_rfl) (by kernel_rfl)
  (fun k=>Known.of tok eok codOk (all_cons (m4_ k) (ac_)))
  (fun k=>QuietOk.of (all_cons (fun h r=>⟨rfl,rfl⟩) (ac_)))
  (fun a=>rfl)
  (all_cons (ap_ codOk (by kernel_rfl) (by (repeat intro _);show _=_;kernel_rfl) (fun k=>by (repeat intro _);show _=_;kernel_rfl)) (ac_))
  (fun k=>by (repeat intro _);show _=_;kernel_rfl)
noncomputable def iX_ (k:Nat):a5_ K TyK:=sm cod (ai_) [.bo, .bo, .bo] [.g [.i .i64, .l true .held, .s, .l true .str], .c (.i .i64), .g [.s, .b]] [] (fun k v1 v2 v3 v4 v5 v6 v7=>gG_ k (⟨v1,v2,v3,v4⟩:ai_) v5 (⟨v6,v7⟩:az_)) k [.g [.i .i64, .o 0, .s, .o 1]] [.l .held, .l .str] (fun r=>(r.Next,(),r.Open,(),r.Held,r.Ready,())) (fun v1 v2 v3 v4=>(⟨v1,v3,v2,v4⟩:ai_)) false
noncomputable abbrev o2_:List (Nat×Cut K TyK (ai_)):=[(7,ct cod [1,5,6,7,8] [.c (.i .i64), .c (.r 0 0), .c (.r 1 0), .c (.r 2 0), .c (.i .i64)] [.x [.s, .b], .x [.i .i64, .o 3, .s, .o 4], .x [.i .i64, .o 5, .s, .o 6], .l .held, .l .str, .l .held, .l .str] cM_)]
theorem nm_ (k:Nat):SummOk Try.prog cod 61 (iX_ k):=aG_ codOk Try.f61 (fun k=>aA_ [(110,dI_ k),(127,fo_ k),(75,gb_ k),(128,kI_ k)]) o2_ false [.cell 6 40] 0 [] aF_ Try.func61 (by kernel_rfl) (by kernel_rfl) (by kernel_rfl) (by kernel_rfl)
  (fun k=>Known.of tok eok codOk (all_cons (eo_ k) (all_cons (gk_ k) (all_cons (fY_ k) (all_cons (m3_ k) (ac_))))))
  (fun k=>QuietOk.of (all_cons (fun h r=>⟨rfl,rfl⟩) (all_cons (fun h r=>by cases h) (all_cons (fun h r=>⟨rfl,rfl⟩) (all_cons (fun h r=>by cases h) (ac_))))))
  (fun a=>rfl)
  (all_cons (ap_ codOk (by kernel_rfl) (by (repeat intro _);show _=_;kernel_rfl) (fun k=>by (repeat intro _);show _=_;kernel_rfl)) (ac_))
  (fun k=>by (repeat intro _);show _=_;kernel_rfl)
noncomputable def ks_ (k:Nat):a5_ K TyK:=sm cod (aw_) [.bo, .bo] [.g [.i .i64, .b, .i .i64, .i .i64, .i .i64, .b, .i .i64, .l true .item, .i .i64, .l true .held, .s, .l true .str], .g [.i .i64, .i .i64, .i .i64, .i .i64, .i .i64, .i .i64, .i .i64, .b, .s]] [] (fun k v1 v2 v3 v4 v5 v6 v7 v8 v9 v10 v11 v12 v13 v14 v15 v16 v17 v18 v19 v20 v21=>hA_ k (⟨v1,v2,v3,v4,v5,v6,(⟨v7,v8⟩:ak_),(⟨v9,v10,v11,v12⟩:ai_)⟩:am_) (⟨v13,v14,v15,v16,v17,v18,v19,v20,v21⟩:ae_)) k [.g [.i .i64, .i .i64, .b, .i .i64, .i .i64, .i .i64, .b, .i .i64, .o 0, .i .i64, .o 1, .s, .o 2, .o 3, .s]] [.l .item, .l .held, .l .str, .l .packet] (fun r=>(r.Code,r.End.Number,r.End.Up,r.End.Life,r.End.Peer,r.End.Since,r.End.Owes,r.End.Send.Base,(),r.End.Take.Next,(),r.End.Take.Open,(),(),r.Text,r.End.Send.Items,r.End.Take.Held,r.End.Take.Ready,r.Out,())) (fun v1 v2 v3 v4 v5 v6 v7 v8 v9 v10 v11 v12 v13 v14 v15=>(⟨v1,(⟨v2,v3,v4,v5,v6,v7,(⟨v8,v12⟩:ak_),(⟨v9,v13,v10,v14⟩:ai_)⟩:am_),v15,v11⟩:aw_)) false
noncomputable abbrev qA_:List (Nat×Cut K TyK (aw_)):=[(9,ct cod [3,4,5,6] [.c (.r 0 0), .c (.r 1 0), .c (.r 2 0), .c (.r 2 1)] [.x [.i .i64, .i .i64, .i .i64, .i .i64, .i .i64, .i .i64, .i .i64, .b, .s], .x [.i .i64, .i .i64, .b, .i .i64, .i .i64, .i .i64, .b, .i .i64, .o 3, .i .i64, .o 4, .s, .o 5, .o 6, .s], .x [.i .i64, .i .i64, .b, .i .i64, .i .i64, .i .i64, .b, .i .i64, .o 7, .i .i64, .o 8, .s, .o 9, .o 10, .s], .l .item, .l .held, .l .str, .l .packet, .l .item, .l .held, .l .str, .l .packet] d2_),
  (16,ct cod [4,5] [.c (.r 0 0), .c (.r 1 0)] [.x [.i .i64, .i .i64, .b, .i .i64, .i .i64, .i .i64, .b, .i .i64, .o 2, .i .i64, .o 3, .s, .o 4, .o 5, .s], .x [.i .i64, .i .i64, .b, .i .i64, .i .i64, .i .i64, .b, .i .i64, .o 6, .i .i64, .o 7, .s, .o 8, .o 9, .s], .l .item, .l .held, .l .str, .l .packet, .l .item, .l .held, .l .str, .l .packet] dK_)]
theorem o6_ (k:Nat):SummOk Try.prog cod 15 (ks_ k):=aG_ codOk Try.f15 (fun k=>aA_ [(46,b3_ k),(58,c0_ k),(59,dV_ k),(60,jC_ k),(61,iX_ k)]) qA_ false [.cell 4 45] 0 [] aF_ Try.func15 (by kernel_rfl) (by kernel_rfl) (by kernel_rfl) (by kernel_rfl)
  (fun k=>Known.of tok eok codOk (all_cons (ce_ k) (all_cons (dh_ k) (all_cons (eX_ k) (all_cons (nE_ k) (all_cons (nm_ k) (ac_)))))))
  (fun k=>QuietOk.of (all_cons (fun h r=>⟨rfl,rfl⟩) (all_cons (fun h r=>by cases h) (all_cons (fun h r=>⟨rfl,rfl⟩) (all_cons (fun h r=>by cases h) (all_cons (fun h r=>by cases h) (ac_)))))))
  (fun a=>rfl)
  (all_cons (ap_ codOk (by kernel_rfl) (by (repeat intro _);show _=_;kernel_rfl) (fun k=>by (repeat intro _);show _=_;kernel_rfl)) (all_cons (ap_ codOk (by kernel_rfl) (by (repeat intro _);show _=_;kernel_rfl) (fun k=>by (repeat intro _);show _=_;kernel_rfl)) (ac_)))
  (fun k=>by (repeat intro _);show _=_;kernel_rfl)
noncomputable def le_ (k:Nat):a5_ K TyK:=sm cod (as_) [.pe] [.c (.l false .byte)] [] (iz_) k [.c (.r 0 0)] [.x [.l false .byte, .i .i64]] (fun r=>((),r.b,r.p,())) (fun v1 v2=>(⟨v1,v2⟩:as_)) false
noncomputable abbrev r9_:List (Nat×Cut K TyK (as_)):=[(3,ct cod [0] [.c (.l false .byte)] [] eJ_)]
theorem qr_ (k:Nat):SummOk Try.prog cod 70 (le_ k):=aG_ codOk Try.f70 (fun k=>aA_ []) r9_ false [.tmp 2] 0 [] aF_ Try.func70 (by kernel_rfl) (by kernel_rfl) (by kernel_rfl) (by kernel_rfl)
  (fun k=>Known.of tok eok codOk (ac_))
  (fun k=>QuietOk.of (ac_))
  (fun a=>rfl)
  (all_cons (ap_ codOk (by kernel_rfl) (by (repeat intro _);show _=_;kernel_rfl) (fun k=>by (repeat intro _);show _=_;kernel_rfl)) (ac_))
  (fun k=>by (repeat intro _);show _=_;kernel_rfl)
noncomputable def iy_ (k:Nat):a5_ K TyK:=sm cod (ByteArray) [.bo, .bo] [.c (.s), .c (.i .i64)] [] (d7_) k [.c (.s)] [] (fun r=>(r,())) (fun v1=>v1) true
noncomputable abbrev sA_:List (Nat×Cut K TyK (ByteArray)):=[(2,ct cod [0,1,5] [.c (.s), .c (.i .i64), .c (.s)] [] cZ_),
  (5,ct cod [0,1,5] [.c (.s), .c (.i .i64), .c (.s)] [] eF_)]
theorem j7_ (k:Nat):SummOk Try.prog cod 94 (iy_ k):=aG_ codOk Try.f94 (fun k=>aA_ []) sA_ false [.tmp 4] 0 [] aF_ Try.func94 (by kernel_rfl) (by kernel_rfl) (by kernel_rfl) (by kernel_rfl)
  (fun k=>Known.of tok eok codOk (ac_))
  (fun k=>QuietOk.of (ac_))
  (fun a=>rfl)
  (all_cons (ap_ codOk (by kernel_rfl) (by (repeat intro _);show _=_;kernel_rfl) (fun k=>by (repeat intro _);show _=_;kernel_rfl)) (all_cons (ap_ codOk (by kernel_rfl) (by (repeat intro _);show _=_;kernel_rfl) (fun k=>by (repeat intro _);show _=_;kernel_rfl)) (ac_)))
  (fun k=>by (repeat intro _);show _=_;kernel_rfl)
noncomputable def cK_ (k:Nat):a5_ K TyK:=sm cod (Int×as_) [.mv, .bo] [.c (.r 0 0), .c (.i .i64)] [.x [.l false .byte, .i .i64]] (fun k v1 v2 v3=>ah_ k (⟨v2,v3⟩:as_) v1) k [.c (.i .i64)] [.x [.l false .byte, .i .i64]] (fun r=>(r.1,r.2.b,r.2.p,())) (fun v1 v2 v3=>(v1,(⟨v2,v3⟩:as_))) false
theorem c8_ (k:Nat):SummOk Try.prog cod 73 (cK_ k):=aG_ codOk Try.f73 (fun k=>aA_ []) [] false [.tmp 4] 1 [false] aF_ Try.func73 (by kernel_rfl) (by kernel_rfl) (by kernel_rfl) (by kernel_rfl)
  (fun k=>Known.of tok eok codOk (ac_))
  (fun k=>QuietOk.of (ac_))
  (fun a=>rfl)
  (ac_)
  (fun k=>by (repeat intro _);show _=_;kernel_rfl)
noncomputable def mK_ (k:Nat):a5_ K TyK:=sm cod (ByteArray×as_) [.bo] [.c (.r 0 0)] [.x [.l false .byte, .i .i64]] (fun k v1 v2=>jR_ k (⟨v1,v2⟩:as_)) k [.c (.s)] [.x [.l false .byte, .i .i64]] (fun r=>(r.1,r.2.b,r.2.p,())) (fun v1 v2 v3=>(v1,(⟨v2,v3⟩:as_))) false
theorem sm_ (k:Nat):SummOk Try.prog cod 147 (mK_ k):=aG_ codOk Try.f147 (fun k=>aA_ [(94,iy_ k),(73,cK_ k)]) [] false [.tmp 2] 1 [false] aF_ Try.func147 (by kernel_rfl) (by kernel_rfl) (by kernel_rfl) (by kernel_rfl)
  (fun k=>Known.of tok eok codOk (all_cons (j7_ k) (all_cons (c8_ k) (ac_))))
  (fun k=>QuietOk.of (all_cons (fun h r=>⟨rfl,rfl⟩) (all_cons (fun h r=>by cases h) (ac_))))
  (fun a=>rfl)
  (ac_)
  (fun k=>by (repeat intro _);show _=_;kernel_rfl)
noncomputable def kg_ (k:Nat):a5_ K TyK:=sm cod (Int×as_) [.bo] [.c (.r 0 0)] [.x [.l false .byte, .i .i64]] (fun k v1 v2=>hE_ k (⟨v1,v2⟩:as_)) k [.c (.i .i64)] [.x [.l false .byte, .i .i64]] (fun r=>(r.1,r.2.b,r.2.p,())) (fun v1 v2 v3=>(v1,(⟨v2,v3⟩:as_))) false
theorem pL_ (k:Nat):SummOk Try.prog cod 148 (kg_ k):=aG_ codOk Try.f148 (fun k=>aA_ [(73,cK_ k)]) [] false [.tmp 2] 1 [false] aF_ Try.func148 (by kernel_rfl) (by kernel_rfl) (by kernel_rfl) (by kernel_rfl)
  (fun k=>Known.of tok eok codOk (all_cons (c8_ k) (ac_)))
  (fun k=>QuietOk.of (all_cons (fun h r=>by cases h) (ac_)))
  (fun a=>rfl)
  (ac_)
  (fun k=>by (repeat intro _);show _=_;kernel_rfl)
noncomputable def lg_ (k:Nat):a5_ K TyK:=sm cod (am_) [.bo] [.c (.i .i64)] [] (g0_) k [.g [.i .i64, .b, .i .i64, .i .i64, .i .i64, .b, .i .i64, .o 0, .i .i64, .o 1, .s, .o 2]] [.l .item, .l .held, .l .str] (fun r=>(r.Number,r.Up,r.Life,r.Peer,r.Since,r.Owes,r.Send.Base,(),r.Take.Next,(),r.Take.Open,(),r.Send.Items,r.Take.Held,r.Take.Ready,())) (fun v1 v2 v3 v4 v5 v6 v7 v8 v9 v10 v11 v12=>(⟨v1,v2,v3,v4,v5,v6,(⟨v7,v10⟩:ak_),(⟨v8,v11,v9,v12⟩:ai_)⟩:am_)) false
theorem qF_ (k:Nat):SummOk Try.prog cod 172 (lg_ k):=aG_ codOk Try.f172 (fun k=>aA_ [(89,bj_ k)]) [] false [.cell 2 42] 0 [] aF_ Try.func172 (by kernel_rfl) (by kernel_rfl) (by kernel_rfl) (by kernel_rfl)
  (fun k=>Known.of tok eok codOk (all_cons (a6_ k) (ac_)))
  (fun k=>QuietOk.of (all_cons (fun h r=>⟨rfl,rfl⟩) (ac_)))
  (fun a=>rfl)
  (ac_)
  (fun k=>by (repeat intro _);show _=_;kernel_rfl)
noncomputable def jq_ (k:Nat):a5_ K TyK:=sm cod (ab_) [.bo, .bo] [.c (.s), .c (.i .i64)] [] (gE_) k [.g [.s, .i .i64, .o 0, .o 1, .s, .o 2, .o 3]] [.l .end, .l .parcel, .l .record, .l .record] (fun r=>(r.Key,r.Width,(),(),r.Forged,(),(),r.Ends,r.Flight,r.Given,r.Taken,())) (fun v1 v2 v3 v4 v5 v6 v7=>(⟨v1,v2,v4,v5,v3,v6,v7⟩:ab_)) false
theorem nA_ (k:Nat):SummOk Try.prog cod 146 (jq_ k):=aG_ codOk Try.f146 (fun k=>aA_ [(89,bj_ k),(172,lg_ k)]) [] false [.cell 4 60] 0 [] aF_ Try.func146 (by kernel_rfl) (by kernel_rfl) (by kernel_rfl) (by kernel_rfl)
  (fun k=>Known.of tok eok codOk (all_cons (a6_ k) (all_cons (qF_ k) (ac_))))
  (fun k=>QuietOk.of (all_cons (fun h r=>⟨rfl,rfl⟩) (all_cons (fun h r=>by cases h) (ac_))))
  (fun a=>rfl)
  (ac_)
  (fun k=>by (repeat intro _);show _=_;kernel_rfl)
noncomputable def hp_ (k:Nat):a5_ K TyK:=sm cod (Bool) [.bo] [.c (.l true .record)] [] (eV_) k [.c (.b)] [] (fun r=>(r,())) (fun v1=>v1) true
noncomputable abbrev lC_:List (Nat×Cut K TyK (Bool)):=[(2,ct cod [0,3] [.c (.l true .record), .c (.i .i64)] [] bP_)]
theorem kF_ (k:Nat):SummOk Try.prog cod 90 (hp_ k):=aG_ codOk Try.f90 (fun k=>aA_ [(89,bj_ k)]) lC_ false [.tmp 2] 0 [] aF_ Try.func90 (by kernel_rfl) (by kernel_rfl) (by kernel_rfl) (by kernel_rfl)
  (fun k=>Known.of tok eok codOk (all_cons (a6_ k) (ac_)))
  (fun k=>QuietOk.of (all_cons (fun h r=>⟨rfl,rfl⟩) (ac_)))
  (fun a=>rfl)
  (all_cons (ap_ codOk (by kernel_rfl) (by (repeat intro _);show _=_;kernel_rfl) (fun k=>by (repeat intro _);show _=_;kernel_rfl)) (ac_))
  (fun k=>by (repeat intro _);show _=_;kernel_rfl)
noncomputable def er_ (k:Nat):a5_ K TyK:=sm cod (Bool) [.bo] [.g [.s, .i .i64, .l true .end, .l true .parcel, .s, .l true .record, .l true .record]] [] (fun k v1 v2 v3 v4 v5 v6 v7=>bq_ k (⟨v1,v2,v3,v4,v5,v6,v7⟩:ab_)) k [.c (.b)] [] (fun r=>(r,())) (fun v1=>v1) true
noncomputable abbrev mi_:List (Nat×Cut K TyK (Bool)):=[(4,ct cod [1,3] [.c (.r 0 0), .c (.i .i64)] [.x [.s, .i .i64, .l true .end, .l true .parcel, .s, .l true .record, .l true .record]] cb_),
  (9,ct cod [1,4] [.c (.r 0 0), .c (.i .i64)] [.x [.s, .i .i64, .l true .end, .l true .parcel, .s, .l true .record, .l true .record]] b8_)]
theorem fu_ (k:Nat):SummOk Try.prog cod 34 (er_ k):=aG_ codOk Try.f34 (fun k=>aA_ [(89,bj_ k),(45,b2_ k),(90,hp_ k)]) mi_ false [.tmp 2] 0 [] aF_ Try.func34 (by kernel_rfl) (by kernel_rfl) (by kernel_rfl) (by kernel_rfl)
  (fun k=>Known.of tok eok codOk (all_cons (a6_ k) (all_cons (cf_ k) (all_cons (kF_ k) (ac_)))))
  (fun k=>QuietOk.of (all_cons (fun h r=>⟨rfl,rfl⟩) (all_cons (fun h r=>⟨rfl,rfl⟩) (all_cons (fun h r=>⟨rfl,rfl⟩) (ac_)))))
  (fun a=>rfl)
  (all_cons (ap_ codOk (by kernel_rfl) (by (repeat intro _);show _=_;kernel_rfl) (fun k=>by (repeat intro _);show _=_;kernel_rfl)) (all_cons (ap_ codOk (by kernel_rfl) (by (repeat intro _);show _=_;kernel_rfl) (fun k=>by (repeat intro _);show _=_;kernel_rfl)) (ac_)))
  (fun k=>by (repeat intro _);show _=_;kernel_rfl)
noncomputable def it_ (k:Nat):a5_ K TyK:=sm cod (ab_) [.bo] [.g [.s, .i .i64, .l true .end, .l true .parcel, .s, .l true .record, .l true .record]] [] (fun k v1 v2 v3 v4 v5 v6 v7=>ei_ k (⟨v1,v2,v3,v4,v5,v6,v7⟩:ab_)) k [.g [.s, .i .i64, .o 0, .o 1, .s, .o 2, .o 3]] [.l .end, .l .parcel, .l .record, .l .record] (fun r=>(r.Key,r.Width,(),(),r.Forged,(),(),r.Ends,r.Flight,r.Given,r.Taken,())) (fun v1 v2 v3 v4 v5 v6 v7=>(⟨v1,v2,v4,v5,v3,v6,v7⟩:ab_)) false
noncomputable abbrev rL_:List (Nat×Cut K TyK (ab_)):=[(4,ct cod [1,2,3,4] [.c (.r 0 0), .c (.r 1 0), .c (.r 2 0), .c (.i .i64)] [.x [.s, .i .i64, .l true .end, .l true .parcel, .s, .l true .record, .l true .record], .x [.s, .i .i64, .o 3, .o 4, .s, .o 5, .o 6], .x [.s, .i .i64, .o 7, .l true .parcel, .s, .l true .record, .l true .record], .l .end, .l .parcel, .l .record, .l .record, .l .end] dS_)]
theorem kd_ (k:Nat):SummOk Try.prog cod 85 (it_ k):=aG_ codOk Try.f85 (fun k=>aA_ [(52,dv_ k)]) rL_ false [.cell 2 60] 0 [] aF_ Try.func85 (by kernel_rfl) (by kernel_rfl) (by kernel_rfl) (by kernel_rfl)
  (fun k=>Known.of tok eok codOk (all_cons (dQ_ k) (ac_)))
  (fun k=>QuietOk.of (all_cons (fun h r=>by cases h) (ac_)))
  (fun a=>rfl)
  (all_cons (ap_ codOk (by kernel_rfl) (by (repeat intro _);show _=_;kernel_rfl) (fun k=>by (repeat intro _);show _=_;kernel_rfl)) (ac_))
  (fun k=>by (repeat intro _);show _=_;kernel_rfl)
noncomputable def iW_ (k:Nat):a5_ K TyK:=sm cod (ak_×List Int) [.bo] [.g [.i .i64, .l true .item]] [] (fun k v1 v2=>fi_ k (⟨v1,v2⟩:ak_)) k [.g [.i .i64, .o 0], .c (.o 1)] [.l .item, .l .int] (fun r=>(r.1.Base,(),(),r.1.Items,r.2,())) (fun v1 v2 v3=>((⟨v1,v2⟩:ak_),v3)) false
noncomputable abbrev qc_:List (Nat×Cut K TyK (ak_×List Int)):=[(6,ct cod [1,2,4,5,6] [.c (.r 0 0), .c (.r 1 0), .c (.o 2), .c (.r 3 0), .c (.i .i64)] [.x [.i .i64, .l true .item], .x [.i .i64, .o 4], .l .int, .x [.i .i64, .o 5], .l .item, .l .item] cI_),
  (7,ct cod [1,2,4,5,6] [.c (.r 0 0), .c (.r 1 0), .c (.o 2), .c (.r 3 0), .c (.i .i64)] [.x [.i .i64, .l true .item], .x [.i .i64, .o 4], .l .int, .x [.i .i64, .o 5], .l .item, .l .item] ch_)]
theorem ni_ (k:Nat):SummOk Try.prog cod 101 (iW_ k):=aG_ codOk Try.f101 (fun k=>aA_ [(105,dF_ k),(118,fh_ k)]) qc_ false [.cell 2 37, .tmp 3] 0 [] aF_ Try.func101 (by kernel_rfl) (by kernel_rfl) (by kernel_rfl) (by kernel_rfl)
  (fun k=>Known.of tok eok codOk (all_cons (ey_ k) (all_cons (f5_ k) (ac_))))
  (fun k=>QuietOk.of (all_cons (fun h r=>⟨rfl,rfl⟩) (all_cons (fun h r=>by cases h) (ac_))))
  (fun a=>rfl)
  (all_cons (ap_ codOk (by kernel_rfl) (by (repeat intro _);show _=_;kernel_rfl) (fun k=>by (repeat intro _);show _=_;kernel_rfl)) (all_cons (ap_ codOk (by kernel_rfl) (by (repeat intro _);show _=_;kernel_rfl) (fun k=>by (repeat intro _);show _=_;kernel_rfl)) (ac_)))
  (fun k=>by (repeat intro _);show _=_;kernel_rfl)
noncomputable def je_ (k:Nat):a5_ K TyK:=sm cod (Int×Int) [.bo] [.g [.i .i64, .l true .held, .s, .l true .str]] [] (fun k v1 v2 v3 v4=>ep_ k (⟨v1,v2,v3,v4⟩:ai_)) k [.c (.i .i64), .c (.i .i64)] [] (fun r=>(r.1,r.2,())) (fun v1 v2=>(v1,v2)) true
noncomputable abbrev o8_:List (Nat×Cut K TyK (Int×Int)):=[(5,ct cod [1,4,5] [.c (.r 0 0), .c (.i .i64), .c (.i .i64)] [.x [.i .i64, .l true .held, .s, .l true .str]] cj_),
  (9,ct cod [1,4,5,6,7] [.c (.r 0 0), .c (.i .i64), .c (.i .i64), .c (.i .i64), .c (.i .i64)] [.x [.i .i64, .l true .held, .s, .l true .str]] cS_)]
theorem ns_ (k:Nat):SummOk Try.prog cod 102 (je_ k):=aG_ codOk Try.f102 (fun k=>aA_ [(106,dA_ k)]) o8_ false [.tmp 2, .tmp 3] 0 [] aF_ Try.func102 (by kernel_rfl) (by kernel_rfl) (by kernel_rfl) (by kernel_rfl)
  (fun k=>Known.of tok eok codOk (all_cons (ev_ k) (ac_)))
  (fun k=>QuietOk.of (all_cons (fun h r=>⟨rfl,rfl⟩) (ac_)))
  (fun a=>rfl)
  (all_cons (ap_ codOk (by kernel_rfl) (by (repeat intro _);show _=_;kernel_rfl) (fun k=>by (repeat intro _);show _=_;kernel_rfl)) (all_cons (ap_ codOk (by kernel_rfl) (by (repeat intro _);show _=_;kernel_rfl) (fun k=>by (repeat intro _);show _=_;kernel_rfl)) (ac_)))
  (fun k=>by (repeat intro _);show _=_;kernel_rfl)
noncomputable def j9_ (k:Nat):a5_ K TyK:=sm cod (aw_) [.bo] [.g [.i .i64, .b, .i .i64, .i .i64, .i .i64, .b, .i .i64, .l true .item, .i .i64, .l true .held, .s, .l true .str]] [] (fun k v1 v2 v3 v4 v5 v6 v7 v8 v9 v10 v11 v12=>ht_ k (⟨v1,v2,v3,v4,v5,v6,(⟨v7,v8⟩:ak_),(⟨v9,v10,v11,v12⟩:ai_)⟩:am_)) k [.g [.i .i64, .i .i64, .b, .i .i64, .i .i64, .i .i64, .b, .i .i64, .o 0, .i .i64, .o 1, .s, .o 2, .o 3, .s]] [.l .item, .l .held, .l .str, .l .packet] (fun r=>(r.Code,r.End.Number,r.End.Up,r.End.Life,r.End.Peer,r.End.Since,r.End.Owes,r.End.Send.Base,(),r.End.Take.Next,(),r.End.Take.Open,(),(),r.Text,r.End.Send.Items,r.End.Take.Held,r.End.Take.Ready,r.Out,())) (fun v1 v2 v3 v4 v5 v6 v7 v8 v9 v10 v11 v12 v13 v14 v15=>(⟨v1,(⟨v2,v3,v4,v5,v6,v7,(⟨v8,v12⟩:ak_),(⟨v9,v13,v10,v14⟩:ai_)⟩:am_),v15,v11⟩:aw_)) false
noncomputable abbrev qy_:List (Nat×Cut K TyK (aw_)):=[(9,ct cod [2,3,4] [.c (.r 0 0), .c (.r 1 0), .c (.o 2)] [.x [.i .i64, .i .i64, .b, .i .i64, .i .i64, .i .i64, .b, .i .i64, .o 3, .i .i64, .o 4, .s, .o 5, .o 6, .s], .x [.i .i64, .b, .i .i64, .i .i64, .i .i64, .b, .i .i64, .o 7, .i .i64, .o 8, .s, .o 9], .l .packet, .l .item, .l .held, .l .str, .l .packet, .l .item, .l .held, .l .str] eh_),
  (13,ct cod [2,3,4,5,6,7] [.c (.r 0 0), .c (.r 1 0), .c (.o 2), .c (.r 3 0), .c (.o 4), .c (.i .i64)] [.x [.i .i64, .i .i64, .b, .i .i64, .i .i64, .i .i64, .b, .i .i64, .o 5, .i .i64, .o 6, .s, .o 7, .o 8, .s], .x [.i .i64, .b, .i .i64, .i .i64, .i .i64, .b, .i .i64, .o 9, .i .i64, .o 10, .s, .o 11], .l .packet, .x [.i .i64, .o 9], .l .int, .l .item, .l .held, .l .str, .l .packet, .l .item, .l .held, .l .str] cJ_),
  (17,ct cod [2,3,4] [.c (.r 0 0), .c (.r 1 0), .c (.o 2)] [.x [.i .i64, .i .i64, .b, .i .i64, .i .i64, .i .i64, .b, .i .i64, .o 3, .i .i64, .o 4, .s, .o 5, .o 6, .s], .x [.i .i64, .b, .i .i64, .i .i64, .i .i64, .b, .i .i64, .o 7, .i .i64, .o 8, .s, .o 9], .l .packet, .l .item, .l .held, .l .str, .l .packet, .l .item, .l .held, .l .str] dH_),
  (22,ct cod [2,3,4] [.c (.r 0 0), .c (.r 1 0), .c (.o 2)] [.x [.i .i64, .i .i64, .b, .i .i64, .i .i64, .i .i64, .b, .i .i64, .o 3, .i .i64, .o 4, .s, .o 5, .o 6, .s], .x [.i .i64, .b, .i .i64, .i .i64, .i .i64, .b, .i .i64, .o 7, .i .i64, .o 8, .s, .o 9], .l .packet, .l .item, .l .held, .l .str, .l .packet, .l .item, .l .held, .l .str] ci_)]
theorem of_ (k:Nat):SummOk Try.prog cod 42 (j9_ k):=aG_ codOk Try.f42 (fun k=>aA_ [(45,b2_ k),(52,dv_ k),(101,iW_ k),(102,je_ k)]) qy_ false [.cell 2 45] 0 [] aF_ Try.func42 (by kernel_rfl) (by kernel_rfl) (by kernel_rfl) (by kernel_rfl)
  (fun k=>Known.of tok eok codOk (all_cons (cf_ k) (all_cons (dQ_ k) (all_cons (ni_ k) (all_cons (ns_ k) (ac_))))))
  (fun k=>QuietOk.of (all_cons (fun h r=>⟨rfl,rfl⟩) (all_cons (fun h r=>by cases h) (all_cons (fun h r=>by cases h) (all_cons (fun h r=>⟨rfl,rfl⟩) (ac_))))))
  (fun a=>rfl)
  (all_cons (ap_ codOk (by kernel_rfl) (by (repeat intro _);show _=_;kernel_rfl) (fun k=>by (repeat intro _);show _=_;kernel_rfl)) (all_cons (ap_ codOk (by kernel_rfl) (by (repeat intro _);show _=_;kernel_rfl) (fun k=>by (repeat intro _);show _=_;kernel_rfl)) (all_cons (ap_ codOk (by kernel_rfl) (by (repeat intro _);show _=_;kernel_rfl) (fun k=>by (repeat intro _);show _=_;kernel_rfl)) (all_cons (ap_ codOk (by kernel_rfl) (by (repeat intro _);show _=_;kernel_rfl) (fun k=>by (repeat intro _);show _=_;kernel_rfl)) (ac_)))))
  (fun k=>by (repeat intro _);show _=_;kernel_rfl)
noncomputable def iY_ (k:Nat):a5_ K TyK:=sm cod (ByteArray) [.bo, .bo] [.c (.i .i64), .c (.i .i64)] [] (bW_) k [.c (.s)] [] (fun r=>(r,())) (fun v1=>v1) true
noncomputable abbrev ox_:List (Nat×Cut K TyK (ByteArray)):=[(3,ct cod [0,1,5,6] [.c (.i .i64), .c (.i .i64), .c (.s), .c (.i .i64)] [] cG_)]
theorem nw_ (k:Nat):SummOk Try.prog cod 180 (iY_ k):=aG_ codOk Try.f180 (fun k=>aA_ []) ox_ false [.tmp 4] 0 [] aF_ Try.func180 (by kernel_rfl) (by kernel_rfl) (by kernel_rfl) (by kernel_rfl)
  (fun k=>Known.of tok eok codOk (ac_))
  (fun k=>QuietOk.of (ac_))
  (fun a=>rfl)
  (all_cons (ap_ codOk (by kernel_rfl) (by (repeat intro _);show _=_;kernel_rfl) (fun k=>by (repeat intro _);show _=_;kernel_rfl)) (ac_))
  (fun k=>by (repeat intro _);show _=_;kernel_rfl)
noncomputable def lV_ (k:Nat):a5_ K TyK:=sm cod (ByteArray) [.bo] [.g [.i .i64, .i .i64, .i .i64, .i .i64, .i .i64, .i .i64, .i .i64, .b, .s]] [] (fun k v1 v2 v3 v4 v5 v6 v7 v8 v9=>g5_ k (⟨v1,v2,v3,v4,v5,v6,v7,v8,v9⟩:ae_)) k [.c (.s)] [] (fun r=>(r,())) (fun v1=>v1) true
noncomputable abbrev r8_:List (Nat×Cut K TyK (ByteArray)):=[(7,ct cod [1,3,4] [.c (.r 0 0), .c (.s), .c (.i .i64)] [.x [.i .i64, .i .i64, .i .i64, .i .i64, .i .i64, .i .i64, .i .i64, .b, .s]] eN_)]
theorem qG_ (k:Nat):SummOk Try.prog cod 169 (lV_ k):=aG_ codOk Try.f169 (fun k=>aA_ [(180,iY_ k)]) r8_ false [.tmp 2] 0 [] aF_ Try.func169 (by kernel_rfl) (by kernel_rfl) (by kernel_rfl) (by kernel_rfl)
  (fun k=>Known.of tok eok codOk (all_cons (nw_ k) (ac_)))
  (fun k=>QuietOk.of (all_cons (fun h r=>⟨rfl,rfl⟩) (ac_)))
  (fun a=>rfl)
  (all_cons (ap_ codOk (by kernel_rfl) (by (repeat intro _);show _=_;kernel_rfl) (fun k=>by (repeat intro _);show _=_;kernel_rfl)) (ac_))
  (fun k=>by (repeat intro _);show _=_;kernel_rfl)
noncomputable def rk_ (k:Nat):a5_ K TyK:=sm cod (ByteArray) [.bo, .bo, .bo] [.c (.s), .c (.s), .c (.i .i64)] [] (n4_) k [.c (.s)] [] (fun r=>(r,())) (fun v1=>v1) true
noncomputable abbrev x3_:List (Nat×Cut K TyK (ByteArray)):=[(6,ct cod [2,7,8,9] [.c (.i .i64), .c (.s), .c (.i .u64), .c (.i .i64)] [] fQ_),
  (11,ct cod [2,8,10,11] [.c (.i .i64), .c (.i .u64), .c (.s), .c (.i .i64)] [] e8_)]
theorem uL_ (k:Nat):SummOk Try.prog cod 168 (rk_ k):=aG_ codOk Try.f168 (fun k=>aA_ [(89,bj_ k)]) x3_ false [.tmp 6] 0 [] aF_ Try.func168 (by kernel_rfl) (by kernel_rfl) (by kernel_rfl) (by kernel_rfl)
  (fun k=>Known.of tok eok codOk (all_cons (a6_ k) (ac_)))
  (fun k=>QuietOk.of (all_cons (fun h r=>⟨rfl,rfl⟩) (ac_)))
  (fun a=>rfl)
  (all_cons (ap_ codOk (by kernel_rfl) (by (repeat intro _);show _=_;kernel_rfl) (fun k=>by (repeat intro _);show _=_;kernel_rfl)) (all_cons (ap_ codOk (by kernel_rfl) (by (repeat intro _);show _=_;kernel_rfl) (fun k=>by (repeat intro _);show _=_;kernel_rfl)) (ac_)))
  (fun k=>by (repeat intro _);show _=_;kernel_rfl)
noncomputable def fF_ (k:Nat):a5_ K TyK:=sm cod (ByteArray) [.bo, .bo, .bo] [.g [.i .i64, .i .i64, .i .i64, .i .i64, .i .i64, .i .i64, .i .i64, .b, .s], .c (.s), .c (.i .i64)] [] (fun k v1 v2 v3 v4 v5 v6 v7 v8 v9 v10 v11=>dd_ k (⟨v1,v2,v3,v4,v5,v6,v7,v8,v9⟩:ae_) v10 v11) k [.c (.s)] [] (fun r=>(r,())) (fun v1=>v1) true
theorem hh_ (k:Nat):SummOk Try.prog cod 140 (fF_ k):=aG_ codOk Try.f140 (fun k=>aA_ [(53,kR_ k),(89,bj_ k),(169,lV_ k),(168,rk_ k)]) [] false [.tmp 6] 0 [] aF_ Try.func140 (by kernel_rfl) (by kernel_rfl) (by kernel_rfl) (by kernel_rfl)
  (fun k=>Known.of tok eok codOk (all_cons (m2_ k) (all_cons (a6_ k) (all_cons (qG_ k) (all_cons (uL_ k) (ac_))))))
  (fun k=>QuietOk.of (all_cons (fun h r=>⟨rfl,rfl⟩) (all_cons (fun h r=>⟨rfl,rfl⟩) (all_cons (fun h r=>⟨rfl,rfl⟩) (all_cons (fun h r=>⟨rfl,rfl⟩) (ac_))))))
  (fun a=>rfl)
  (ac_)
  (fun k=>by (repeat intro _);show _=_;kernel_rfl)
noncomputable def gB_ (k:Nat):a5_ K TyK:=sm cod (ab_) [.mv] [.g [.s, .i .i64, .o 0, .o 1, .s, .o 2, .o 3]] [.l .end, .l .parcel, .l .record, .l .record] (fun k v1 v2 v3 v4 v5 v6 v7=>fW_ k (⟨v1,v2,v4,v5,v3,v6,v7⟩:ab_)) k [.g [.s, .i .i64, .o 4, .o 5, .s, .o 6, .o 7]] [.d, .d, .d, .d, .l .end, .l .parcel, .l .record, .l .record] (fun r=>(r.Key,r.Width,(),(),r.Forged,(),(),r.Ends,r.Flight,r.Given,r.Taken,())) (fun v1 v2 v3 v4 v5 v6 v7=>(⟨v1,v2,v4,v5,v3,v6,v7⟩:ab_)) false
noncomputable abbrev rK_:List (Nat×Cut K TyK (ab_)):=[(2,ct cod [1,2,3] [.c (.r 4 0), .c (.r 5 0), .c (.i .i64)] [.d, .d, .d, .d, .x [.s, .i .i64, .o 6, .o 7, .s, .o 8, .o 9], .x [.s, .i .i64, .o 10, .o 11, .s, .o 12, .o 13], .l .end, .l .parcel, .l .record, .l .record, .l .end, .l .parcel, .l .record, .l .record] bT_),
  (7,ct cod [1,2,3,4,5] [.c (.r 4 0), .c (.r 5 0), .c (.i .i64), .c (.r 6 0), .c (.i .i64)] [.d, .d, .d, .d, .x [.s, .i .i64, .o 7, .o 8, .s, .o 9, .o 10], .x [.s, .i .i64, .o 11, .o 12, .s, .o 13, .o 14], .x [.i .i64, .i .i64, .b, .i .i64, .i .i64, .i .i64, .b, .i .i64, .o 15, .i .i64, .o 16, .s, .o 17, .o 18, .s], .l .end, .l .parcel, .l .record, .l .record, .l .end, .l .parcel, .l .record, .l .record, .d, .d, .d, .l .packet] dR_)]
theorem hJ_ (k:Nat):SummOk Try.prog cod 141 (gB_ k):=aG_ codOk Try.f141 (fun k=>aA_ [(42,j9_ k),(140,fF_ k)]) rK_ false [.cell 2 60] 4 [true,true,true,true] aF_ Try.func141 (by kernel_rfl) (by kernel_rfl) (by kernel_rfl) (by kernel_rfl)
  (fun k=>Known.of tok eok codOk (all_cons (of_ k) (all_cons (hh_ k) (ac_))))
  (fun k=>QuietOk.of (all_cons (fun h r=>by cases h) (all_cons (fun h r=>⟨rfl,rfl⟩) (ac_))))
  (fun a=>rfl)
  (all_cons (ap_ codOk (by kernel_rfl) (by (repeat intro _);show _=_;kernel_rfl) (fun k=>by (repeat intro _);show _=_;kernel_rfl)) (all_cons (ap_ codOk (by kernel_rfl) (by (repeat intro _);show _=_;kernel_rfl) (fun k=>by (repeat intro _);show _=_;kernel_rfl)) (ac_)))
  (fun k=>by (repeat intro _);show _=_;kernel_rfl)
noncomputable def jc_ (k:Nat):a5_ K TyK:=sm cod (List aJ_×Bool) [.mv, .mv, .mv] [.c (.o 0), .g [.i .i64, .s, .s], .c (.i .i64)] [.l .l7count] (fun k v1 v2 v3 v4 v5=>gw_ k v5 (⟨v1,v2,v3⟩:ad_) v4) k [.c (.o 1), .c (.b)] [.d, .l .l7count] (fun r=>((),r.2,r.1,())) (fun v1 v2=>(v2,v1)) false
noncomputable abbrev oR_:List (Nat×Cut K TyK (List aJ_×Bool)):=[(2,ct cod [0,2,4,8] [.c (.o 1), .c (.i .i64), .c (.r 2 0), .c (.i .i64)] [.d, .l .l7count, .x [.i .i64, .s, .s]] bI_)]
theorem ny_ (k:Nat):SummOk Try.prog cod 142 (jc_ k):=aG_ codOk Try.f142 (fun k=>aA_ []) oR_ false [.tmp 6, .tmp 7] 1 [true] aF_ Try.func142 (by kernel_rfl) (by kernel_rfl) (by kernel_rfl) (by kernel_rfl)
  (fun k=>Known.of tok eok codOk (ac_))
  (fun k=>QuietOk.of (ac_))
  (fun a=>rfl)
  (all_cons (ap_ codOk (by kernel_rfl) (by (repeat intro _);show _=_;kernel_rfl) (fun k=>by (repeat intro _);show _=_;kernel_rfl)) (ac_))
  (fun k=>by (repeat intro _);show _=_;kernel_rfl)
noncomputable def eS_ (k:Nat):a5_ K TyK:=sm cod (List ad_) [.bo, .bo] [.c (.l true .parcel), .c (.i .i64)] [] (dM_) k [.c (.o 0)] [.l .parcel] (fun r=>((),r,())) (fun v1=>v1) false
theorem fG_ (k:Nat):SummOk Try.prog cod 144 (eS_ k):=aG_ codOk Try.f144 (fun k=>aA_ []) [] false [.tmp 4] 0 [] aF_ Try.func144 (by kernel_rfl) (by kernel_rfl) (by kernel_rfl) (by kernel_rfl)
  (fun k=>Known.of tok eok codOk (ac_))
  (fun k=>QuietOk.of (ac_))
  (fun a=>rfl)
  (ac_)
  (fun k=>by (repeat intro _);show _=_;kernel_rfl)
noncomputable def li_ (k:Nat):a5_ K TyK:=sm cod (Int) [.bo] [.c (.s)] [] (fI_) k [.c (.i .i64)] [] (fun r=>(r,())) (fun v1=>v1) true
noncomputable abbrev sf_:List (Nat×Cut K TyK (Int)):=[(3,ct cod [0,3,4] [.c (.s), .c (.i .i64), .c (.i .i64)] [] dP_)]
theorem qH_ (k:Nat):SummOk Try.prog cod 153 (li_ k):=aG_ codOk Try.f153 (fun k=>aA_ []) sf_ false [.tmp 2] 0 [] aF_ Try.func153 (by kernel_rfl) (by kernel_rfl) (by kernel_rfl) (by kernel_rfl)
  (fun k=>Known.of tok eok codOk (ac_))
  (fun k=>QuietOk.of (ac_))
  (fun a=>rfl)
  (all_cons (ap_ codOk (by kernel_rfl) (by (repeat intro _);show _=_;kernel_rfl) (fun k=>by (repeat intro _);show _=_;kernel_rfl)) (ac_))
  (fun k=>by (repeat intro _);show _=_;kernel_rfl)
noncomputable def hM_ (k:Nat):a5_ K TyK:=sm cod (ae_×Bool) [.bo, .bo, .bo] [.c (.s), .c (.s), .c (.i .i64)] [] (fA_) k [.g [.i .i64, .i .i64, .i .i64, .i .i64, .i .i64, .i .i64, .i .i64, .b, .s], .c (.b)] [] (fun r=>(r.1.Kind,r.1.From,r.1.Mine,r.1.Yours,r.1.Next,r.1.Mask,r.1.Seq,r.1.Last,r.1.Part,r.2,())) (fun v1 v2 v3 v4 v5 v6 v7 v8 v9 v10=>((⟨v1,v2,v3,v4,v5,v6,v7,v8,v9⟩:ae_),v10)) true
noncomputable abbrev l9_:List (Nat×Cut K TyK (ae_×Bool)):=[(11,ct cod [0,1,2,6,9] [.c (.s), .c (.s), .c (.i .i64), .c (.r 0 0), .c (.r 1 0)] [.x [.i .i64, .i .i64, .i .i64, .i .i64, .i .i64, .i .i64, .i .i64, .b, .s], .x [.i .i64, .i .i64, .i .i64, .i .i64, .i .i64, .i .i64, .i .i64, .b, .s]] cA_)]
theorem lo_ (k:Nat):SummOk Try.prog cod 88 (hM_ k):=aG_ codOk Try.f88 (fun k=>aA_ [(89,bj_ k),(153,li_ k),(140,fF_ k)]) l9_ false [.cell 6 48, .tmp 7] 0 [] aF_ Try.func88 (by kernel_rfl) (by kernel_rfl) (by kernel_rfl) (by kernel_rfl)
  (fun k=>Known.of tok eok codOk (all_cons (a6_ k) (all_cons (qH_ k) (all_cons (hh_ k) (ac_)))))
  (fun k=>QuietOk.of (all_cons (fun h r=>⟨rfl,rfl⟩) (all_cons (fun h r=>⟨rfl,rfl⟩) (all_cons (fun h r=>⟨rfl,rfl⟩) (ac_)))))
  (fun a=>rfl)
  (all_cons (ap_ codOk (by kernel_rfl) (by (repeat intro _);show _=_;kernel_rfl) (fun k=>by (repeat intro _);show _=_;kernel_rfl)) (ac_))
  (fun k=>by (repeat intro _);show _=_;kernel_rfl)
noncomputable def f0_ (k:Nat):a5_ K TyK:=sm cod (ab_) [.mv, .mv] [.g [.s, .i .i64, .o 0, .o 1, .s, .o 2, .o 3], .c (.i .i64)] [.l .end, .l .parcel, .l .record, .l .record] (fun k v1 v2 v3 v4 v5 v6 v7 v8=>e6_ k (⟨v1,v2,v5,v6,v3,v7,v8⟩:ab_) v4) k [.g [.s, .i .i64, .o 4, .o 5, .s, .o 6, .o 7]] [.d, .d, .d, .d, .l .end, .l .parcel, .l .record, .l .record] (fun r=>(r.Key,r.Width,(),(),r.Forged,(),(),r.Ends,r.Flight,r.Given,r.Taken,())) (fun v1 v2 v3 v4 v5 v6 v7=>(⟨v1,v2,v4,v5,v3,v6,v7⟩:ab_)) false
noncomputable abbrev qx_:List (Nat×Cut K TyK (ab_)):=[(8,ct cod [2,4,5,6] [.c (.r 4 0), .c (.r 5 0), .c (.r 6 0), .c (.r 7 0)] [.d, .d, .d, .d, .x [.s, .i .i64, .o 8, .o 9, .s, .o 10, .o 11], .x [.s, .i .i64, .o 12, .o 13, .s, .o 14, .o 15], .x [.i .i64, .s, .s], .x [.i .i64, .i .i64, .i .i64, .i .i64, .i .i64, .i .i64, .i .i64, .b, .s], .l .end, .l .parcel, .l .record, .l .record, .l .end, .l .parcel, .l .record, .l .record] dc_)]
theorem g2_ (k:Nat):SummOk Try.prog cod 143 (f0_ k):=aG_ codOk Try.f143 (fun k=>aA_ [(144,eS_ k),(88,hM_ k),(12,ko_ k)]) qx_ false [.cell 4 60] 4 [true,true,true,true] aF_ Try.func143 (by kernel_rfl) (by kernel_rfl) (by kernel_rfl) (by kernel_rfl)
  (fun k=>Known.of tok eok codOk (all_cons (fG_ k) (all_cons (lo_ k) (all_cons (pC_ k) (ac_)))))
  (fun k=>QuietOk.of (all_cons (fun h r=>by cases h) (all_cons (fun h r=>⟨rfl,rfl⟩) (all_cons (fun h r=>by cases h) (ac_)))))
  (fun a=>rfl)
  (all_cons (ap_ codOk (by kernel_rfl) (by (repeat intro _);show _=_;kernel_rfl) (fun k=>by (repeat intro _);show _=_;kernel_rfl)) (ac_))
  (fun k=>by (repeat intro _);show _=_;kernel_rfl)
noncomputable def kb_ (k:Nat):a5_ K TyK:=sm cod (am_) [.bo] [.g [.i .i64, .b, .i .i64, .i .i64, .i .i64, .b, .i .i64, .l true .item, .i .i64, .l true .held, .s, .l true .str]] [] (fun k v1 v2 v3 v4 v5 v6 v7 v8 v9 v10 v11 v12=>hi_ k (⟨v1,v2,v3,v4,v5,v6,(⟨v7,v8⟩:ak_),(⟨v9,v10,v11,v12⟩:ai_)⟩:am_)) k [.g [.i .i64, .b, .i .i64, .i .i64, .i .i64, .b, .i .i64, .o 0, .i .i64, .o 1, .s, .o 2]] [.l .item, .l .held, .l .str] (fun r=>(r.Number,r.Up,r.Life,r.Peer,r.Since,r.Owes,r.Send.Base,(),r.Take.Next,(),r.Take.Open,(),r.Send.Items,r.Take.Held,r.Take.Ready,())) (fun v1 v2 v3 v4 v5 v6 v7 v8 v9 v10 v11 v12=>(⟨v1,v2,v3,v4,v5,v6,(⟨v7,v10⟩:ak_),(⟨v8,v11,v9,v12⟩:ai_)⟩:am_)) false
theorem pP_ (k:Nat):SummOk Try.prog cod 170 (kb_ k):=aG_ codOk Try.f170 (fun k=>aA_ [(45,b2_ k)]) [] false [.cell 2 42] 0 [] aF_ Try.func170 (by kernel_rfl) (by kernel_rfl) (by kernel_rfl) (by kernel_rfl)
  (fun k=>Known.of tok eok codOk (all_cons (cf_ k) (ac_)))
  (fun k=>QuietOk.of (all_cons (fun h r=>⟨rfl,rfl⟩) (ac_)))
  (fun a=>rfl)
  (ac_)
  (fun k=>by (repeat intro _);show _=_;kernel_rfl)
noncomputable def kf_ (k:Nat):a5_ K TyK:=sm cod (am_) [.bo] [.g [.i .i64, .b, .i .i64, .i .i64, .i .i64, .b, .i .i64, .l true .item, .i .i64, .l true .held, .s, .l true .str]] [] (fun k v1 v2 v3 v4 v5 v6 v7 v8 v9 v10 v11 v12=>hq_ k (⟨v1,v2,v3,v4,v5,v6,(⟨v7,v8⟩:ak_),(⟨v9,v10,v11,v12⟩:ai_)⟩:am_)) k [.g [.i .i64, .b, .i .i64, .i .i64, .i .i64, .b, .i .i64, .o 0, .i .i64, .o 1, .s, .o 2]] [.l .item, .l .held, .l .str] (fun r=>(r.Number,r.Up,r.Life,r.Peer,r.Since,r.Owes,r.Send.Base,(),r.Take.Next,(),r.Take.Open,(),r.Send.Items,r.Take.Held,r.Take.Ready,())) (fun v1 v2 v3 v4 v5 v6 v7 v8 v9 v10 v11 v12=>(⟨v1,v2,v3,v4,v5,v6,(⟨v7,v10⟩:ak_),(⟨v8,v11,v9,v12⟩:ai_)⟩:am_)) false
theorem p4_ (k:Nat):SummOk Try.prog cod 171 (kf_ k):=aG_ codOk Try.f171 (fun k=>aA_ [(45,b2_ k),(52,dv_ k)]) [] false [.cell 2 42] 0 [] aF_ Try.func171 (by kernel_rfl) (by kernel_rfl) (by kernel_rfl) (by kernel_rfl)
  (fun k=>Known.of tok eok codOk (all_cons (cf_ k) (all_cons (dQ_ k) (ac_))))
  (fun k=>QuietOk.of (all_cons (fun h r=>⟨rfl,rfl⟩) (all_cons (fun h r=>by cases h) (ac_))))
  (fun a=>rfl)
  (ac_)
  (fun k=>by (repeat intro _);show _=_;kernel_rfl)
noncomputable def rx_ (k:Nat):a5_ K TyK:=sm cod (List az_) [.bo] [.c (.s)] [] (jI_) k [.c (.o 0)] [.l .part] (fun r=>((),r,())) (fun v1=>v1) false
noncomputable abbrev xd_:List (Nat×Cut K TyK (List az_)):=[(4,ct cod [0,3] [.c (.s), .c (.o 0)] [.l .part] e0_)]
theorem vV_ (k:Nat):SummOk Try.prog cod 156 (rx_ k):=aG_ codOk Try.f156 (fun k=>aA_ []) xd_ false [.tmp 2] 0 [] aF_ Try.func156 (by kernel_rfl) (by kernel_rfl) (by kernel_rfl) (by kernel_rfl)
  (fun k=>Known.of tok eok codOk (ac_))
  (fun k=>QuietOk.of (ac_))
  (fun a=>rfl)
  (all_cons (ap_ codOk (by kernel_rfl) (by (repeat intro _);show _=_;kernel_rfl) (fun k=>by (repeat intro _);show _=_;kernel_rfl)) (ac_))
  (fun k=>by (repeat intro _);show _=_;kernel_rfl)
noncomputable def i6_ (k:Nat):a5_ K TyK:=sm cod (ak_×Int) [.bo, .bo] [.g [.i .i64, .l true .item], .c (.s)] [] (fun k v1 v2 v3=>dp_ k (⟨v1,v2⟩:ak_) v3) k [.g [.i .i64, .o 0], .c (.i .i64)] [.l .item] (fun r=>(r.1.Base,(),r.2,r.1.Items,())) (fun v1 v2 v3=>((⟨v1,v3⟩:ak_),v2)) false
noncomputable abbrev oo_:List (Nat×Cut K TyK (ak_×Int)):=[(9,ct cod [4,6,8,9] [.c (.r 0 0), .c (.o 1), .c (.r 2 0), .c (.i .i64)] [.x [.i .i64, .o 3], .l .part, .x [.i .i64, .o 4], .l .item, .l .item] cR_)]
theorem nx_ (k:Nat):SummOk Try.prog cod 103 (i6_ k):=aG_ codOk Try.f103 (fun k=>aA_ [(105,dF_ k),(156,rx_ k),(118,fh_ k)]) oo_ false [.cell 4 37, .tmp 5] 0 [] aF_ Try.func103 (by kernel_rfl) (by kernel_rfl) (by kernel_rfl) (by kernel_rfl)
  (fun k=>Known.of tok eok codOk (all_cons (ey_ k) (all_cons (vV_ k) (all_cons (f5_ k) (ac_)))))
  (fun k=>QuietOk.of (all_cons (fun h r=>⟨rfl,rfl⟩) (all_cons (fun h r=>by cases h) (all_cons (fun h r=>by cases h) (ac_)))))
  (fun a=>rfl)
  (all_cons (ap_ codOk (by kernel_rfl) (by (repeat intro _);show _=_;kernel_rfl) (fun k=>by (repeat intro _);show _=_;kernel_rfl)) (ac_))
  (fun k=>by (repeat intro _);show _=_;kernel_rfl)
noncomputable def kr_ (k:Nat):a5_ K TyK:=sm cod (aw_) [.bo, .bo] [.g [.i .i64, .b, .i .i64, .i .i64, .i .i64, .b, .i .i64, .l true .item, .i .i64, .l true .held, .s, .l true .str], .c (.s)] [] (fun k v1 v2 v3 v4 v5 v6 v7 v8 v9 v10 v11 v12 v13=>hF_ k (⟨v1,v2,v3,v4,v5,v6,(⟨v7,v8⟩:ak_),(⟨v9,v10,v11,v12⟩:ai_)⟩:am_) v13) k [.g [.i .i64, .i .i64, .b, .i .i64, .i .i64, .i .i64, .b, .i .i64, .o 0, .i .i64, .o 1, .s, .o 2, .o 3, .s]] [.l .item, .l .held, .l .str, .l .packet] (fun r=>(r.Code,r.End.Number,r.End.Up,r.End.Life,r.End.Peer,r.End.Since,r.End.Owes,r.End.Send.Base,(),r.End.Take.Next,(),r.End.Take.Open,(),(),r.Text,r.End.Send.Items,r.End.Take.Held,r.End.Take.Ready,r.Out,())) (fun v1 v2 v3 v4 v5 v6 v7 v8 v9 v10 v11 v12 v13 v14 v15=>(⟨v1,(⟨v2,v3,v4,v5,v6,v7,(⟨v8,v12⟩:ak_),(⟨v9,v13,v10,v14⟩:ai_)⟩:am_),v15,v11⟩:aw_)) false
theorem oM_ (k:Nat):SummOk Try.prog cod 43 (kr_ k):=aG_ codOk Try.f43 (fun k=>aA_ [(45,b2_ k),(103,i6_ k),(52,dv_ k)]) [] false [.cell 4 45] 0 [] aF_ Try.func43 (by kernel_rfl) (by kernel_rfl) (by kernel_rfl) (by kernel_rfl)
  (fun k=>Known.of tok eok codOk (all_cons (cf_ k) (all_cons (nx_ k) (all_cons (dQ_ k) (ac_)))))
  (fun k=>QuietOk.of (all_cons (fun h r=>⟨rfl,rfl⟩) (all_cons (fun h r=>by cases h) (all_cons (fun h r=>by cases h) (ac_)))))
  (fun a=>rfl)
  (ac_)
  (fun k=>by (repeat intro _);show _=_;kernel_rfl)
noncomputable def iS_ (k:Nat):a5_ K TyK:=sm cod (ai_×ByteArray×Bool) [.bo] [.g [.i .i64, .l true .held, .s, .l true .str]] [] (fun k v1 v2 v3 v4=>fs_ k (⟨v1,v2,v3,v4⟩:ai_)) k [.g [.i .i64, .o 0, .s, .o 1], .c (.s), .c (.b)] [.l .held, .l .str] (fun r=>(r.1.Next,(),r.1.Open,(),r.2.1,r.2.2,r.1.Held,r.1.Ready,())) (fun v1 v2 v3 v4 v5 v6=>((⟨v1,v5,v2,v6⟩:ai_),v3,v4)) false
theorem nu_ (k:Nat):SummOk Try.prog cod 104 (iS_ k):=aG_ codOk Try.f104 (fun k=>aA_ [(106,dA_ k),(119,gu_ k),(122,kL_ k)]) [] false [.cell 2 40, .tmp 3, .tmp 4] 0 [] aF_ Try.func104 (by kernel_rfl) (by kernel_rfl) (by kernel_rfl) (by kernel_rfl)
  (fun k=>Known.of tok eok codOk (all_cons (ev_ k) (all_cons (hK_ k) (all_cons (na_ k) (ac_)))))
  (fun k=>QuietOk.of (all_cons (fun h r=>⟨rfl,rfl⟩) (all_cons (fun h r=>by cases h) (all_cons (fun h r=>by cases h) (ac_)))))
  (fun a=>rfl)
  (ac_)
  (fun k=>by (repeat intro _);show _=_;kernel_rfl)
noncomputable def j6_ (k:Nat):a5_ K TyK:=sm cod (aw_) [.bo] [.g [.i .i64, .b, .i .i64, .i .i64, .i .i64, .b, .i .i64, .l true .item, .i .i64, .l true .held, .s, .l true .str]] [] (fun k v1 v2 v3 v4 v5 v6 v7 v8 v9 v10 v11 v12=>hl_ k (⟨v1,v2,v3,v4,v5,v6,(⟨v7,v8⟩:ak_),(⟨v9,v10,v11,v12⟩:ai_)⟩:am_)) k [.g [.i .i64, .i .i64, .b, .i .i64, .i .i64, .i .i64, .b, .i .i64, .o 0, .i .i64, .o 1, .s, .o 2, .o 3, .s]] [.l .item, .l .held, .l .str, .l .packet] (fun r=>(r.Code,r.End.Number,r.End.Up,r.End.Life,r.End.Peer,r.End.Since,r.End.Owes,r.End.Send.Base,(),r.End.Take.Next,(),r.End.Take.Open,(),(),r.Text,r.End.Send.Items,r.End.Take.Held,r.End.Take.Ready,r.Out,())) (fun v1 v2 v3 v4 v5 v6 v7 v8 v9 v10 v11 v12 v13 v14 v15=>(⟨v1,(⟨v2,v3,v4,v5,v6,v7,(⟨v8,v12⟩:ak_),(⟨v9,v13,v10,v14⟩:ai_)⟩:am_),v15,v11⟩:aw_)) false
theorem pH_ (k:Nat):SummOk Try.prog cod 44 (j6_ k):=aG_ codOk Try.f44 (fun k=>aA_ [(45,b2_ k),(104,iS_ k),(52,dv_ k)]) [] false [.cell 2 45] 0 [] aF_ Try.func44 (by kernel_rfl) (by kernel_rfl) (by kernel_rfl) (by kernel_rfl)
  (fun k=>Known.of tok eok codOk (all_cons (cf_ k) (all_cons (nu_ k) (all_cons (dQ_ k) (ac_)))))
  (fun k=>QuietOk.of (all_cons (fun h r=>⟨rfl,rfl⟩) (all_cons (fun h r=>by cases h) (all_cons (fun h r=>by cases h) (ac_)))))
  (fun a=>rfl)
  (ac_)
  (fun k=>by (repeat intro _);show _=_;kernel_rfl)
noncomputable def i3_ (k:Nat):a5_ K TyK:=sm cod (ab_) [.mv, .mv] [.g [.s, .i .i64, .o 0, .o 1, .s, .o 2, .o 3], .g [.i .i64, .i .i64, .i .i64, .i .i64, .s]] [.l .end, .l .parcel, .l .record, .l .record] (fun k v1 v2 v3 v4 v5 v6 v7 v8 v9 v10 v11 v12=>gJ_ k (⟨v1,v2,v9,v10,v3,v11,v12⟩:ab_) (⟨v4,v5,v6,v7,v8⟩:aT_)) k [.g [.s, .i .i64, .o 4, .o 5, .s, .o 6, .o 7]] [.d, .d, .d, .d, .l .end, .l .parcel, .l .record, .l .record] (fun r=>(r.Key,r.Width,(),(),r.Forged,(),(),r.Ends,r.Flight,r.Given,r.Taken,())) (fun v1 v2 v3 v4 v5 v6 v7=>(⟨v1,v2,v4,v5,v3,v6,v7⟩:ab_)) false
noncomputable abbrev tz_:List (Nat×Cut K TyK (ab_)):=[(18,ct cod [2,4] [.c (.r 4 0), .c (.r 5 0)] [.d, .d, .d, .d, .x [.s, .i .i64, .o 6, .o 7, .s, .o 8, .o 9], .x [.s, .i .i64, .o 10, .o 11, .s, .o 12, .o 13], .l .end, .l .parcel, .l .record, .l .record, .l .end, .l .parcel, .l .record, .l .record] bc_)]
theorem lc_ (k:Nat):SummOk Try.prog cod 145 (i3_ k):=aG_ codOk Try.f145 (fun k=>aA_ [(170,kb_ k),(171,kf_ k),(43,kr_ k),(44,j6_ k)]) tz_ false [.cell 4 60] 4 [true,true,true,true] aF_ Try.func145 (by kernel_rfl) (by kernel_rfl) (by kernel_rfl) (by kernel_rfl)
  (fun k=>Known.of tok eok codOk (all_cons (pP_ k) (all_cons (p4_ k) (all_cons (oM_ k) (all_cons (pH_ k) (ac_))))))
  (fun k=>QuietOk.of (all_cons (fun h r=>by cases h) (all_cons (fun h r=>by cases h) (all_cons (fun h r=>by cases h) (all_cons (fun h r=>by cases h) (ac_))))))
  (fun a=>rfl)
  (all_cons (ap_ codOk (by kernel_rfl) (by (repeat intro _);show _=_;kernel_rfl) (fun k=>by (repeat intro _);show _=_;kernel_rfl)) (ac_))
  (fun k=>by (repeat intro _);show _=_;kernel_rfl)
noncomputable def pF_ (k:Nat):a5_ K TyK:=sm cod (ab_) [.bo, .bo, .bo] [.g [.s, .i .i64, .l true .end, .l true .parcel, .s, .l true .record, .l true .record], .c (.i .i64), .c (.i .i64)] [] (fun k v1 v2 v3 v4 v5 v6 v7 v8 v9=>lY_ k (⟨v1,v2,v3,v4,v5,v6,v7⟩:ab_) v8 v9) k [.g [.s, .i .i64, .o 0, .o 1, .s, .o 2, .o 3]] [.l .end, .l .parcel, .l .record, .l .record] (fun r=>(r.Key,r.Width,(),(),r.Forged,(),(),r.Ends,r.Flight,r.Given,r.Taken,())) (fun v1 v2 v3 v4 v5 v6 v7=>(⟨v1,v2,v4,v5,v3,v6,v7⟩:ab_)) false
noncomputable abbrev vX_:List (Nat×Cut K TyK (ab_)):=[(6,ct cod [1,2,6,7,8,9] [.c (.i .i64), .c (.i .i64), .c (.r 0 0), .c (.r 1 0), .c (.o 2), .c (.i .i64)] [.x [.s, .i .i64, .o 3, .o 4, .s, .o 5, .o 6], .x [.s, .i .i64, .o 7, .o 8, .s, .o 9, .o 10], .l .l7count, .l .end, .l .parcel, .l .record, .l .record, .l .end, .l .parcel, .l .record, .l .record] fa_),
  (9,ct cod [1,2,6,7,8,9] [.c (.i .i64), .c (.i .i64), .c (.r 0 0), .c (.r 1 0), .c (.o 2), .c (.i .i64)] [.x [.s, .i .i64, .o 3, .o 4, .s, .o 5, .o 6], .x [.s, .i .i64, .o 7, .o 8, .s, .o 9, .o 10], .l .l7count, .l .end, .l .parcel, .l .record, .l .record, .l .end, .l .parcel, .l .record, .l .record] d6_),
  (16,ct cod [1,2,6,7,8,9,12] [.c (.i .i64), .c (.i .i64), .c (.r 0 0), .c (.r 1 0), .c (.o 2), .c (.i .i64), .c (.i .i64)] [.x [.s, .i .i64, .o 3, .o 4, .s, .o 5, .o 6], .x [.s, .i .i64, .o 7, .o 8, .s, .o 9, .o 10], .l .l7count, .l .end, .l .parcel, .l .record, .l .record, .l .end, .l .parcel, .l .record, .l .record] cm_),
  (19,ct cod [1,2,6,7,8,9,12,13] [.c (.i .i64), .c (.i .i64), .c (.r 0 0), .c (.r 1 0), .c (.o 2), .c (.i .i64), .c (.i .i64), .c (.i .i64)] [.x [.s, .i .i64, .o 3, .o 4, .s, .o 5, .o 6], .x [.s, .i .i64, .o 7, .o 8, .s, .o 9, .o 10], .l .l7count, .l .end, .l .parcel, .l .record, .l .record, .l .end, .l .parcel, .l .record, .l .record] eA_)]
theorem ux_ (k:Nat):SummOk Try.prog cod 72 (pF_ k):=aG_ codOk Try.f72 (fun k=>aA_ [(34,er_ k),(89,bj_ k),(85,it_ k),(141,gB_ k),(142,jc_ k),(143,f0_ k),(144,eS_ k),(145,i3_ k)]) vX_ false [.cell 6 60] 0 [] aF_ Try.func72 (by kernel_rfl) (by kernel_rfl) (by kernel_rfl) (by kernel_rfl)
  (fun k=>Known.of tok eok codOk (all_cons (fu_ k) (all_cons (a6_ k) (all_cons (kd_ k) (all_cons (hJ_ k) (all_cons (ny_ k) (all_cons (g2_ k) (all_cons (fG_ k) (all_cons (lc_ k) (ac_))))))))))
  (fun k=>QuietOk.of (all_cons (fun h r=>⟨rfl,rfl⟩) (all_cons (fun h r=>⟨rfl,rfl⟩) (all_cons (fun h r=>by cases h) (all_cons (fun h r=>by cases h) (all_cons (fun h r=>by cases h) (all_cons (fun h r=>by cases h) (all_cons (fun h r=>by cases h) (all_cons (fun h r=>by cases h) (ac_))))))))))
  (fun a=>rfl)
  (all_cons (ap_ codOk (by kernel_rfl) (by (repeat intro _);show _=_;kernel_rfl) (fun k=>by (repeat intro _);show _=_;kernel_rfl)) (all_cons (ap_ codOk (by kernel_rfl) (by (repeat intro _);show _=_;kernel_rfl) (fun k=>by (repeat intro _);show _=_;kernel_rfl)) (all_cons (ap_ codOk (by kernel_rfl) (by (repeat intro _);show _=_;kernel_rfl) (fun k=>by (repeat intro _);show _=_;kernel_rfl)) (all_cons (ap_ codOk (by kernel_rfl) (by (repeat intro _);show _=_;kernel_rfl) (fun k=>by (repeat intro _);show _=_;kernel_rfl)) (ac_)))))
  (fun k=>by (repeat intro _);show _=_;kernel_rfl)
noncomputable def iE_ (k:Nat):a5_ K TyK:=sm cod (ByteArray×as_) [.bo] [.c (.r 0 0)] [.x [.l false .byte, .i .i64]] (fun k v1 v2=>cY_ k (⟨v1,v2⟩:as_)) k [.c (.s)] [.x [.l false .byte, .i .i64]] (fun r=>(r.1,r.2.b,r.2.p,())) (fun v1 v2 v3=>(v1,(⟨v2,v3⟩:as_))) false
noncomputable abbrev nq_:List (Nat×Cut K TyK (ByteArray×as_)):=[(12,ct cod [0,3,4] [.c (.r 0 0), .c (.s), .c (.i .i64)] [.x [.l false .byte, .i .i64]] b7_)]
theorem mg_ (k:Nat):SummOk Try.prog cod 95 (iE_ k):=aG_ codOk Try.f95 (fun k=>aA_ [(73,cK_ k),(94,iy_ k)]) nq_ false [.tmp 2] 1 [false] aF_ Try.func95 (by kernel_rfl) (by kernel_rfl) (by kernel_rfl) (by kernel_rfl)
  (fun k=>Known.of tok eok codOk (all_cons (c8_ k) (all_cons (j7_ k) (ac_))))
  (fun k=>QuietOk.of (all_cons (fun h r=>by cases h) (all_cons (fun h r=>⟨rfl,rfl⟩) (ac_))))
  (fun a=>rfl)
  (all_cons (ap_ codOk (by kernel_rfl) (by (repeat intro _);show _=_;kernel_rfl) (fun k=>by (repeat intro _);show _=_;kernel_rfl)) (ac_))
  (fun k=>by (repeat intro _);show _=_;kernel_rfl)
noncomputable def ki_ (k:Nat):a5_ K TyK:=sm cod (aT_×as_) [.bo] [.c (.r 0 0)] [.x [.l false .byte, .i .i64]] (fun k v1 v2=>hg_ k (⟨v1,v2⟩:as_)) k [.g [.i .i64, .i .i64, .i .i64, .i .i64, .s]] [.x [.l false .byte, .i .i64]] (fun r=>(r.1.Kind,r.1.A,r.1.B,r.1.C,r.1.Text,r.2.b,r.2.p,())) (fun v1 v2 v3 v4 v5 v6 v7=>((⟨v1,v2,v3,v4,v5⟩:aT_),(⟨v6,v7⟩:as_))) false
noncomputable abbrev qv_:List (Nat×Cut K TyK (aT_×as_)):=[(5,ct cod [0,2,3,4] [.c (.r 0 0), .c (.r 1 0), .c (.i .i64), .c (.i .i64)] [.x [.l false .byte, .i .i64], .x [.i .i64, .i .i64, .i .i64, .i .i64, .s]] ee_),
  (17,ct cod [2,4] [.c (.r 1 0), .c (.i .i64)] [.x [.l false .byte, .i .i64], .x [.i .i64, .i .i64, .i .i64, .i .i64, .s]] dB_),
  (18,ct cod [0,2,4,5,35] [.c (.r 0 0), .c (.r 1 0), .c (.i .i64), .c (.i .i64), .c (.i .i64)] [.x [.l false .byte, .i .i64], .x [.i .i64, .i .i64, .i .i64, .i .i64, .s]] gl_),
  (20,ct cod [2,4] [.c (.r 1 0), .c (.i .i64)] [.x [.l false .byte, .i .i64], .x [.i .i64, .i .i64, .i .i64, .i .i64, .s]] dL_),
  (21,ct cod [0,2,4,5,35] [.c (.r 0 0), .c (.r 1 0), .c (.i .i64), .c (.i .i64), .c (.i .i64)] [.x [.l false .byte, .i .i64], .x [.i .i64, .i .i64, .i .i64, .i .i64, .s]] eW_)]
theorem pA_ (k:Nat):SummOk Try.prog cod 87 (ki_ k):=aG_ codOk Try.f87 (fun k=>aA_ [(73,cK_ k),(95,iE_ k)]) qv_ false [.cell 2 71] 1 [false] aF_ Try.func87 (by kernel_rfl) (by kernel_rfl) (by kernel_rfl) (by kernel_rfl)
  (fun k=>Known.of tok eok codOk (all_cons (c8_ k) (all_cons (mg_ k) (ac_))))
  (fun k=>QuietOk.of (all_cons (fun h r=>by cases h) (all_cons (fun h r=>by cases h) (ac_))))
  (fun a=>rfl)
  (all_cons (ap_ codOk (by kernel_rfl) (by (repeat intro _);show _=_;kernel_rfl) (fun k=>by (repeat intro _);show _=_;kernel_rfl)) (all_cons (ap_ codOk (by kernel_rfl) (by (repeat intro _);show _=_;kernel_rfl) (fun k=>by (repeat intro _);show _=_;kernel_rfl)) (all_cons (ap_ codOk (by kernel_rfl) (by (repeat intro _);show _=_;kernel_rfl) (fun k=>by (repeat intro _);show _=_;kernel_rfl)) (all_cons (ap_ codOk (by kernel_rfl) (by (repeat intro _);show _=_;kernel_rfl) (fun k=>by (repeat intro _);show _=_;kernel_rfl)) (all_cons (ap_ codOk (by kernel_rfl) (by (repeat intro _);show _=_;kernel_rfl) (fun k=>by (repeat intro _);show _=_;kernel_rfl)) (ac_))))))
  (fun k=>by (repeat intro _);show _=_;kernel_rfl)
noncomputable def jD_ (k:Nat):a5_ K TyK:=sm cod (ab_) [.mv, .mv] [.g [.s, .i .i64, .o 0, .o 1, .s, .o 2, .o 3], .g [.i .i64, .i .i64, .i .i64, .i .i64, .s]] [.l .end, .l .parcel, .l .record, .l .record] (fun k v1 v2 v3 v4 v5 v6 v7 v8 v9 v10 v11 v12=>gA_ k (⟨v1,v2,v9,v10,v3,v11,v12⟩:ab_) (⟨v4,v5,v6,v7,v8⟩:aT_)) k [.g [.s, .i .i64, .o 4, .o 5, .s, .o 6, .o 7]] [.d, .d, .d, .d, .l .end, .l .parcel, .l .record, .l .record] (fun r=>(r.Key,r.Width,(),(),r.Forged,(),(),r.Ends,r.Flight,r.Given,r.Taken,())) (fun v1 v2 v3 v4 v5 v6 v7=>(⟨v1,v2,v4,v5,v3,v6,v7⟩:ab_)) false
noncomputable abbrev oL_:List (Nat×Cut K TyK (ab_)):=[(11,ct cod [2,4] [.c (.r 4 0), .c (.r 5 0)] [.d, .d, .d, .d, .x [.s, .i .i64, .o 6, .o 7, .s, .o 8, .o 9], .x [.s, .i .i64, .o 10, .o 11, .s, .o 12, .o 13], .l .end, .l .parcel, .l .record, .l .record, .l .end, .l .parcel, .l .record, .l .record] de_),
  (22,ct cod [2,3,4,5] [.c (.r 4 0), .c (.r 5 0), .c (.r 6 0), .c (.r 7 0)] [.d, .d, .d, .d, .x [.s, .i .i64, .o 8, .o 9, .s, .o 10, .o 11], .x [.i .i64, .i .i64, .i .i64, .i .i64, .s], .x [.s, .i .i64, .o 12, .o 13, .s, .o 14, .o 15], .x [.i .i64, .s, .s], .l .end, .l .parcel, .l .record, .l .record, .l .end, .l .parcel, .l .record, .l .record] aL_)]
theorem nj_ (k:Nat):SummOk Try.prog cod 152 (jD_ k):=aG_ codOk Try.f152 (fun k=>aA_ [(143,f0_ k),(144,eS_ k)]) oL_ false [.cell 4 60] 4 [true,true,true,true] aF_ Try.func152 (by kernel_rfl) (by kernel_rfl) (by kernel_rfl) (by kernel_rfl)
  (fun k=>Known.of tok eok codOk (all_cons (g2_ k) (all_cons (fG_ k) (ac_))))
  (fun k=>QuietOk.of (all_cons (fun h r=>by cases h) (all_cons (fun h r=>by cases h) (ac_))))
  (fun a=>rfl)
  (all_cons (ap_ codOk (by kernel_rfl) (by (repeat intro _);show _=_;kernel_rfl) (fun k=>by (repeat intro _);show _=_;kernel_rfl)) (all_cons (ap_ codOk (by kernel_rfl) (by (repeat intro _);show _=_;kernel_rfl) (fun k=>by (repeat intro _);show _=_;kernel_rfl)) (ac_)))
  (fun k=>by (repeat intro _);show _=_;kernel_rfl)
noncomputable def qh_ (k:Nat):a5_ K TyK:=sm cod (ab_) [.mv, .mv] [.g [.s, .i .i64, .o 0, .o 1, .s, .o 2, .o 3], .g [.i .i64, .i .i64, .i .i64, .i .i64, .s]] [.l .end, .l .parcel, .l .record, .l .record] (fun k v1 v2 v3 v4 v5 v6 v7 v8 v9 v10 v11 v12=>hV_ k (⟨v1,v2,v9,v10,v3,v11,v12⟩:ab_) (⟨v4,v5,v6,v7,v8⟩:aT_)) k [.g [.s, .i .i64, .o 4, .o 5, .s, .o 6, .o 7]] [.d, .d, .d, .d, .l .end, .l .parcel, .l .record, .l .record] (fun r=>(r.Key,r.Width,(),(),r.Forged,(),(),r.Ends,r.Flight,r.Given,r.Taken,())) (fun v1 v2 v3 v4 v5 v6 v7=>(⟨v1,v2,v4,v5,v3,v6,v7⟩:ab_)) false
theorem tB_ (k:Nat):SummOk Try.prog cod 86 (qh_ k):=aG_ codOk Try.f86 (fun k=>aA_ [(141,gB_ k),(89,bj_ k),(152,jD_ k),(145,i3_ k)]) [] false [.cell 4 60] 4 [true,true,true,true] aF_ Try.func86 (by kernel_rfl) (by kernel_rfl) (by kernel_rfl) (by kernel_rfl)
  (fun k=>Known.of tok eok codOk (all_cons (hJ_ k) (all_cons (a6_ k) (all_cons (nj_ k) (all_cons (lc_ k) (ac_))))))
  (fun k=>QuietOk.of (all_cons (fun h r=>by cases h) (all_cons (fun h r=>⟨rfl,rfl⟩) (all_cons (fun h r=>by cases h) (all_cons (fun h r=>by cases h) (ac_))))))
  (fun a=>rfl)
  (ac_)
  (fun k=>by (repeat intro _);show _=_;kernel_rfl)
noncomputable def iF_ (k:Nat):a5_ K TyK:=sm cod (ab_×as_) [.bo] [.c (.r 0 0)] [.x [.l false .byte, .i .i64]] (fun k v1 v2=>fZ_ k (⟨v1,v2⟩:as_)) k [.g [.s, .i .i64, .o 1, .o 2, .s, .o 3, .o 4]] [.x [.l false .byte, .i .i64], .l .end, .l .parcel, .l .record, .l .record] (fun r=>(r.1.Key,r.1.Width,(),(),r.1.Forged,(),(),r.2.b,r.2.p,r.1.Ends,r.1.Flight,r.1.Given,r.1.Taken,())) (fun v1 v2 v3 v4 v5 v6 v7 v8 v9=>((⟨v1,v2,v6,v7,v3,v8,v9⟩:ab_),(⟨v4,v5⟩:as_))) false
noncomputable abbrev nK_:List (Nat×Cut K TyK (ab_×as_)):=[(4,ct cod [0,2,3] [.c (.r 0 0), .c (.r 1 0), .c (.r 2 0)] [.x [.l false .byte, .i .i64], .x [.s, .i .i64, .o 3, .o 4, .s, .o 5, .o 6], .x [.s, .i .i64, .o 7, .o 8, .s, .o 9, .o 10], .l .end, .l .parcel, .l .record, .l .record, .l .end, .l .parcel, .l .record, .l .record] dj_),
  (6,ct cod [0,2,3,4,5] [.c (.r 0 0), .c (.r 1 0), .c (.r 2 0), .c (.i .i64), .c (.i .i64)] [.x [.l false .byte, .i .i64], .x [.s, .i .i64, .o 3, .o 4, .s, .o 5, .o 6], .x [.s, .i .i64, .o 7, .o 8, .s, .o 9, .o 10], .l .end, .l .parcel, .l .record, .l .record, .l .end, .l .parcel, .l .record, .l .record] bf_),
  (12,ct cod [0,2,3,4,5,6] [.c (.r 0 0), .c (.r 1 0), .c (.r 2 0), .c (.i .i64), .c (.i .i64), .c (.i .i64)] [.x [.l false .byte, .i .i64], .x [.s, .i .i64, .o 3, .o 4, .s, .o 5, .o 6], .x [.s, .i .i64, .o 7, .o 8, .s, .o 9, .o 10], .l .end, .l .parcel, .l .record, .l .record, .l .end, .l .parcel, .l .record, .l .record] cc_),
  (15,ct cod [0,2,3,4,5] [.c (.r 0 0), .c (.r 1 0), .c (.r 2 0), .c (.i .i64), .c (.i .i64)] [.x [.l false .byte, .i .i64], .x [.s, .i .i64, .o 3, .o 4, .s, .o 5, .o 6], .x [.s, .i .i64, .o 7, .o 8, .s, .o 9, .o 10], .l .end, .l .parcel, .l .record, .l .record, .l .end, .l .parcel, .l .record, .l .record] b9_),
  (7,ct cod [0,2,3,4,5] [.c (.r 0 0), .c (.r 1 0), .c (.r 2 0), .c (.i .i64), .c (.i .i64)] [.x [.l false .byte, .i .i64], .x [.s, .i .i64, .o 3, .o 4, .s, .o 5, .o 6], .x [.s, .i .i64, .o 7, .o 8, .s, .o 9, .o 10], .l .end, .l .parcel, .l .record, .l .record, .l .end, .l .parcel, .l .record, .l .record] df_)]
theorem mw_ (k:Nat):SummOk Try.prog cod 74 (iF_ k):=aG_ codOk Try.f74 (fun k=>aA_ [(147,mK_ k),(148,kg_ k),(146,jq_ k),(73,cK_ k),(72,pF_ k),(87,ki_ k),(86,qh_ k),(141,gB_ k),(143,f0_ k),(85,it_ k)]) nK_ false [.cell 2 60] 1 [false] aF_ Try.func74 (by kernel_rfl) (by kernel_rfl) (by kernel_rfl) (by kernel_rfl)
  (fun k=>Known.of tok eok codOk (all_cons (sm_ k) (all_cons (pL_ k) (all_cons (nA_ k) (all_cons (c8_ k) (all_cons (ux_ k) (all_cons (pA_ k) (all_cons (tB_ k) (all_cons (hJ_ k) (all_cons (g2_ k) (all_cons (kd_ k) (ac_))))))))))))
  (fun k=>QuietOk.of (all_cons (fun h r=>by cases h) (all_cons (fun h r=>by cases h) (all_cons (fun h r=>by cases h) (all_cons (fun h r=>by cases h) (all_cons (fun h r=>by cases h) (all_cons (fun h r=>by cases h) (all_cons (fun h r=>by cases h) (all_cons (fun h r=>by cases h) (all_cons (fun h r=>by cases h) (all_cons (fun h r=>by cases h) (ac_))))))))))))
  (fun a=>rfl)
  (all_cons (ap_ codOk (by kernel_rfl) (by (repeat intro _);show _=_;kernel_rfl) (fun k=>by (repeat intro _);show _=_;kernel_rfl)) (all_cons (ap_ codOk (by kernel_rfl) (by (repeat intro _);show _=_;kernel_rfl) (fun k=>by (repeat intro _);show _=_;kernel_rfl)) (all_cons (ap_ codOk (by kernel_rfl) (by (repeat intro _);show _=_;kernel_rfl) (fun k=>by (repeat intro _);show _=_;kernel_rfl)) (all_cons (ap_ codOk (by kernel_rfl) (by (repeat intro _);show _=_;kernel_rfl) (fun k=>by (repeat intro _);show _=_;kernel_rfl)) (all_cons (ap_ codOk (by kernel_rfl) (by (repeat intro _);show _=_;kernel_rfl) (fun k=>by (repeat intro _);show _=_;kernel_rfl)) (ac_))))))
  (fun k=>by (repeat intro _);show _=_;kernel_rfl)
noncomputable def cs_ (k:Nat):a5_ K TyK:=sm cod (Bool) [.bo] [.g [.s, .i .i64, .l true .end, .l true .parcel, .s, .l true .record, .l true .record]] [] (fun k v1 v2 v3 v4 v5 v6 v7=>bo_ k (⟨v1,v2,v3,v4,v5,v6,v7⟩:ab_)) k [.c (.b)] [] (fun r=>(r,())) (fun v1=>v1) true
noncomputable abbrev mj_:List (Nat×Cut K TyK (Bool)):=[(4,ct cod [1,48,49,50] [.c (.r 0 0), .c (.l true .end), .c (.i .i64), .c (.i .i64)] [.x [.s, .i .i64, .l true .end, .l true .parcel, .s, .l true .record, .l true .record]] ca_),
  (10,ct cod [1,67,68,69] [.c (.r 0 0), .c (.l true .parcel), .c (.i .i64), .c (.i .i64)] [.x [.s, .i .i64, .l true .end, .l true .parcel, .s, .l true .record, .l true .record]] ba_),
  (16,ct cod [98,99,100] [.c (.o 0), .c (.i .i64), .c (.i .i64)] [.l .lrecord] bb_),
  (19,ct cod [98,99,100,104,105,106] [.c (.o 0), .c (.i .i64), .c (.i .i64), .c (.l true .record), .c (.i .i64), .c (.i .i64)] [.l .lrecord] a9_)]
theorem cX_ (k:Nat):SummOk Try.prog cod 27 (cs_ k):=aG_ codOk Try.f27 (fun k=>aA_ [(46,b3_ k),(75,gb_ k)]) mj_ false [.tmp 2] 0 [] aF_ Try.func27 (by kernel_rfl) (by kernel_rfl) (by kernel_rfl) (by kernel_rfl)
  (fun k=>Known.of tok eok codOk (all_cons (ce_ k) (all_cons (fY_ k) (ac_))))
  (fun k=>QuietOk.of (all_cons (fun h r=>⟨rfl,rfl⟩) (all_cons (fun h r=>⟨rfl,rfl⟩) (ac_))))
  (fun a=>rfl)
  (all_cons (ap_ codOk (by kernel_rfl) (by (repeat intro _);show _=_;kernel_rfl) (fun k=>by (repeat intro _);show _=_;kernel_rfl)) (all_cons (ap_ codOk (by kernel_rfl) (by (repeat intro _);show _=_;kernel_rfl) (fun k=>by (repeat intro _);show _=_;kernel_rfl)) (all_cons (ap_ codOk (by kernel_rfl) (by (repeat intro _);show _=_;kernel_rfl) (fun k=>by (repeat intro _);show _=_;kernel_rfl)) (all_cons (ap_ codOk (by kernel_rfl) (by (repeat intro _);show _=_;kernel_rfl) (fun k=>by (repeat intro _);show _=_;kernel_rfl)) (ac_)))))
  (fun k=>by (repeat intro _);show _=_;kernel_rfl)
noncomputable def m7_ (k:Nat):a5_ K TyK:=sm cod (Bool) [.bo] [.g [.s, .i .i64, .l true .end, .l true .parcel, .s, .l true .record, .l true .record]] [] (fun k v1 v2 v3 v4 v5 v6 v7=>hZ_ k (⟨v1,v2,v3,v4,v5,v6,v7⟩:ab_)) k [.c (.b)] [] (fun r=>(r,())) (fun v1=>v1) true
noncomputable abbrev ur_:List (Nat×Cut K TyK (Bool)):=[(5,ct cod [1,3,16,17,18] [.c (.r 0 0), .c (.m 1), .c (.l true .record), .c (.i .i64), .c (.i .i64)] [.x [.s, .i .i64, .l true .end, .l true .parcel, .s, .l true .record, .l true .record], .m .pair .lstr] cU_),
  (12,ct cod [3,7,41,42,43] [.c (.m 0), .c (.m 1), .c (.l true .record), .c (.i .i64), .c (.i .i64)] [.m .pair .lstr, .m .pair .int] aQ_),
  (17,ct cod [3,7,10,41,42,43] [.c (.m 0), .c (.m 1), .c (.r 2 0), .c (.l true .record), .c (.i .i64), .c (.i .i64)] [.m .pair .lstr, .m .pair .int, .x [.i .i64, .i .i64, .i .i64]] a1_)]
theorem sx_ (k:Nat):SummOk Try.prog cod 22 (m7_ k):=aG_ codOk Try.f22 (fun k=>aA_ [(27,cs_ k)]) ur_ false [.tmp 2] 0 [] aF_ Try.func22 (by kernel_rfl) (by kernel_rfl) (by kernel_rfl) (by kernel_rfl)
  (fun k=>Known.of tok eok codOk (all_cons (cX_ k) (ac_)))
  (fun k=>QuietOk.of (all_cons (fun h r=>⟨rfl,rfl⟩) (ac_)))
  (fun a=>rfl)
  (all_cons (ap_ codOk (by kernel_rfl) (by (repeat intro _);show _=_;kernel_rfl) (fun k=>by (repeat intro _);show _=_;kernel_rfl)) (all_cons (ap_ codOk (by kernel_rfl) (by (repeat intro _);show _=_;kernel_rfl) (fun k=>by (repeat intro _);show _=_;kernel_rfl)) (all_cons (ap_ codOk (by kernel_rfl) (by (repeat intro _);show _=_;kernel_rfl) (fun k=>by (repeat intro _);show _=_;kernel_rfl)) (ac_))))
  (fun k=>by (repeat intro _);show _=_;kernel_rfl)
noncomputable def mZ_ (k:Nat):a5_ K TyK:=sm cod (Bool) [.bo] [.g [.s, .i .i64, .l true .end, .l true .parcel, .s, .l true .record, .l true .record]] [] (fun k v1 v2 v3 v4 v5 v6 v7=>jZ_ k (⟨v1,v2,v3,v4,v5,v6,v7⟩:ab_)) k [.c (.b)] [] (fun r=>(r,())) (fun v1=>v1) true
noncomputable abbrev t8_:List (Nat×Cut K TyK (Bool)):=[(4,ct cod [1,3] [.c (.r 0 0), .c (.i .i64)] [.x [.s, .i .i64, .l true .end, .l true .parcel, .s, .l true .record, .l true .record]] ds_),
  (9,ct cod [1,3,4,5,6] [.c (.r 0 0), .c (.i .i64), .c (.r 1 0), .c (.i .i64), .c (.i .i64)] [.x [.s, .i .i64, .l true .end, .l true .parcel, .s, .l true .record, .l true .record], .x [.i .i64, .i .i64, .i .i64, .s]] eu_),
  (10,ct cod [1,3,4,5,6] [.c (.r 0 0), .c (.i .i64), .c (.r 1 0), .c (.i .i64), .c (.i .i64)] [.x [.s, .i .i64, .l true .end, .l true .parcel, .s, .l true .record, .l true .record], .x [.i .i64, .i .i64, .i .i64, .s]] cp_),
  (15,ct cod [1,3,4,5,7,8] [.c (.r 0 0), .c (.i .i64), .c (.r 1 0), .c (.i .i64), .c (.b), .c (.i .i64)] [.x [.s, .i .i64, .l true .end, .l true .parcel, .s, .l true .record, .l true .record], .x [.i .i64, .i .i64, .i .i64, .s]] c4_),
  (16,ct cod [1,3,4,5,7,8] [.c (.r 0 0), .c (.i .i64), .c (.r 1 0), .c (.i .i64), .c (.b), .c (.i .i64)] [.x [.s, .i .i64, .l true .end, .l true .parcel, .s, .l true .record, .l true .record], .x [.i .i64, .i .i64, .i .i64, .s]] bE_)]
theorem sl_ (k:Nat):SummOk Try.prog cod 23 (mZ_ k):=aG_ codOk Try.f23 (fun k=>aA_ [(34,er_ k)]) t8_ false [.tmp 2] 0 [] aF_ Try.func23 (by kernel_rfl) (by kernel_rfl) (by kernel_rfl) (by kernel_rfl)
  (fun k=>Known.of tok eok codOk (all_cons (fu_ k) (ac_)))
  (fun k=>QuietOk.of (all_cons (fun h r=>⟨rfl,rfl⟩) (ac_)))
  (fun a=>rfl)
  (all_cons (ap_ codOk (by kernel_rfl) (by (repeat intro _);show _=_;kernel_rfl) (fun k=>by (repeat intro _);show _=_;kernel_rfl)) (all_cons (ap_ codOk (by kernel_rfl) (by (repeat intro _);show _=_;kernel_rfl) (fun k=>by (repeat intro _);show _=_;kernel_rfl)) (all_cons (ap_ codOk (by kernel_rfl) (by (repeat intro _);show _=_;kernel_rfl) (fun k=>by (repeat intro _);show _=_;kernel_rfl)) (all_cons (ap_ codOk (by kernel_rfl) (by (repeat intro _);show _=_;kernel_rfl) (fun k=>by (repeat intro _);show _=_;kernel_rfl)) (all_cons (ap_ codOk (by kernel_rfl) (by (repeat intro _);show _=_;kernel_rfl) (fun k=>by (repeat intro _);show _=_;kernel_rfl)) (ac_))))))
  (fun k=>by (repeat intro _);show _=_;kernel_rfl)
noncomputable def ps_ (k:Nat):a5_ K TyK:=sm cod (Bool) [.bo] [.g [.s, .i .i64, .l true .end, .l true .parcel, .s, .l true .record, .l true .record]] [] (fun k v1 v2 v3 v4 v5 v6 v7=>lE_ k (⟨v1,v2,v3,v4,v5,v6,v7⟩:ab_)) k [.c (.b)] [] (fun r=>(r,())) (fun v1=>v1) true
noncomputable abbrev uM_:List (Nat×Cut K TyK (Bool)):=[(4,ct cod [1,9,10,11] [.c (.r 0 0), .c (.l true .end), .c (.i .i64), .c (.i .i64)] [.x [.s, .i .i64, .l true .end, .l true .parcel, .s, .l true .record, .l true .record]] e9_)]
theorem tl_ (k:Nat):SummOk Try.prog cod 24 (ps_ k):=aG_ codOk Try.f24 (fun k=>aA_ [(27,cs_ k)]) uM_ false [.tmp 2] 0 [] aF_ Try.func24 (by kernel_rfl) (by kernel_rfl) (by kernel_rfl) (by kernel_rfl)
  (fun k=>Known.of tok eok codOk (all_cons (cX_ k) (ac_)))
  (fun k=>QuietOk.of (all_cons (fun h r=>⟨rfl,rfl⟩) (ac_)))
  (fun a=>rfl)
  (all_cons (ap_ codOk (by kernel_rfl) (by (repeat intro _);show _=_;kernel_rfl) (fun k=>by (repeat intro _);show _=_;kernel_rfl)) (ac_))
  (fun k=>by (repeat intro _);show _=_;kernel_rfl)
noncomputable def hw_ (k:Nat):a5_ K TyK:=sm cod (ab_) [.pe] [.c (.l false .byte)] [] (eT_) k [.g [.s, .i .i64, .o 0, .o 1, .s, .o 2, .o 3]] [.l .end, .l .parcel, .l .record, .l .record] (fun r=>(r.Key,r.Width,(),(),r.Forged,(),(),r.Ends,r.Flight,r.Given,r.Taken,())) (fun v1 v2 v3 v4 v5 v6 v7=>(⟨v1,v2,v4,v5,v3,v6,v7⟩:ab_)) false
theorem kw_ (k:Nat):SummOk Try.prog cod 26 (hw_ k):=aG_ codOk Try.f26 (fun k=>aA_ [(70,le_ k),(74,iF_ k)]) [] false [.cell 2 60] 0 [] aF_ Try.func26 (by kernel_rfl) (by kernel_rfl) (by kernel_rfl) (by kernel_rfl)
  (fun k=>Known.of tok eok codOk (all_cons (qr_ k) (all_cons (mw_ k) (ac_))))
  (fun k=>QuietOk.of (all_cons (fun h r=>by cases h) (all_cons (fun h r=>by cases h) (ac_))))
  (fun a=>rfl)
  (ac_)
  (fun k=>by (repeat intro _);show _=_;kernel_rfl)
noncomputable def tP_ (k:Nat):a5_ K TyK:=sm cod (ByteArray) [.bo, .bo] [.c (.i .i64), .c (.i .i64)] [] (gV_) k [.c (.s)] [] (fun r=>(r,())) (fun v1=>v1) true
noncomputable abbrev zz_:List (Nat×Cut K TyK (ByteArray)):=[(3,ct cod [0,5,6] [.c (.i .i64), .c (.o 0), .c (.i .i64)] [.l .byte] gM_)]
theorem xJ_ (k:Nat):SummOk Try.prog cod 76 (tP_ k):=aG_ codOk Try.f76 (fun k=>aA_ []) zz_ false [.tmp 4] 0 [] aF_ Try.func76 (by kernel_rfl) (by kernel_rfl) (by kernel_rfl) (by kernel_rfl)
  (fun k=>Known.of tok eok codOk (ac_))
  (fun k=>QuietOk.of (ac_))
  (fun a=>rfl)
  (all_cons (ap_ codOk (by kernel_rfl) (by (repeat intro _);show _=_;kernel_rfl) (fun k=>by (repeat intro _);show _=_;kernel_rfl)) (ac_))
  (fun k=>by (repeat intro _);show _=_;kernel_rfl)
noncomputable def rA_ (k:Nat):a5_ K TyK:=sm cod (ByteArray) [.bo, .bo, .bo] [.c (.s), .c (.s), .c (.i .i64)] [] (ob_) k [.c (.s)] [] (fun r=>(r,())) (fun v1=>v1) true
noncomputable abbrev xo_:List (Nat×Cut K TyK (ByteArray)):=[(6,ct cod [2,7,8,9] [.c (.i .i64), .c (.i .u64), .c (.s), .c (.i .i64)] [] fN_),
  (11,ct cod [2,7,10,11] [.c (.i .i64), .c (.i .u64), .c (.z 0 0), .c (.i .i64)] [.l .byte] fe_)]
theorem vh_ (k:Nat):SummOk Try.prog cod 77 (rA_ k):=aG_ codOk Try.f77 (fun k=>aA_ []) xo_ false [.tmp 6] 0 [] aF_ Try.func77 (by kernel_rfl) (by kernel_rfl) (by kernel_rfl) (by kernel_rfl)
  (fun k=>Known.of tok eok codOk (ac_))
  (fun k=>QuietOk.of (ac_))
  (fun a=>rfl)
  (all_cons (ap_ codOk (by kernel_rfl) (by (repeat intro _);show _=_;kernel_rfl) (fun k=>by (repeat intro _);show _=_;kernel_rfl)) (all_cons (ap_ codOk (by kernel_rfl) (by (repeat intro _);show _=_;kernel_rfl) (fun k=>by (repeat intro _);show _=_;kernel_rfl)) (ac_)))
  (fun k=>by (repeat intro _);show _=_;kernel_rfl)
noncomputable def fK_ (k:Nat):a5_ K TyK:=sm cod (ByteArray) [.bo, .bo, .bo] [.g [.i .i64, .i .i64, .i .i64, .i .i64, .i .i64, .i .i64, .i .i64, .b, .s], .c (.s), .c (.i .i64)] [] (fun k v1 v2 v3 v4 v5 v6 v7 v8 v9 v10 v11=>c9_ k (⟨v1,v2,v3,v4,v5,v6,v7,v8,v9⟩:ae_) v10 v11) k [.c (.s)] [] (fun r=>(r,())) (fun v1=>v1) true
noncomputable abbrev mD_:List (Nat×Cut K TyK (ByteArray)):=[(10,ct cod [1,2,7] [.c (.s), .c (.i .i64), .c (.s)] [] cw_),
  (9,ct cod [1,2,3,7,8] [.c (.s), .c (.i .i64), .c (.r 0 0), .c (.s), .c (.i .i64)] [.x [.i .i64, .i .i64, .i .i64, .i .i64, .i .i64, .i .i64, .i .i64, .b, .s]] cT_)]
theorem hm_ (k:Nat):SummOk Try.prog cod 28 (fK_ k):=aG_ codOk Try.f28 (fun k=>aA_ [(59,dV_ k),(76,tP_ k),(77,rA_ k)]) mD_ false [.tmp 6] 0 [] aF_ Try.func28 (by kernel_rfl) (by kernel_rfl) (by kernel_rfl) (by kernel_rfl)
  (fun k=>Known.of tok eok codOk (all_cons (eX_ k) (all_cons (xJ_ k) (all_cons (vh_ k) (ac_)))))
  (fun k=>QuietOk.of (all_cons (fun h r=>⟨rfl,rfl⟩) (all_cons (fun h r=>⟨rfl,rfl⟩) (all_cons (fun h r=>⟨rfl,rfl⟩) (ac_)))))
  (fun a=>rfl)
  (all_cons (ap_ codOk (by kernel_rfl) (by (repeat intro _);show _=_;kernel_rfl) (fun k=>by (repeat intro _);show _=_;kernel_rfl)) (all_cons (ap_ codOk (by kernel_rfl) (by (repeat intro _);show _=_;kernel_rfl) (fun k=>by (repeat intro _);show _=_;kernel_rfl)) (ac_)))
  (fun k=>by (repeat intro _);show _=_;kernel_rfl)
noncomputable def gm_ (k:Nat):a5_ K TyK:=sm cod (ab_) [.bo] [.g [.s, .i .i64, .l true .end, .l true .parcel, .s, .l true .record, .l true .record]] [] (fun k v1 v2 v3 v4 v5 v6 v7=>eG_ k (⟨v1,v2,v3,v4,v5,v6,v7⟩:ab_)) k [.g [.s, .i .i64, .o 0, .o 1, .s, .o 2, .o 3]] [.l .end, .l .parcel, .l .record, .l .record] (fun r=>(r.Key,r.Width,(),(),r.Forged,(),(),r.Ends,r.Flight,r.Given,r.Taken,())) (fun v1 v2 v3 v4 v5 v6 v7=>(⟨v1,v2,v4,v5,v3,v6,v7⟩:ab_)) false
noncomputable abbrev nL_:List (Nat×Cut K TyK (ab_)):=[(3,ct cod [1,2,10,11] [.c (.r 0 0), .c (.r 1 0), .c (.i .i64), .c (.i .i64)] [.x [.s, .i .i64, .o 2, .l true .parcel, .s, .l true .record, .l true .record], .x [.s, .i .i64, .o 3, .o 4, .s, .o 5, .o 6], .l .end, .l .end, .l .parcel, .l .record, .l .record] cu_)]
theorem hP_ (k:Nat):SummOk Try.prog cod 78 (gm_ k):=aG_ codOk Try.f78 (fun k=>aA_ [(58,c0_ k)]) nL_ false [.cell 2 60] 0 [] aF_ Try.func78 (by kernel_rfl) (by kernel_rfl) (by kernel_rfl) (by kernel_rfl)
  (fun k=>Known.of tok eok codOk (all_cons (dh_ k) (ac_)))
  (fun k=>QuietOk.of (all_cons (fun h r=>by cases h) (ac_)))
  (fun a=>rfl)
  (all_cons (ap_ codOk (by kernel_rfl) (by (repeat intro _);show _=_;kernel_rfl) (fun k=>by (repeat intro _);show _=_;kernel_rfl)) (ac_))
  (fun k=>by (repeat intro _);show _=_;kernel_rfl)
noncomputable def iQ_ (k:Nat):a5_ K TyK:=sm cod (ak_×List Int) [.bo] [.g [.i .i64, .l true .item]] [] (fun k v1 v2=>gs_ k (⟨v1,v2⟩:ak_)) k [.g [.i .i64, .o 0], .c (.o 1)] [.l .item, .l .int] (fun r=>(r.1.Base,(),(),r.1.Items,r.2,())) (fun v1 v2 v3=>((⟨v1,v2⟩:ak_),v3)) false
noncomputable abbrev ol_:List (Nat×Cut K TyK (ak_×List Int)):=[(6,ct cod [2,4,5,6] [.c (.r 0 0), .c (.r 1 0), .c (.o 2), .c (.i .i64)] [.x [.i .i64, .o 3], .x [.i .i64, .o 4], .l .int, .l .item, .l .item] cP_),
  (7,ct cod [2,4,5,6] [.c (.r 0 0), .c (.r 1 0), .c (.o 2), .c (.i .i64)] [.x [.i .i64, .o 3], .x [.i .i64, .o 4], .l .int, .l .item, .l .item] ck_)]
theorem nk_ (k:Nat):SummOk Try.prog cod 96 (iQ_ k):=aG_ codOk Try.f96 (fun k=>aA_ [(109,dG_ k),(126,d9_ k)]) ol_ false [.cell 2 37, .tmp 3] 0 [] aF_ Try.func96 (by kernel_rfl) (by kernel_rfl) (by kernel_rfl) (by kernel_rfl)
  (fun k=>Known.of tok eok codOk (all_cons (ew_ k) (all_cons (eP_ k) (ac_))))
  (fun k=>QuietOk.of (all_cons (fun h r=>⟨rfl,rfl⟩) (all_cons (fun h r=>by cases h) (ac_))))
  (fun a=>rfl)
  (all_cons (ap_ codOk (by kernel_rfl) (by (repeat intro _);show _=_;kernel_rfl) (fun k=>by (repeat intro _);show _=_;kernel_rfl)) (all_cons (ap_ codOk (by kernel_rfl) (by (repeat intro _);show _=_;kernel_rfl) (fun k=>by (repeat intro _);show _=_;kernel_rfl)) (ac_)))
  (fun k=>by (repeat intro _);show _=_;kernel_rfl)
noncomputable def i2_ (k:Nat):a5_ K TyK:=sm cod (Int×Int) [.bo] [.g [.i .i64, .l true .held, .s, .l true .str]] [] (fun k v1 v2 v3 v4=>et_ k (⟨v1,v2,v3,v4⟩:ai_)) k [.c (.i .i64), .c (.i .i64)] [] (fun r=>(r.1,r.2,())) (fun v1 v2=>(v1,v2)) true
noncomputable abbrev oF_:List (Nat×Cut K TyK (Int×Int)):=[(5,ct cod [1,4,11,12,13] [.c (.r 0 0), .c (.i .i64), .c (.l true .held), .c (.i .i64), .c (.i .i64)] [.x [.i .i64, .l true .held, .s, .l true .str]] cN_)]
theorem nB_ (k:Nat):SummOk Try.prog cod 97 (i2_ k):=aG_ codOk Try.f97 (fun k=>aA_ [(110,dI_ k)]) oF_ false [.tmp 2, .tmp 3] 0 [] aF_ Try.func97 (by kernel_rfl) (by kernel_rfl) (by kernel_rfl) (by kernel_rfl)
  (fun k=>Known.of tok eok codOk (all_cons (eo_ k) (ac_)))
  (fun k=>QuietOk.of (all_cons (fun h r=>⟨rfl,rfl⟩) (ac_)))
  (fun a=>rfl)
  (all_cons (ap_ codOk (by kernel_rfl) (by (repeat intro _);show _=_;kernel_rfl) (fun k=>by (repeat intro _);show _=_;kernel_rfl)) (ac_))
  (fun k=>by (repeat intro _);show _=_;kernel_rfl)
noncomputable def kc_ (k:Nat):a5_ K TyK:=sm cod (aw_) [.bo] [.g [.i .i64, .b, .i .i64, .i .i64, .i .i64, .b, .i .i64, .l true .item, .i .i64, .l true .held, .s, .l true .str]] [] (fun k v1 v2 v3 v4 v5 v6 v7 v8 v9 v10 v11 v12=>hH_ k (⟨v1,v2,v3,v4,v5,v6,(⟨v7,v8⟩:ak_),(⟨v9,v10,v11,v12⟩:ai_)⟩:am_)) k [.g [.i .i64, .i .i64, .b, .i .i64, .i .i64, .i .i64, .b, .i .i64, .o 0, .i .i64, .o 1, .s, .o 2, .o 3, .s]] [.l .item, .l .held, .l .str, .l .packet] (fun r=>(r.Code,r.End.Number,r.End.Up,r.End.Life,r.End.Peer,r.End.Since,r.End.Owes,r.End.Send.Base,(),r.End.Take.Next,(),r.End.Take.Open,(),(),r.Text,r.End.Send.Items,r.End.Take.Held,r.End.Take.Ready,r.Out,())) (fun v1 v2 v3 v4 v5 v6 v7 v8 v9 v10 v11 v12 v13 v14 v15=>(⟨v1,(⟨v2,v3,v4,v5,v6,v7,(⟨v8,v12⟩:ak_),(⟨v9,v13,v10,v14⟩:ai_)⟩:am_),v15,v11⟩:aw_)) false
noncomputable abbrev qs_:List (Nat×Cut K TyK (aw_)):=[(9,ct cod [2,3,4] [.c (.r 0 0), .c (.r 1 0), .c (.r 1 1)] [.x [.i .i64, .i .i64, .b, .i .i64, .i .i64, .i .i64, .b, .i .i64, .o 2, .i .i64, .o 3, .s, .o 4, .o 5, .s], .x [.i .i64, .i .i64, .b, .i .i64, .i .i64, .i .i64, .b, .i .i64, .o 6, .i .i64, .o 7, .s, .o 8, .o 9, .s], .l .item, .l .held, .l .str, .l .packet, .l .item, .l .held, .l .str, .l .packet] d8_),
  (13,ct cod [2,3,4,53,54,55] [.c (.r 0 0), .c (.r 1 0), .c (.r 1 1), .c (.o 2), .c (.i .i64), .c (.i .i64)] [.x [.i .i64, .i .i64, .b, .i .i64, .i .i64, .i .i64, .b, .i .i64, .o 3, .i .i64, .o 4, .s, .o 5, .o 6, .s], .x [.i .i64, .i .i64, .b, .i .i64, .i .i64, .i .i64, .b, .i .i64, .o 7, .i .i64, .o 8, .s, .o 9, .o 10, .s], .l .int, .l .item, .l .held, .l .str, .l .packet, .l .item, .l .held, .l .str, .l .packet] cO_),
  (18,ct cod [2,3,4] [.c (.r 0 0), .c (.r 1 0), .c (.r 1 1)] [.x [.i .i64, .i .i64, .b, .i .i64, .i .i64, .i .i64, .b, .i .i64, .o 2, .i .i64, .o 3, .s, .o 4, .o 5, .s], .x [.i .i64, .i .i64, .b, .i .i64, .i .i64, .i .i64, .b, .i .i64, .o 6, .i .i64, .o 7, .s, .o 8, .o 9, .s], .l .item, .l .held, .l .str, .l .packet, .l .item, .l .held, .l .str, .l .packet] dC_),
  (22,ct cod [2,3] [.c (.r 0 0), .c (.r 1 0)] [.x [.i .i64, .i .i64, .b, .i .i64, .i .i64, .i .i64, .b, .i .i64, .o 2, .i .i64, .o 3, .s, .o 4, .o 5, .s], .x [.i .i64, .i .i64, .b, .i .i64, .i .i64, .i .i64, .b, .i .i64, .o 6, .i .i64, .o 7, .s, .o 8, .o 9, .s], .l .item, .l .held, .l .str, .l .packet, .l .item, .l .held, .l .str, .l .packet] cg_)]
theorem oN_ (k:Nat):SummOk Try.prog cod 38 (kc_ k):=aG_ codOk Try.f38 (fun k=>aA_ [(46,b3_ k),(58,c0_ k),(96,iQ_ k),(97,i2_ k)]) qs_ false [.cell 2 45] 0 [] aF_ Try.func38 (by kernel_rfl) (by kernel_rfl) (by kernel_rfl) (by kernel_rfl)
  (fun k=>Known.of tok eok codOk (all_cons (ce_ k) (all_cons (dh_ k) (all_cons (nk_ k) (all_cons (nB_ k) (ac_))))))
  (fun k=>QuietOk.of (all_cons (fun h r=>⟨rfl,rfl⟩) (all_cons (fun h r=>by cases h) (all_cons (fun h r=>by cases h) (all_cons (fun h r=>⟨rfl,rfl⟩) (ac_))))))
  (fun a=>rfl)
  (all_cons (ap_ codOk (by kernel_rfl) (by (repeat intro _);show _=_;kernel_rfl) (fun k=>by (repeat intro _);show _=_;kernel_rfl)) (all_cons (ap_ codOk (by kernel_rfl) (by (repeat intro _);show _=_;kernel_rfl) (fun k=>by (repeat intro _);show _=_;kernel_rfl)) (all_cons (ap_ codOk (by kernel_rfl) (by (repeat intro _);show _=_;kernel_rfl) (fun k=>by (repeat intro _);show _=_;kernel_rfl)) (all_cons (ap_ codOk (by kernel_rfl) (by (repeat intro _);show _=_;kernel_rfl) (fun k=>by (repeat intro _);show _=_;kernel_rfl)) (ac_)))))
  (fun k=>by (repeat intro _);show _=_;kernel_rfl)
noncomputable def fJ_ (k:Nat):a5_ K TyK:=sm cod (ab_) [.mv] [.c (.r 0 0)] [.x [.s, .i .i64, .o 1, .o 2, .s, .o 3, .o 4], .l .end, .l .parcel, .l .record, .l .record] (fun k v1 v2 v3 v4 v5 v6 v7=>eg_ k (⟨v1,v2,v4,v5,v3,v6,v7⟩:ab_)) k [] [.x [.s, .i .i64, .o 5, .o 6, .s, .o 7, .o 8], .d, .d, .d, .d, .l .end, .l .parcel, .l .record, .l .record] (fun r=>(r.Key,r.Width,(),(),r.Forged,(),(),r.Ends,r.Flight,r.Given,r.Taken,())) (fun v1 v2 v3 v4 v5 v6 v7=>(⟨v1,v2,v4,v5,v3,v6,v7⟩:ab_)) false
noncomputable abbrev l0_:List (Nat×Cut K TyK (ab_)):=[(1,ct cod [0,11,12] [.c (.r 0 0), .c (.i .i64), .c (.i .i64)] [.x [.s, .i .i64, .o 5, .o 6, .s, .o 7, .o 8], .d, .d, .d, .d, .l .end, .l .parcel, .l .record, .l .record] bk_),
  (6,ct cod [0,2,11,12,32,33,34] [.c (.r 0 0), .c (.i .i64), .c (.i .i64), .c (.i .i64), .c (.o 5), .c (.i .i64), .c (.i .i64)] [.x [.s, .i .i64, .o 6, .o 7, .s, .o 8, .o 9], .d, .d, .d, .d, .l .packet, .l .end, .l .parcel, .l .record, .l .record] cd_),
  (11,ct cod [0,2,11,12,32,33,34] [.c (.r 0 0), .c (.i .i64), .c (.i .i64), .c (.i .i64), .c (.o 5), .c (.i .i64), .c (.i .i64)] [.x [.s, .i .i64, .o 6, .o 7, .s, .o 8, .o 9], .d, .d, .d, .d, .l .packet, .l .end, .l .parcel, .l .record, .l .record] cy_)]
theorem hs_ (k:Nat):SummOk Try.prog cod 79 (fJ_ k):=aG_ codOk Try.f79 (fun k=>aA_ [(38,kc_ k),(28,fK_ k)]) l0_ false [] 5 [false,true,true,true,true] aF_ Try.func79 (by kernel_rfl) (by kernel_rfl) (by kernel_rfl) (by kernel_rfl)
  (fun k=>Known.of tok eok codOk (all_cons (oN_ k) (all_cons (hm_ k) (ac_))))
  (fun k=>QuietOk.of (all_cons (fun h r=>by cases h) (all_cons (fun h r=>⟨rfl,rfl⟩) (ac_))))
  (fun a=>rfl)
  (all_cons (ap_ codOk (by kernel_rfl) (by (repeat intro _);show _=_;kernel_rfl) (fun k=>by (repeat intro _);show _=_;kernel_rfl)) (all_cons (ap_ codOk (by kernel_rfl) (by (repeat intro _);show _=_;kernel_rfl) (fun k=>by (repeat intro _);show _=_;kernel_rfl)) (all_cons (ap_ codOk (by kernel_rfl) (by (repeat intro _);show _=_;kernel_rfl) (fun k=>by (repeat intro _);show _=_;kernel_rfl)) (ac_))))
  (fun k=>by (repeat intro _);show _=_;kernel_rfl)
noncomputable def rC_ (k:Nat):a5_ K TyK:=sm cod (Int) [.bo] [.c (.s)] [] (jJ_) k [.c (.i .i64)] [] (fun r=>(r,())) (fun v1=>v1) true
noncomputable abbrev xq_:List (Nat×Cut K TyK (Int)):=[(3,ct cod [0,3,4] [.c (.s), .c (.i .i64), .c (.i .i64)] [] fT_)]
theorem u0_ (k:Nat):SummOk Try.prog cod 173 (rC_ k):=aG_ codOk Try.f173 (fun k=>aA_ []) xq_ false [.tmp 2] 0 [] aF_ Try.func173 (by kernel_rfl) (by kernel_rfl) (by kernel_rfl) (by kernel_rfl)
  (fun k=>Known.of tok eok codOk (ac_))
  (fun k=>QuietOk.of (ac_))
  (fun a=>rfl)
  (all_cons (ap_ codOk (by kernel_rfl) (by (repeat intro _);show _=_;kernel_rfl) (fun k=>by (repeat intro _);show _=_;kernel_rfl)) (ac_))
  (fun k=>by (repeat intro _);show _=_;kernel_rfl)
noncomputable def h8_ (k:Nat):a5_ K TyK:=sm cod (ae_×Bool) [.bo, .bo, .bo] [.c (.s), .c (.s), .c (.i .i64)] [] (fv_) k [.g [.i .i64, .i .i64, .i .i64, .i .i64, .i .i64, .i .i64, .i .i64, .b, .s], .c (.b)] [] (fun r=>(r.1.Kind,r.1.From,r.1.Mine,r.1.Yours,r.1.Next,r.1.Mask,r.1.Seq,r.1.Last,r.1.Part,r.2,())) (fun v1 v2 v3 v4 v5 v6 v7 v8 v9 v10=>((⟨v1,v2,v3,v4,v5,v6,v7,v8,v9⟩:ae_),v10)) true
noncomputable abbrev mn_:List (Nat×Cut K TyK (ae_×Bool)):=[(10,ct cod [0,1,2,6,9] [.c (.s), .c (.s), .c (.i .i64), .c (.r 0 0), .c (.r 1 0)] [.x [.i .i64, .i .i64, .i .i64, .i .i64, .i .i64, .i .i64, .i .i64, .b, .s], .x [.i .i64, .i .i64, .i .i64, .i .i64, .i .i64, .i .i64, .i .i64, .b, .s]] bx_)]
theorem ls_ (k:Nat):SummOk Try.prog cod 149 (h8_ k):=aG_ codOk Try.f149 (fun k=>aA_ [(173,rC_ k),(59,dV_ k),(28,fK_ k)]) mn_ false [.cell 6 48, .tmp 7] 0 [] aF_ Try.func149 (by kernel_rfl) (by kernel_rfl) (by kernel_rfl) (by kernel_rfl)
  (fun k=>Known.of tok eok codOk (all_cons (u0_ k) (all_cons (eX_ k) (all_cons (hm_ k) (ac_)))))
  (fun k=>QuietOk.of (all_cons (fun h r=>⟨rfl,rfl⟩) (all_cons (fun h r=>⟨rfl,rfl⟩) (all_cons (fun h r=>⟨rfl,rfl⟩) (ac_)))))
  (fun a=>rfl)
  (all_cons (ap_ codOk (by kernel_rfl) (by (repeat intro _);show _=_;kernel_rfl) (fun k=>by (repeat intro _);show _=_;kernel_rfl)) (ac_))
  (fun k=>by (repeat intro _);show _=_;kernel_rfl)
noncomputable def fk_ (k:Nat):a5_ K TyK:=sm cod (ab_) [.mv, .mv] [.c (.r 0 0), .g [.i .i64, .s, .s]] [.x [.s, .i .i64, .o 1, .o 2, .s, .o 3, .o 4], .l .end, .l .parcel, .l .record, .l .record] (fun k v1 v2 v3 v4 v5 v6 v7 v8 v9 v10=>cH_ k (⟨v4,v5,v7,v8,v6,v9,v10⟩:ab_) (⟨v1,v2,v3⟩:ad_)) k [] [.x [.s, .i .i64, .o 5, .o 6, .s, .o 7, .o 8], .d, .d, .d, .d, .l .end, .l .parcel, .l .record, .l .record] (fun r=>(r.Key,r.Width,(),(),r.Forged,(),(),r.Ends,r.Flight,r.Given,r.Taken,())) (fun v1 v2 v3 v4 v5 v6 v7=>(⟨v1,v2,v4,v5,v3,v6,v7⟩:ab_)) false
noncomputable abbrev lf_:List (Nat×Cut K TyK (ab_)):=[(5,ct cod [0,3,4] [.c (.r 0 0), .c (.r 5 0), .c (.r 6 0)] [.x [.s, .i .i64, .o 7, .o 8, .s, .o 9, .o 10], .d, .d, .d, .d, .x [.i .i64, .s, .s], .x [.i .i64, .i .i64, .i .i64, .i .i64, .i .i64, .i .i64, .i .i64, .b, .s], .l .end, .l .parcel, .l .record, .l .record] bR_)]
theorem g1_ (k:Nat):SummOk Try.prog cod 80 (fk_ k):=aG_ codOk Try.f80 (fun k=>aA_ [(149,h8_ k),(15,ks_ k)]) lf_ false [] 5 [false,true,true,true,true] aF_ Try.func80 (by kernel_rfl) (by kernel_rfl) (by kernel_rfl) (by kernel_rfl)
  (fun k=>Known.of tok eok codOk (all_cons (ls_ k) (all_cons (o6_ k) (ac_))))
  (fun k=>QuietOk.of (all_cons (fun h r=>⟨rfl,rfl⟩) (all_cons (fun h r=>by cases h) (ac_))))
  (fun a=>rfl)
  (all_cons (ap_ codOk (by kernel_rfl) (by (repeat intro _);show _=_;kernel_rfl) (fun k=>by (repeat intro _);show _=_;kernel_rfl)) (ac_))
  (fun k=>by (repeat intro _);show _=_;kernel_rfl)
noncomputable def kn_ (k:Nat):a5_ K TyK:=sm cod (am_) [.bo] [.g [.i .i64, .b, .i .i64, .i .i64, .i .i64, .b, .i .i64, .l true .item, .i .i64, .l true .held, .s, .l true .str]] [] (fun k v1 v2 v3 v4 v5 v6 v7 v8 v9 v10 v11 v12=>hz_ k (⟨v1,v2,v3,v4,v5,v6,(⟨v7,v8⟩:ak_),(⟨v9,v10,v11,v12⟩:ai_)⟩:am_)) k [.g [.i .i64, .b, .i .i64, .i .i64, .i .i64, .b, .i .i64, .o 0, .i .i64, .o 1, .s, .o 2]] [.l .item, .l .held, .l .str] (fun r=>(r.Number,r.Up,r.Life,r.Peer,r.Since,r.Owes,r.Send.Base,(),r.Take.Next,(),r.Take.Open,(),r.Send.Items,r.Take.Held,r.Take.Ready,())) (fun v1 v2 v3 v4 v5 v6 v7 v8 v9 v10 v11 v12=>(⟨v1,v2,v3,v4,v5,v6,(⟨v7,v10⟩:ak_),(⟨v8,v11,v9,v12⟩:ai_)⟩:am_)) false
theorem pW_ (k:Nat):SummOk Try.prog cod 48 (kn_ k):=aG_ codOk Try.f48 (fun k=>aA_ [(46,b3_ k)]) [] false [.cell 2 42] 0 [] aF_ Try.func48 (by kernel_rfl) (by kernel_rfl) (by kernel_rfl) (by kernel_rfl)
  (fun k=>Known.of tok eok codOk (all_cons (ce_ k) (ac_)))
  (fun k=>QuietOk.of (all_cons (fun h r=>⟨rfl,rfl⟩) (ac_)))
  (fun a=>rfl)
  (ac_)
  (fun k=>by (repeat intro _);show _=_;kernel_rfl)
noncomputable def ka_ (k:Nat):a5_ K TyK:=sm cod (am_) [.bo] [.g [.i .i64, .b, .i .i64, .i .i64, .i .i64, .b, .i .i64, .l true .item, .i .i64, .l true .held, .s, .l true .str]] [] (fun k v1 v2 v3 v4 v5 v6 v7 v8 v9 v10 v11 v12=>hr_ k (⟨v1,v2,v3,v4,v5,v6,(⟨v7,v8⟩:ak_),(⟨v9,v10,v11,v12⟩:ai_)⟩:am_)) k [.g [.i .i64, .b, .i .i64, .i .i64, .i .i64, .b, .i .i64, .o 0, .i .i64, .o 1, .s, .o 2]] [.l .item, .l .held, .l .str] (fun r=>(r.Number,r.Up,r.Life,r.Peer,r.Since,r.Owes,r.Send.Base,(),r.Take.Next,(),r.Take.Open,(),r.Send.Items,r.Take.Held,r.Take.Ready,())) (fun v1 v2 v3 v4 v5 v6 v7 v8 v9 v10 v11 v12=>(⟨v1,v2,v3,v4,v5,v6,(⟨v7,v10⟩:ak_),(⟨v8,v11,v9,v12⟩:ai_)⟩:am_)) false
theorem o5_ (k:Nat):SummOk Try.prog cod 47 (ka_ k):=aG_ codOk Try.f47 (fun k=>aA_ [(46,b3_ k),(58,c0_ k)]) [] false [.cell 2 42] 0 [] aF_ Try.func47 (by kernel_rfl) (by kernel_rfl) (by kernel_rfl) (by kernel_rfl)
  (fun k=>Known.of tok eok codOk (all_cons (ce_ k) (all_cons (dh_ k) (ac_))))
  (fun k=>QuietOk.of (all_cons (fun h r=>⟨rfl,rfl⟩) (all_cons (fun h r=>by cases h) (ac_))))
  (fun a=>rfl)
  (ac_)
  (fun k=>by (repeat intro _);show _=_;kernel_rfl)
noncomputable def fU_ (k:Nat):a5_ K TyK:=sm cod (Bool×ab_) [.mv] [.c (.r 0 0)] [.x [.s, .i .i64, .o 1, .o 2, .s, .o 3, .o 4], .l .end, .l .parcel, .l .record, .l .record] (fun k v1 v2 v3 v4 v5 v6 v7=>ek_ k (⟨v1,v2,v4,v5,v3,v6,v7⟩:ab_)) k [.c (.b)] [.x [.s, .i .i64, .o 5, .o 6, .s, .o 7, .o 8], .d, .d, .d, .d, .l .end, .l .parcel, .l .record, .l .record] (fun r=>(r.1,r.2.Key,r.2.Width,(),(),r.2.Forged,(),(),r.2.Ends,r.2.Flight,r.2.Given,r.2.Taken,())) (fun v1 v2 v3 v4 v5 v6 v7 v8=>(v1,(⟨v2,v3,v5,v6,v4,v7,v8⟩:ab_))) false
theorem hv_ (k:Nat):SummOk Try.prog cod 81 (fU_ k):=aG_ codOk Try.f81 (fun k=>aA_ []) [] false [.tmp 2] 5 [false,true,true,true,true] aF_ Try.func81 (by kernel_rfl) (by kernel_rfl) (by kernel_rfl) (by kernel_rfl)
  (fun k=>Known.of tok eok codOk (ac_))
  (fun k=>QuietOk.of (ac_))
  (fun a=>rfl)
  (ac_)
  (fun k=>by (repeat intro _);show _=_;kernel_rfl)
noncomputable def rs_ (k:Nat):a5_ K TyK:=sm cod (List az_) [.bo] [.c (.s)] [] (lB_) k [.c (.o 0)] [.l .part] (fun r=>((),r,())) (fun v1=>v1) false
noncomputable abbrev xU_:List (Nat×Cut K TyK (List az_)):=[(4,ct cod [0,3] [.c (.s), .c (.o 0)] [.l .part] gO_)]
theorem vO_ (k:Nat):SummOk Try.prog cod 155 (rs_ k):=aG_ codOk Try.f155 (fun k=>aA_ []) xU_ false [.tmp 2] 0 [] aF_ Try.func155 (by kernel_rfl) (by kernel_rfl) (by kernel_rfl) (by kernel_rfl)
  (fun k=>Known.of tok eok codOk (ac_))
  (fun k=>QuietOk.of (ac_))
  (fun a=>rfl)
  (all_cons (ap_ codOk (by kernel_rfl) (by (repeat intro _);show _=_;kernel_rfl) (fun k=>by (repeat intro _);show _=_;kernel_rfl)) (ac_))
  (fun k=>by (repeat intro _);show _=_;kernel_rfl)
noncomputable def jG_ (k:Nat):a5_ K TyK:=sm cod (ak_×Int) [.bo, .bo] [.g [.i .i64, .l true .item], .c (.s)] [] (fun k v1 v2 v3=>gt_ k (⟨v1,v2⟩:ak_) v3) k [.g [.i .i64, .o 0], .c (.i .i64)] [.l .item] (fun r=>(r.1.Base,(),r.2,r.1.Items,())) (fun v1 v2 v3=>((⟨v1,v3⟩:ak_),v2)) false
noncomputable abbrev oQ_:List (Nat×Cut K TyK (ak_×Int)):=[(9,ct cod [4,8,40,41,42] [.c (.r 0 0), .c (.r 1 0), .c (.o 2), .c (.i .i64), .c (.i .i64)] [.x [.i .i64, .o 3], .x [.i .i64, .o 4], .l .part, .l .item, .l .item] cQ_)]
theorem np_ (k:Nat):SummOk Try.prog cod 98 (jG_ k):=aG_ codOk Try.f98 (fun k=>aA_ [(109,dG_ k),(155,rs_ k),(126,d9_ k)]) oQ_ false [.cell 4 37, .tmp 5] 0 [] aF_ Try.func98 (by kernel_rfl) (by kernel_rfl) (by kernel_rfl) (by kernel_rfl)
  (fun k=>Known.of tok eok codOk (all_cons (ew_ k) (all_cons (vO_ k) (all_cons (eP_ k) (ac_)))))
  (fun k=>QuietOk.of (all_cons (fun h r=>⟨rfl,rfl⟩) (all_cons (fun h r=>by cases h) (all_cons (fun h r=>by cases h) (ac_)))))
  (fun a=>rfl)
  (all_cons (ap_ codOk (by kernel_rfl) (by (repeat intro _);show _=_;kernel_rfl) (fun k=>by (repeat intro _);show _=_;kernel_rfl)) (ac_))
  (fun k=>by (repeat intro _);show _=_;kernel_rfl)
noncomputable def kl_ (k:Nat):a5_ K TyK:=sm cod (aw_) [.bo, .bo] [.g [.i .i64, .b, .i .i64, .i .i64, .i .i64, .b, .i .i64, .l true .item, .i .i64, .l true .held, .s, .l true .str], .c (.s)] [] (fun k v1 v2 v3 v4 v5 v6 v7 v8 v9 v10 v11 v12 v13=>gh_ k (⟨v1,v2,v3,v4,v5,v6,(⟨v7,v8⟩:ak_),(⟨v9,v10,v11,v12⟩:ai_)⟩:am_) v13) k [.g [.i .i64, .i .i64, .b, .i .i64, .i .i64, .i .i64, .b, .i .i64, .o 0, .i .i64, .o 1, .s, .o 2, .o 3, .s]] [.l .item, .l .held, .l .str, .l .packet] (fun r=>(r.Code,r.End.Number,r.End.Up,r.End.Life,r.End.Peer,r.End.Since,r.End.Owes,r.End.Send.Base,(),r.End.Take.Next,(),r.End.Take.Open,(),(),r.Text,r.End.Send.Items,r.End.Take.Held,r.End.Take.Ready,r.Out,())) (fun v1 v2 v3 v4 v5 v6 v7 v8 v9 v10 v11 v12 v13 v14 v15=>(⟨v1,(⟨v2,v3,v4,v5,v6,v7,(⟨v8,v12⟩:ak_),(⟨v9,v13,v10,v14⟩:ai_)⟩:am_),v15,v11⟩:aw_)) false
theorem o0_ (k:Nat):SummOk Try.prog cod 39 (kl_ k):=aG_ codOk Try.f39 (fun k=>aA_ [(46,b3_ k),(98,jG_ k),(58,c0_ k)]) [] false [.cell 4 45] 0 [] aF_ Try.func39 (by kernel_rfl) (by kernel_rfl) (by kernel_rfl) (by kernel_rfl)
  (fun k=>Known.of tok eok codOk (all_cons (ce_ k) (all_cons (np_ k) (all_cons (dh_ k) (ac_)))))
  (fun k=>QuietOk.of (all_cons (fun h r=>⟨rfl,rfl⟩) (all_cons (fun h r=>by cases h) (all_cons (fun h r=>by cases h) (ac_)))))
  (fun a=>rfl)
  (ac_)
  (fun k=>by (repeat intro _);show _=_;kernel_rfl)
noncomputable def jo_ (k:Nat):a5_ K TyK:=sm cod (ai_×ByteArray×Bool) [.bo] [.g [.i .i64, .l true .held, .s, .l true .str]] [] (fun k v1 v2 v3 v4=>gF_ k (⟨v1,v2,v3,v4⟩:ai_)) k [.g [.i .i64, .o 0, .s, .o 1], .c (.s), .c (.b)] [.l .held, .l .str] (fun r=>(r.1.Next,(),r.1.Open,(),r.2.1,r.2.2,r.1.Held,r.1.Ready,())) (fun v1 v2 v3 v4 v5 v6=>((⟨v1,v5,v2,v6⟩:ai_),v3,v4)) false
theorem nr_ (k:Nat):SummOk Try.prog cod 99 (jo_ k):=aG_ codOk Try.f99 (fun k=>aA_ [(110,dI_ k),(127,fo_ k),(128,kI_ k)]) [] false [.cell 2 40, .tmp 3, .tmp 4] 0 [] aF_ Try.func99 (by kernel_rfl) (by kernel_rfl) (by kernel_rfl) (by kernel_rfl)
  (fun k=>Known.of tok eok codOk (all_cons (eo_ k) (all_cons (gk_ k) (all_cons (m3_ k) (ac_)))))
  (fun k=>QuietOk.of (all_cons (fun h r=>⟨rfl,rfl⟩) (all_cons (fun h r=>by cases h) (all_cons (fun h r=>by cases h) (ac_)))))
  (fun a=>rfl)
  (ac_)
  (fun k=>by (repeat intro _);show _=_;kernel_rfl)
noncomputable def ku_ (k:Nat):a5_ K TyK:=sm cod (aw_) [.bo] [.g [.i .i64, .b, .i .i64, .i .i64, .i .i64, .b, .i .i64, .l true .item, .i .i64, .l true .held, .s, .l true .str]] [] (fun k v1 v2 v3 v4 v5 v6 v7 v8 v9 v10 v11 v12=>hk_ k (⟨v1,v2,v3,v4,v5,v6,(⟨v7,v8⟩:ak_),(⟨v9,v10,v11,v12⟩:ai_)⟩:am_)) k [.g [.i .i64, .i .i64, .b, .i .i64, .i .i64, .i .i64, .b, .i .i64, .o 0, .i .i64, .o 1, .s, .o 2, .o 3, .s]] [.l .item, .l .held, .l .str, .l .packet] (fun r=>(r.Code,r.End.Number,r.End.Up,r.End.Life,r.End.Peer,r.End.Since,r.End.Owes,r.End.Send.Base,(),r.End.Take.Next,(),r.End.Take.Open,(),(),r.Text,r.End.Send.Items,r.End.Take.Held,r.End.Take.Ready,r.Out,())) (fun v1 v2 v3 v4 v5 v6 v7 v8 v9 v10 v11 v12 v13 v14 v15=>(⟨v1,(⟨v2,v3,v4,v5,v6,v7,(⟨v8,v12⟩:ak_),(⟨v9,v13,v10,v14⟩:ai_)⟩:am_),v15,v11⟩:aw_)) false
theorem p0_ (k:Nat):SummOk Try.prog cod 40 (ku_ k):=aG_ codOk Try.f40 (fun k=>aA_ [(46,b3_ k),(99,jo_ k),(58,c0_ k)]) [] false [.cell 2 45] 0 [] aF_ Try.func40 (by kernel_rfl) (by kernel_rfl) (by kernel_rfl) (by kernel_rfl)
  (fun k=>Known.of tok eok codOk (all_cons (ce_ k) (all_cons (nr_ k) (all_cons (dh_ k) (ac_)))))
  (fun k=>QuietOk.of (all_cons (fun h r=>⟨rfl,rfl⟩) (all_cons (fun h r=>by cases h) (all_cons (fun h r=>by cases h) (ac_)))))
  (fun a=>rfl)
  (ac_)
  (fun k=>by (repeat intro _);show _=_;kernel_rfl)
noncomputable def fM_ (k:Nat):a5_ K TyK:=sm cod (ab_) [.mv, .mv] [.c (.r 0 0), .c (.i .i64)] [.x [.s, .i .i64, .o 1, .o 2, .s, .o 3, .o 4], .l .end, .l .parcel, .l .record, .l .record] (fun k v1 v2 v3 v4 v5 v6 v7 v8=>em_ k (⟨v2,v3,v5,v6,v4,v7,v8⟩:ab_) v1) k [] [.x [.s, .i .i64, .o 5, .o 6, .s, .o 7, .o 8], .d, .d, .d, .d, .l .end, .l .parcel, .l .record, .l .record] (fun r=>(r.Key,r.Width,(),(),r.Forged,(),(),r.Ends,r.Flight,r.Given,r.Taken,())) (fun v1 v2 v3 v4 v5 v6 v7=>(⟨v1,v2,v4,v5,v3,v6,v7⟩:ab_)) false
theorem hx_ (k:Nat):SummOk Try.prog cod 82 (fM_ k):=aG_ codOk Try.f82 (fun k=>aA_ [(81,fU_ k),(40,ku_ k)]) [] false [] 5 [false,true,true,true,true] aF_ Try.func82 (by kernel_rfl) (by kernel_rfl) (by kernel_rfl) (by kernel_rfl)
  (fun k=>Known.of tok eok codOk (all_cons (hv_ k) (all_cons (p0_ k) (ac_))))
  (fun k=>QuietOk.of (all_cons (fun h r=>by cases h) (all_cons (fun h r=>by cases h) (ac_))))
  (fun a=>rfl)
  (ac_)
  (fun k=>by (repeat intro _);show _=_;kernel_rfl)
noncomputable def tA_ (k:Nat):a5_ K TyK:=sm cod (ab_) [.bo, .bo] [.g [.s, .i .i64, .l true .end, .l true .parcel, .s, .l true .record, .l true .record], .g [.i .i64, .i .i64, .i .i64, .i .i64, .s]] [] (fun k v1 v2 v3 v4 v5 v6 v7 v8 v9 v10 v11 v12=>k5_ k (⟨v1,v2,v3,v4,v5,v6,v7⟩:ab_) (⟨v8,v9,v10,v11,v12⟩:aT_)) k [.g [.s, .i .i64, .o 0, .o 1, .s, .o 2, .o 3]] [.l .end, .l .parcel, .l .record, .l .record] (fun r=>(r.Key,r.Width,(),(),r.Forged,(),(),r.Ends,r.Flight,r.Given,r.Taken,())) (fun v1 v2 v3 v4 v5 v6 v7=>(⟨v1,v2,v4,v5,v3,v6,v7⟩:ab_)) false
noncomputable abbrev yq_:List (Nat×Cut K TyK (ab_)):=[(5,ct cod [3,4,5,6] [.c (.r 0 0), .c (.r 1 0), .c (.r 2 0), .c (.b)] [.x [.i .i64, .i .i64, .i .i64, .i .i64, .s], .x [.s, .i .i64, .o 3, .o 4, .s, .o 5, .o 6], .x [.s, .i .i64, .o 7, .o 8, .s, .o 9, .o 10], .l .end, .l .parcel, .l .record, .l .record, .l .end, .l .parcel, .l .record, .l .record] h7_),
  (6,ct cod [3,4,5,6,7] [.c (.r 0 0), .c (.r 1 0), .c (.r 2 0), .c (.b), .c (.b)] [.x [.i .i64, .i .i64, .i .i64, .i .i64, .s], .x [.s, .i .i64, .o 3, .o 4, .s, .o 5, .o 6], .x [.s, .i .i64, .o 7, .o 8, .s, .o 9, .o 10], .l .end, .l .parcel, .l .record, .l .record, .l .end, .l .parcel, .l .record, .l .record] h6_),
  (45,ct cod [4,5] [.c (.r 0 0), .c (.r 1 0)] [.x [.s, .i .i64, .o 2, .o 3, .s, .o 4, .o 5], .x [.s, .i .i64, .o 6, .o 7, .s, .o 8, .o 9], .l .end, .l .parcel, .l .record, .l .record, .l .end, .l .parcel, .l .record, .l .record] ar_),
  (11,ct cod [3,4,5,7] [.c (.r 0 0), .c (.r 1 0), .c (.r 2 0), .c (.b)] [.x [.i .i64, .i .i64, .i .i64, .i .i64, .s], .x [.s, .i .i64, .o 3, .o 4, .s, .o 5, .o 6], .x [.s, .i .i64, .o 7, .o 8, .s, .o 9, .o 10], .l .end, .l .parcel, .l .record, .l .record, .l .end, .l .parcel, .l .record, .l .record] gN_),
  (16,ct cod [3,4,5,6,7,37] [.c (.r 0 0), .c (.r 1 0), .c (.r 2 0), .c (.b), .c (.b), .c (.i .i64)] [.x [.i .i64, .i .i64, .i .i64, .i .i64, .s], .x [.s, .i .i64, .o 3, .o 4, .s, .o 5, .o 6], .x [.s, .i .i64, .o 7, .o 8, .s, .o 9, .o 10], .l .end, .l .parcel, .l .record, .l .record, .l .end, .l .parcel, .l .record, .l .record] is_)]
theorem xI_ (k:Nat):SummOk Try.prog cod 29 (tA_ k):=aG_ codOk Try.f29 (fun k=>aA_ [(27,cs_ k),(78,gm_ k),(79,fJ_ k),(80,fk_ k),(48,kn_ k),(47,ka_ k),(81,fU_ k),(39,kl_ k),(82,fM_ k)]) yq_ false [.cell 4 60] 0 [] aF_ Try.func29 (by kernel_rfl) (by kernel_rfl) (by kernel_rfl) (by kernel_rfl)
  (fun k=>Known.of tok eok codOk (all_cons (cX_ k) (all_cons (hP_ k) (all_cons (hs_ k) (all_cons (g1_ k) (all_cons (pW_ k) (all_cons (o5_ k) (all_cons (hv_ k) (all_cons (o0_ k) (all_cons (hx_ k) (ac_)))))))))))
  (fun k=>QuietOk.of (all_cons (fun h r=>⟨rfl,rfl⟩) (all_cons (fun h r=>by cases h) (all_cons (fun h r=>by cases h) (all_cons (fun h r=>by cases h) (all_cons (fun h r=>by cases h) (all_cons (fun h r=>by cases h) (all_cons (fun h r=>by cases h) (all_cons (fun h r=>by cases h) (all_cons (fun h r=>by cases h) (ac_)))))))))))
  (fun a=>rfl)
  (all_cons (ap_ codOk (by kernel_rfl) (by (repeat intro _);show _=_;kernel_rfl) (fun k=>by (repeat intro _);show _=_;kernel_rfl)) (all_cons (ap_ codOk (by kernel_rfl) (by (repeat intro _);show _=_;kernel_rfl) (fun k=>by (repeat intro _);show _=_;kernel_rfl)) (all_cons (ap_ codOk (by kernel_rfl) (by (repeat intro _);show _=_;kernel_rfl) (fun k=>by (repeat intro _);show _=_;kernel_rfl)) (all_cons (ap_ codOk (by kernel_rfl) (by (repeat intro _);show _=_;kernel_rfl) (fun k=>by (repeat intro _);show _=_;kernel_rfl)) (all_cons (ap_ codOk (by kernel_rfl) (by (repeat intro _);show _=_;kernel_rfl) (fun k=>by (repeat intro _);show _=_;kernel_rfl)) (ac_))))))
  (fun k=>by (repeat intro _);show _=_;kernel_rfl)
noncomputable def pf_ (k:Nat):a5_ K TyK:=sm cod (ab_) [.bo, .bo, .bo] [.g [.s, .i .i64, .l true .end, .l true .parcel, .s, .l true .record, .l true .record], .c (.i .i64), .c (.i .i64)] [] (fun k v1 v2 v3 v4 v5 v6 v7 v8 v9=>i1_ k (⟨v1,v2,v3,v4,v5,v6,v7⟩:ab_) v8 v9) k [.g [.s, .i .i64, .o 0, .o 1, .s, .o 2, .o 3]] [.l .end, .l .parcel, .l .record, .l .record] (fun r=>(r.Key,r.Width,(),(),r.Forged,(),(),r.Ends,r.Flight,r.Given,r.Taken,())) (fun v1 v2 v3 v4 v5 v6 v7=>(⟨v1,v2,v4,v5,v3,v6,v7⟩:ab_)) false
noncomputable abbrev vz_:List (Nat×Cut K TyK (ab_)):=[(7,ct cod [1,2,6,7,8] [.c (.i .i64), .c (.i .i64), .c (.r 0 0), .c (.r 1 0), .c (.m 2)] [.x [.s, .i .i64, .o 3, .o 4, .s, .o 5, .o 6], .x [.s, .i .i64, .o 7, .o 8, .s, .o 9, .o 10], .m .key .int, .l .end, .l .parcel, .l .record, .l .record, .l .end, .l .parcel, .l .record, .l .record] dn_),
  (13,ct cod [1,2,6,7,8,40,41,42] [.c (.i .i64), .c (.i .i64), .c (.r 0 0), .c (.r 1 0), .c (.m 2), .c (.o 3), .c (.i .i64), .c (.i .i64)] [.x [.s, .i .i64, .o 4, .o 5, .s, .o 6, .o 7], .x [.s, .i .i64, .o 8, .o 9, .s, .o 10, .o 11], .m .key .int, .l .parcel, .l .end, .l .parcel, .l .record, .l .record, .l .end, .l .parcel, .l .record, .l .record] dq_),
  (17,ct cod [1,2,6,7,8,11,12,40,41,42] [.c (.i .i64), .c (.i .i64), .c (.r 0 0), .c (.r 1 0), .c (.m 2), .c (.r 3 0), .c (.r 4 0), .c (.o 5), .c (.i .i64), .c (.i .i64)] [.x [.s, .i .i64, .o 6, .o 7, .s, .o 8, .o 9], .x [.s, .i .i64, .o 10, .o 11, .s, .o 12, .o 13], .m .key .int, .x [.i .i64, .s, .s], .x [.i .i64, .s], .l .parcel, .l .end, .l .parcel, .l .record, .l .record, .l .end, .l .parcel, .l .record, .l .record] bu_),
  (21,ct cod [1,2,6,7,8,13] [.c (.i .i64), .c (.i .i64), .c (.r 0 0), .c (.r 1 0), .c (.m 2), .c (.i .i64)] [.x [.s, .i .i64, .o 3, .o 4, .s, .o 5, .o 6], .x [.s, .i .i64, .o 7, .o 8, .s, .o 9, .o 10], .m .key .int, .l .end, .l .parcel, .l .record, .l .record, .l .end, .l .parcel, .l .record, .l .record] co_),
  (19,ct cod [1,2,6,7,8,40,41,42] [.c (.i .i64), .c (.i .i64), .c (.r 0 0), .c (.r 1 0), .c (.m 2), .c (.o 3), .c (.i .i64), .c (.i .i64)] [.x [.s, .i .i64, .o 4, .o 5, .s, .o 6, .o 7], .x [.s, .i .i64, .o 8, .o 9, .s, .o 10, .o 11], .m .key .int, .l .parcel, .l .end, .l .parcel, .l .record, .l .record, .l .end, .l .parcel, .l .record, .l .record] dw_),
  (24,ct cod [1,2,6,7,8,13,14] [.c (.i .i64), .c (.i .i64), .c (.r 0 0), .c (.r 1 0), .c (.m 2), .c (.i .i64), .c (.i .i64)] [.x [.s, .i .i64, .o 3, .o 4, .s, .o 5, .o 6], .x [.s, .i .i64, .o 7, .o 8, .s, .o 9, .o 10], .m .key .int, .l .end, .l .parcel, .l .record, .l .record, .l .end, .l .parcel, .l .record, .l .record] es_)]
theorem t2_ (k:Nat):SummOk Try.prog cod 35 (pf_ k):=aG_ codOk Try.f35 (fun k=>aA_ [(27,cs_ k),(78,gm_ k),(79,fJ_ k),(80,fk_ k),(82,fM_ k)]) vz_ false [.cell 6 60] 0 [] aF_ Try.func35 (by kernel_rfl) (by kernel_rfl) (by kernel_rfl) (by kernel_rfl)
  (fun k=>Known.of tok eok codOk (all_cons (cX_ k) (all_cons (hP_ k) (all_cons (hs_ k) (all_cons (g1_ k) (all_cons (hx_ k) (ac_)))))))
  (fun k=>QuietOk.of (all_cons (fun h r=>⟨rfl,rfl⟩) (all_cons (fun h r=>by cases h) (all_cons (fun h r=>by cases h) (all_cons (fun h r=>by cases h) (all_cons (fun h r=>by cases h) (ac_)))))))
  (fun a=>rfl)
  (all_cons (ap_ codOk (by kernel_rfl) (by (repeat intro _);show _=_;kernel_rfl) (fun k=>by (repeat intro _);show _=_;kernel_rfl)) (all_cons (ap_ codOk (by kernel_rfl) (by (repeat intro _);show _=_;kernel_rfl) (fun k=>by (repeat intro _);show _=_;kernel_rfl)) (all_cons (ap_ codOk (by kernel_rfl) (by (repeat intro _);show _=_;kernel_rfl) (fun k=>by (repeat intro _);show _=_;kernel_rfl)) (all_cons (ap_ codOk (by kernel_rfl) (by (repeat intro _);show _=_;kernel_rfl) (fun k=>by (repeat intro _);show _=_;kernel_rfl)) (all_cons (ap_ codOk (by kernel_rfl) (by (repeat intro _);show _=_;kernel_rfl) (fun k=>by (repeat intro _);show _=_;kernel_rfl)) (all_cons (ap_ codOk (by kernel_rfl) (by (repeat intro _);show _=_;kernel_rfl) (fun k=>by (repeat intro _);show _=_;kernel_rfl)) (ac_)))))))
  (fun k=>by (repeat intro _);show _=_;kernel_rfl)
noncomputable def qC_ (k:Nat):a5_ K TyK:=sm cod (Bool) [.pe] [.c (.l false .byte)] [] (iR_) k [.c (.b)] [] (fun r=>(r,())) (fun v1=>v1) true
theorem ok_laws_FnApart (k:Nat):SummOk Try.prog cod 7 (qC_ k):=aG_ codOk Try.f7 (fun k=>aA_ [(26,hw_ k),(27,cs_ k),(34,er_ k),(29,tA_ k),(35,pf_ k),(22,m7_ k),(23,mZ_ k),(24,ps_ k)]) [] false [.tmp 2] 0 [] aF_ Try.func7 (by kernel_rfl) (by kernel_rfl) (by kernel_rfl) (by kernel_rfl)
  (fun k=>Known.of tok eok codOk (all_cons (kw_ k) (all_cons (cX_ k) (all_cons (fu_ k) (all_cons (xI_ k) (all_cons (t2_ k) (all_cons (sx_ k) (all_cons (sl_ k) (all_cons (tl_ k) (ac_))))))))))
  (fun k=>QuietOk.of (all_cons (fun h r=>by cases h) (all_cons (fun h r=>⟨rfl,rfl⟩) (all_cons (fun h r=>⟨rfl,rfl⟩) (all_cons (fun h r=>by cases h) (all_cons (fun h r=>by cases h) (all_cons (fun h r=>⟨rfl,rfl⟩) (all_cons (fun h r=>⟨rfl,rfl⟩) (all_cons (fun h r=>⟨rfl,rfl⟩) (ac_))))))))))
  (fun a=>rfl)
  (ac_)
  (fun k=>by (repeat intro _);show _=_;kernel_rfl)
end Km.X
