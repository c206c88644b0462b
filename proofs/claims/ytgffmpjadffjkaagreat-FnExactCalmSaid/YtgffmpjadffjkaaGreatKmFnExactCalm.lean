/- A part of the proof of FnExactCalm: each function does what its reading says. There is no condition. -/
import Derived.Test.YtgffmpjadffjkaaGreatKmSeat
import Derived.Test.YtgffmpjadffjkaaGreatKxDef2
namespace Km.X
open Go Km Go.Proofs
set_option linter.unusedVariables false
set_option maxRecDepth 100000
set_option maxHeartbeats 4000000
noncomputable def bC_ (k:Nat):aK_ K TyK:=sm cod (Bool) [.bo, .bo, .bo] [.c (.i .i64), .c (.i .i64), .c (.i .i64)] [] (aC_) k [.c (.b)] [] (fun r=>(r,())) (fun v1=>v1) true
theorem bu_ (k:Nat):SummOk Tryz.prog cod 28 (bC_ k):=ar_ codOk Tryz.f28 (fun k=>ap_ []) [] false [.tmp 6] 0 [] aq_ Tryz.func28 (by kernel_rfl) (by kernel_rfl) (by kernel_rfl) (by kernel_rfl)
  (fun k=>Known.of tok eok codOk (aa_))
  (fun k=>QuietOk.of (aa_))
  (fun a=>rfl)
  (aa_)
  (fun k=>by (repeat intro _);show _=_;kernel_rfl)
noncomputable def mr_ (k:Nat):aK_ K TyK:=sm cod (Int) [.bo] [.c (.s)] [] (fg_) k [.c (.i .i64)] [] (fun r=>(r,())) (fun v1=>v1) true
noncomputable abbrev st_:List (Nat×Cut K TyK (Int)):=[(3,ct cod [0,3,4] [.c (.s), .c (.i .i64), .c (.i .i64)] [] dn_)]
theorem rF_ (k:Nat):SummOk Tryz.prog cod 77 (mr_ k):=ar_ codOk Tryz.f77 (fun k=>ap_ []) st_ false [.tmp 2] 0 [] aq_ Tryz.func77 (by kernel_rfl) (by kernel_rfl) (by kernel_rfl) (by kernel_rfl)
  (fun k=>Known.of tok eok codOk (aa_))
  (fun k=>QuietOk.of (aa_))
  (fun a=>rfl)
  (all_cons (an_ codOk (by kernel_rfl) (by (repeat intro _);show _=_;kernel_rfl) (fun k=>by (repeat intro _);show _=_;kernel_rfl)) (aa_))
  (fun k=>by (repeat intro _);show _=_;kernel_rfl)
noncomputable def kV_ (k:Nat):aK_ K TyK:=sm cod (Bool) [.bo] [.g [.i .i64, .i .i64, .i .i64, .i .i64, .i .i64, .i .i64, .i .i64, .b, .s]] [] (fun k v1 v2 v3 v4 v5 v6 v7 v8 v9=>fK_ k (⟨v1,v2,v3,v4,v5,v6,v7,v8,v9⟩:ad_)) k [.c (.b)] [] (fun r=>(r,())) (fun v1=>v1) true
theorem nA_ (k:Nat):SummOk Tryz.prog cod 118 (kV_ k):=ar_ codOk Tryz.f118 (fun k=>ap_ [(28,bC_ k)]) [] false [.tmp 2] 0 [] aq_ Tryz.func118 (by kernel_rfl) (by kernel_rfl) (by kernel_rfl) (by kernel_rfl)
  (fun k=>Known.of tok eok codOk (all_cons (bu_ k) (aa_)))
  (fun k=>QuietOk.of (all_cons (fun h r=>⟨rfl,rfl⟩) (aa_)))
  (fun a=>rfl)
  (aa_)
  (fun k=>by (repeat intro _);show _=_;kernel_rfl)
noncomputable def jd_ (k:Nat):aK_ K TyK:=sm cod (ByteArray) [.bo, .bo] [.c (.i .i64), .c (.i .i64)] [] (bK_) k [.c (.s)] [] (fun r=>(r,())) (fun v1=>v1) true
noncomputable abbrev pM_:List (Nat×Cut K TyK (ByteArray)):=[(3,ct cod [0,1,5,6] [.c (.i .i64), .c (.i .i64), .c (.s), .c (.i .i64)] [] cC_)]
theorem om_ (k:Nat):SummOk Tryz.prog cod 153 (jd_ k):=ar_ codOk Tryz.f153 (fun k=>ap_ []) pM_ false [.tmp 4] 0 [] aq_ Tryz.func153 (by kernel_rfl) (by kernel_rfl) (by kernel_rfl) (by kernel_rfl)
  (fun k=>Known.of tok eok codOk (aa_))
  (fun k=>QuietOk.of (aa_))
  (fun a=>rfl)
  (all_cons (an_ codOk (by kernel_rfl) (by (repeat intro _);show _=_;kernel_rfl) (fun k=>by (repeat intro _);show _=_;kernel_rfl)) (aa_))
  (fun k=>by (repeat intro _);show _=_;kernel_rfl)
noncomputable def lV_ (k:Nat):aK_ K TyK:=sm cod (ByteArray) [.bo] [.g [.i .i64, .i .i64, .i .i64, .i .i64, .i .i64, .i .i64, .i .i64, .b, .s]] [] (fun k v1 v2 v3 v4 v5 v6 v7 v8 v9=>gw_ k (⟨v1,v2,v3,v4,v5,v6,v7,v8,v9⟩:ad_)) k [.c (.s)] [] (fun r=>(r,())) (fun v1=>v1) true
noncomputable abbrev sO_:List (Nat×Cut K TyK (ByteArray)):=[(7,ct cod [1,3,4] [.c (.r 0 0), .c (.s), .c (.i .i64)] [.x [.i .i64, .i .i64, .i .i64, .i .i64, .i .i64, .i .i64, .i .i64, .b, .s]] ec_)]
theorem rs_ (k:Nat):SummOk Tryz.prog cod 120 (lV_ k):=ar_ codOk Tryz.f120 (fun k=>ap_ [(153,jd_ k)]) sO_ false [.tmp 2] 0 [] aq_ Tryz.func120 (by kernel_rfl) (by kernel_rfl) (by kernel_rfl) (by kernel_rfl)
  (fun k=>Known.of tok eok codOk (all_cons (om_ k) (aa_)))
  (fun k=>QuietOk.of (all_cons (fun h r=>⟨rfl,rfl⟩) (aa_)))
  (fun a=>rfl)
  (all_cons (an_ codOk (by kernel_rfl) (by (repeat intro _);show _=_;kernel_rfl) (fun k=>by (repeat intro _);show _=_;kernel_rfl)) (aa_))
  (fun k=>by (repeat intro _);show _=_;kernel_rfl)
noncomputable def r7_ (k:Nat):aK_ K TyK:=sm cod (ByteArray) [.bo, .bo, .bo] [.c (.s), .c (.s), .c (.i .i64)] [] (oJ_) k [.c (.s)] [] (fun r=>(r,())) (fun v1=>v1) true
noncomputable abbrev yd_:List (Nat×Cut K TyK (ByteArray)):=[(6,ct cod [2,7,8,9] [.c (.i .i64), .c (.s), .c (.i .u64), .c (.i .i64)] [] fj_),
  (11,ct cod [2,8,10,11] [.c (.i .i64), .c (.i .u64), .c (.s), .c (.i .i64)] [] eE_)]
theorem wh_ (k:Nat):SummOk Tryz.prog cod 119 (r7_ k):=ar_ codOk Tryz.f119 (fun k=>ap_ [(28,bC_ k)]) yd_ false [.tmp 6] 0 [] aq_ Tryz.func119 (by kernel_rfl) (by kernel_rfl) (by kernel_rfl) (by kernel_rfl)
  (fun k=>Known.of tok eok codOk (all_cons (bu_ k) (aa_)))
  (fun k=>QuietOk.of (all_cons (fun h r=>⟨rfl,rfl⟩) (aa_)))
  (fun a=>rfl)
  (all_cons (an_ codOk (by kernel_rfl) (by (repeat intro _);show _=_;kernel_rfl) (fun k=>by (repeat intro _);show _=_;kernel_rfl)) (all_cons (an_ codOk (by kernel_rfl) (by (repeat intro _);show _=_;kernel_rfl) (fun k=>by (repeat intro _);show _=_;kernel_rfl)) (aa_)))
  (fun k=>by (repeat intro _);show _=_;kernel_rfl)
noncomputable def fi_ (k:Nat):aK_ K TyK:=sm cod (ByteArray) [.bo, .bo, .bo] [.g [.i .i64, .i .i64, .i .i64, .i .i64, .i .i64, .i .i64, .i .i64, .b, .s], .c (.s), .c (.i .i64)] [] (fun k v1 v2 v3 v4 v5 v6 v7 v8 v9 v10 v11=>cS_ k (⟨v1,v2,v3,v4,v5,v6,v7,v8,v9⟩:ad_) v10 v11) k [.c (.s)] [] (fun r=>(r,())) (fun v1=>v1) true
theorem gF_ (k:Nat):SummOk Tryz.prog cod 78 (fi_ k):=ar_ codOk Tryz.f78 (fun k=>ap_ [(118,kV_ k),(28,bC_ k),(120,lV_ k),(119,r7_ k)]) [] false [.tmp 6] 0 [] aq_ Tryz.func78 (by kernel_rfl) (by kernel_rfl) (by kernel_rfl) (by kernel_rfl)
  (fun k=>Known.of tok eok codOk (all_cons (nA_ k) (all_cons (bu_ k) (all_cons (rs_ k) (all_cons (wh_ k) (aa_))))))
  (fun k=>QuietOk.of (all_cons (fun h r=>⟨rfl,rfl⟩) (all_cons (fun h r=>⟨rfl,rfl⟩) (all_cons (fun h r=>⟨rfl,rfl⟩) (all_cons (fun h r=>⟨rfl,rfl⟩) (aa_))))))
  (fun a=>rfl)
  (aa_)
  (fun k=>by (repeat intro _);show _=_;kernel_rfl)
noncomputable def hw_ (k:Nat):aK_ K TyK:=sm cod (ad_×Bool) [.bo, .bo, .bo] [.c (.s), .c (.s), .c (.i .i64)] [] (eN_) k [.g [.i .i64, .i .i64, .i .i64, .i .i64, .i .i64, .i .i64, .i .i64, .b, .s], .c (.b)] [] (fun r=>(r.1.Kind,r.1.From,r.1.Mine,r.1.Yours,r.1.Next,r.1.Mask,r.1.Seq,r.1.Last,r.1.Part,r.2,())) (fun v1 v2 v3 v4 v5 v6 v7 v8 v9 v10=>((⟨v1,v2,v3,v4,v5,v6,v7,v8,v9⟩:ad_),v10)) true
noncomputable abbrev m5_:List (Nat×Cut K TyK (ad_×Bool)):=[(11,ct cod [0,1,2,6,9] [.c (.s), .c (.s), .c (.i .i64), .c (.r 0 0), .c (.r 1 0)] [.x [.i .i64, .i .i64, .i .i64, .i .i64, .i .i64, .i .i64, .i .i64, .b, .s], .x [.i .i64, .i .i64, .i .i64, .i .i64, .i .i64, .i .i64, .i .i64, .b, .s]] cp_)]
theorem mk_ (k:Nat):SummOk Tryz.prog cod 33 (hw_ k):=ar_ codOk Tryz.f33 (fun k=>ap_ [(28,bC_ k),(77,mr_ k),(78,fi_ k)]) m5_ false [.cell 6 75, .tmp 7] 0 [] aq_ Tryz.func33 (by kernel_rfl) (by kernel_rfl) (by kernel_rfl) (by kernel_rfl)
  (fun k=>Known.of tok eok codOk (all_cons (bu_ k) (all_cons (rF_ k) (all_cons (gF_ k) (aa_)))))
  (fun k=>QuietOk.of (all_cons (fun h r=>⟨rfl,rfl⟩) (all_cons (fun h r=>⟨rfl,rfl⟩) (all_cons (fun h r=>⟨rfl,rfl⟩) (aa_)))))
  (fun a=>rfl)
  (all_cons (an_ codOk (by kernel_rfl) (by (repeat intro _);show _=_;kernel_rfl) (fun k=>by (repeat intro _);show _=_;kernel_rfl)) (aa_))
  (fun k=>by (repeat intro _);show _=_;kernel_rfl)
noncomputable def fH_ (k:Nat):aK_ K TyK:=sm cod (Bool) [.bo, .bo, .bo] [.c (.i .i64), .c (.i .i64), .c (.i .i64)] [] (aQ_) k [.c (.b)] [] (fun r=>(r,())) (fun v1=>v1) true
theorem fh_ (k:Nat):SummOk Tryz.prog cod 80 (fH_ k):=ar_ codOk Tryz.f80 (fun k=>ap_ []) [] false [.tmp 6] 0 [] aq_ Tryz.func80 (by kernel_rfl) (by kernel_rfl) (by kernel_rfl) (by kernel_rfl)
  (fun k=>Known.of ct_ cv_ codOk (aa_))
  (fun k=>QuietOk.of (aa_))
  (fun a=>rfl)
  (aa_)
  (fun k=>by (repeat intro _);show _=_;kernel_rfl)
noncomputable def en_ (k:Nat):aK_ K TyK:=sm cod (Bool) [.bo] [.g [.i .i64, .l true .item]] [] (fun k v1 v2=>bq_ k (⟨v1,v2⟩:am_)) k [.c (.b)] [] (fun r=>(r,())) (fun v1=>v1) true
noncomputable abbrev oh_:List (Nat×Cut K TyK (Bool)):=[(4,ct cod [25,26,27] [.c (.l true .item), .c (.i .i64), .c (.i .i64)] [] bp_)]
theorem fa_ (k:Nat):SummOk Tryz.prog cod 121 (en_ k):=ar_ codOk Tryz.f121 (fun k=>ap_ [(80,fH_ k)]) oh_ false [.tmp 2] 0 [] aq_ Tryz.func121 (by kernel_rfl) (by kernel_rfl) (by kernel_rfl) (by kernel_rfl)
  (fun k=>Known.of ct_ cv_ codOk (all_cons (fh_ k) (aa_)))
  (fun k=>QuietOk.of (all_cons (fun h r=>⟨rfl,rfl⟩) (aa_)))
  (fun a=>rfl)
  (all_cons (an_ codOk (by kernel_rfl) (by (repeat intro _);show _=_;kernel_rfl) (fun k=>by (repeat intro _);show _=_;kernel_rfl)) (aa_))
  (fun k=>by (repeat intro _);show _=_;kernel_rfl)
noncomputable def lc_ (k:Nat):aK_ K TyK:=sm cod (Bool) [.bo, .bo] [.g [.i .i64, .l true .held, .s, .l true .str], .g [.s, .b]] [] (fun k v1 v2 v3 v4 v5 v6=>gv_ k (⟨v1,v2,v3,v4⟩:al_) (⟨v5,v6⟩:aA_)) k [.c (.b)] [] (fun r=>(r,())) (fun v1=>v1) true
theorem nj_ (k:Nat):SummOk Tryz.prog cod 154 (lc_ k):=ar_ codOk Tryz.f154 (fun k=>ap_ []) [] false [.tmp 4] 0 [] aq_ Tryz.func154 (by kernel_rfl) (by kernel_rfl) (by kernel_rfl) (by kernel_rfl)
  (fun k=>Known.of ct_ cv_ codOk (aa_))
  (fun k=>QuietOk.of (aa_))
  (fun a=>rfl)
  (aa_)
  (fun k=>by (repeat intro _);show _=_;kernel_rfl)
noncomputable def dj_ (k:Nat):aK_ K TyK:=sm cod (Bool) [.bo] [.g [.i .i64, .l true .held, .s, .l true .str]] [] (fun k v1 v2 v3 v4=>bL_ k (⟨v1,v2,v3,v4⟩:al_)) k [.c (.b)] [] (fun r=>(r,())) (fun v1=>v1) true
noncomputable abbrev ov_:List (Nat×Cut K TyK (Bool)):=[(4,ct cod [1,30,31,32] [.c (.r 0 0), .c (.l true .held), .c (.i .i64), .c (.i .i64)] [.x [.i .i64, .l true .held, .s, .l true .str]] aN_),
  (12,ct cod [88,89,90] [.c (.l true .str), .c (.i .i64), .c (.i .i64)] [] bT_)]
theorem dU_ (k:Nat):SummOk Tryz.prog cod 122 (dj_ k):=ar_ codOk Tryz.f122 (fun k=>ap_ [(80,fH_ k),(154,lc_ k)]) ov_ false [.tmp 2] 0 [] aq_ Tryz.func122 (by kernel_rfl) (by kernel_rfl) (by kernel_rfl) (by kernel_rfl)
  (fun k=>Known.of ct_ cv_ codOk (all_cons (fh_ k) (all_cons (nj_ k) (aa_))))
  (fun k=>QuietOk.of (all_cons (fun h r=>⟨rfl,rfl⟩) (all_cons (fun h r=>⟨rfl,rfl⟩) (aa_))))
  (fun a=>rfl)
  (all_cons (an_ codOk (by kernel_rfl) (by (repeat intro _);show _=_;kernel_rfl) (fun k=>by (repeat intro _);show _=_;kernel_rfl)) (all_cons (an_ codOk (by kernel_rfl) (by (repeat intro _);show _=_;kernel_rfl) (fun k=>by (repeat intro _);show _=_;kernel_rfl)) (aa_)))
  (fun k=>by (repeat intro _);show _=_;kernel_rfl)
noncomputable def lN_ (k:Nat):aK_ K TyK:=sm cod (Bool) [.bo] [.g [.i .i64, .l true .item]] [] (fun k v1 v2=>ih_ k (⟨v1,v2⟩:am_)) k [.c (.b)] [] (fun r=>(r,())) (fun v1=>v1) true
theorem rv_ (k:Nat):SummOk Tryz.prog cod 123 (lN_ k):=ar_ codOk Tryz.f123 (fun k=>ap_ []) [] false [.tmp 2] 0 [] aq_ Tryz.func123 (by kernel_rfl) (by kernel_rfl) (by kernel_rfl) (by kernel_rfl)
  (fun k=>Known.of ct_ cv_ codOk (aa_))
  (fun k=>QuietOk.of (aa_))
  (fun a=>rfl)
  (aa_)
  (fun k=>by (repeat intro _);show _=_;kernel_rfl)
noncomputable def mw_ (k:Nat):aK_ K TyK:=sm cod (Bool) [.bo] [.g [.i .i64, .l true .held, .s, .l true .str]] [] (fun k v1 v2 v3 v4=>h8_ k (⟨v1,v2,v3,v4⟩:al_)) k [.c (.b)] [] (fun r=>(r,())) (fun v1=>v1) true
theorem rG_ (k:Nat):SummOk Tryz.prog cod 124 (mw_ k):=ar_ codOk Tryz.f124 (fun k=>ap_ []) [] false [.tmp 2] 0 [] aq_ Tryz.func124 (by kernel_rfl) (by kernel_rfl) (by kernel_rfl) (by kernel_rfl)
  (fun k=>Known.of ct_ cv_ codOk (aa_))
  (fun k=>QuietOk.of (aa_))
  (fun a=>rfl)
  (aa_)
  (fun k=>by (repeat intro _);show _=_;kernel_rfl)
noncomputable def dM_ (k:Nat):aK_ K TyK:=sm cod (Bool) [.bo] [.g [.i .i64, .b, .i .i64, .i .i64, .i .i64, .b, .i .i64, .l true .item, .i .i64, .l true .held, .s, .l true .str]] [] (fun k v1 v2 v3 v4 v5 v6 v7 v8 v9 v10 v11 v12=>da_ k (⟨v1,v2,v3,v4,v5,v6,(⟨v7,v8⟩:am_),(⟨v9,v10,v11,v12⟩:al_)⟩:ao_)) k [.c (.b)] [] (fun r=>(r,())) (fun v1=>v1) true
theorem eo_ (k:Nat):SummOk Tryz.prog cod 79 (dM_ k):=ar_ codOk Tryz.f79 (fun k=>ap_ [(80,fH_ k),(121,en_ k),(122,dj_ k),(123,lN_ k),(124,mw_ k)]) [] false [.tmp 2] 0 [] aq_ Tryz.func79 (by kernel_rfl) (by kernel_rfl) (by kernel_rfl) (by kernel_rfl)
  (fun k=>Known.of ct_ cv_ codOk (all_cons (fh_ k) (all_cons (fa_ k) (all_cons (dU_ k) (all_cons (rv_ k) (all_cons (rG_ k) (aa_)))))))
  (fun k=>QuietOk.of (all_cons (fun h r=>⟨rfl,rfl⟩) (all_cons (fun h r=>⟨rfl,rfl⟩) (all_cons (fun h r=>⟨rfl,rfl⟩) (all_cons (fun h r=>⟨rfl,rfl⟩) (all_cons (fun h r=>⟨rfl,rfl⟩) (aa_)))))))
  (fun a=>rfl)
  (aa_)
  (fun k=>by (repeat intro _);show _=_;kernel_rfl)
noncomputable def hA_ (k:Nat):aK_ K TyK:=sm cod (Bool) [.bo] [.g [.s, .i .i64, .l true .xend, .l true .parcel, .s, .l true .record, .l true .record]] [] (fun k v1 v2 v3 v4 v5 v6 v7=>e3_ k (⟨v1,v2,v3,v4,v5,v6,v7⟩:ae_)) k [.c (.b)] [] (fun r=>(r,())) (fun v1=>v1) true
noncomputable abbrev m0_:List (Nat×Cut K TyK (Bool)):=[(4,ct cod [1,48,49,50] [.c (.r 0 0), .c (.l true .xend), .c (.i .i64), .c (.i .i64)] [.x [.s, .i .i64, .l true .xend, .l true .parcel, .s, .l true .record, .l true .record]] bS_),
  (10,ct cod [1,67,68,69] [.c (.r 0 0), .c (.l true .parcel), .c (.i .i64), .c (.i .i64)] [.x [.s, .i .i64, .l true .xend, .l true .parcel, .s, .l true .record, .l true .record]] aY_),
  (16,ct cod [98,99,100] [.c (.o 0), .c (.i .i64), .c (.i .i64)] [.l .lrecord] a1_),
  (19,ct cod [98,99,100,104,105,106] [.c (.o 0), .c (.i .i64), .c (.i .i64), .c (.l true .record), .c (.i .i64), .c (.i .i64)] [.l .lrecord] a2_)]
theorem ml_ (k:Nat):SummOk Tryz.prog cod 34 (hA_ k):=ar_ codOk Tryz.f34 (fun k=>ap_ [(79,dM_ k),(80,fH_ k)]) m0_ false [.tmp 2] 0 [] aq_ Tryz.func34 (by kernel_rfl) (by kernel_rfl) (by kernel_rfl) (by kernel_rfl)
  (fun k=>Known.of ct_ cv_ codOk (all_cons (eo_ k) (all_cons (fh_ k) (aa_))))
  (fun k=>QuietOk.of (all_cons (fun h r=>⟨rfl,rfl⟩) (all_cons (fun h r=>⟨rfl,rfl⟩) (aa_))))
  (fun a=>rfl)
  (all_cons (an_ codOk (by kernel_rfl) (by (repeat intro _);show _=_;kernel_rfl) (fun k=>by (repeat intro _);show _=_;kernel_rfl)) (all_cons (an_ codOk (by kernel_rfl) (by (repeat intro _);show _=_;kernel_rfl) (fun k=>by (repeat intro _);show _=_;kernel_rfl)) (all_cons (an_ codOk (by kernel_rfl) (by (repeat intro _);show _=_;kernel_rfl) (fun k=>by (repeat intro _);show _=_;kernel_rfl)) (all_cons (an_ codOk (by kernel_rfl) (by (repeat intro _);show _=_;kernel_rfl) (fun k=>by (repeat intro _);show _=_;kernel_rfl)) (aa_)))))
  (fun k=>by (repeat intro _);show _=_;kernel_rfl)
noncomputable def eP_ (k:Nat):aK_ K TyK:=sm cod (am_) [.bo] [.g [.i .i64, .l true .item]] [] (fun k v1 v2=>e6_ k (⟨v1,v2⟩:am_)) k [.g [.i .i64, .o 0]] [.l .item] (fun r=>(r.Base,(),r.Items,())) (fun v1 v2=>(⟨v1,v2⟩:am_)) false
theorem fQ_ (k:Nat):SummOk Tryz.prog cod 125 (eP_ k):=ar_ codOk Tryz.f125 (fun k=>ap_ []) [] false [.cell 2 59] 0 [] aq_ Tryz.func125 (by kernel_rfl) (by kernel_rfl) (by kernel_rfl) (by kernel_rfl)
  (fun k=>Known.of ct_ cv_ codOk (aa_))
  (fun k=>QuietOk.of (aa_))
  (fun a=>rfl)
  (aa_)
  (fun k=>by (repeat intro _);show _=_;kernel_rfl)
noncomputable def e5_ (k:Nat):aK_ K TyK:=sm cod (al_) [.bo] [.g [.i .i64, .l true .held, .s, .l true .str]] [] (fun k v1 v2 v3 v4=>e0_ k (⟨v1,v2,v3,v4⟩:al_)) k [.g [.i .i64, .o 0, .s, .o 1]] [.l .held, .l .str] (fun r=>(r.Next,(),r.Open,(),r.Held,r.Ready,())) (fun v1 v2 v3 v4=>(⟨v1,v3,v2,v4⟩:al_)) false
theorem fS_ (k:Nat):SummOk Tryz.prog cod 126 (e5_ k):=ar_ codOk Tryz.f126 (fun k=>ap_ []) [] false [.cell 2 63] 0 [] aq_ Tryz.func126 (by kernel_rfl) (by kernel_rfl) (by kernel_rfl) (by kernel_rfl)
  (fun k=>Known.of ct_ cv_ codOk (aa_))
  (fun k=>QuietOk.of (aa_))
  (fun a=>rfl)
  (aa_)
  (fun k=>by (repeat intro _);show _=_;kernel_rfl)
noncomputable def d8_ (k:Nat):aK_ K TyK:=sm cod (ao_) [.bo] [.g [.i .i64, .b, .i .i64, .i .i64, .i .i64, .b, .i .i64, .l true .item, .i .i64, .l true .held, .s, .l true .str]] [] (fun k v1 v2 v3 v4 v5 v6 v7 v8 v9 v10 v11 v12=>dF_ k (⟨v1,v2,v3,v4,v5,v6,(⟨v7,v8⟩:am_),(⟨v9,v10,v11,v12⟩:al_)⟩:ao_)) k [.g [.i .i64, .b, .i .i64, .i .i64, .i .i64, .b, .i .i64, .o 0, .i .i64, .o 1, .s, .o 2]] [.l .item, .l .held, .l .str] (fun r=>(r.Number,r.Up,r.Life,r.Peer,r.Since,r.Owes,r.Send.Base,(),r.Take.Next,(),r.Take.Open,(),r.Send.Items,r.Take.Held,r.Take.Ready,())) (fun v1 v2 v3 v4 v5 v6 v7 v8 v9 v10 v11 v12=>(⟨v1,v2,v3,v4,v5,v6,(⟨v7,v10⟩:am_),(⟨v8,v11,v9,v12⟩:al_)⟩:ao_)) false
theorem eZ_ (k:Nat):SummOk Tryz.prog cod 81 (d8_ k):=ar_ codOk Tryz.f81 (fun k=>ap_ [(125,eP_ k),(126,e5_ k)]) [] false [.cell 2 65] 0 [] aq_ Tryz.func81 (by kernel_rfl) (by kernel_rfl) (by kernel_rfl) (by kernel_rfl)
  (fun k=>Known.of ct_ cv_ codOk (all_cons (fQ_ k) (all_cons (fS_ k) (aa_))))
  (fun k=>QuietOk.of (all_cons (fun h r=>by cases h) (all_cons (fun h r=>by cases h) (aa_))))
  (fun a=>rfl)
  (aa_)
  (fun k=>by (repeat intro _);show _=_;kernel_rfl)
noncomputable def dx_ (k:Nat):aK_ K TyK:=sm cod (ae_) [.bo] [.g [.s, .i .i64, .l true .xend, .l true .parcel, .s, .l true .record, .l true .record]] [] (fun k v1 v2 v3 v4 v5 v6 v7=>fW_ k (⟨v1,v2,v3,v4,v5,v6,v7⟩:ae_)) k [.g [.s, .i .i64, .w 0, .o 1, .s, .o 2, .o 3]] [.w .xend, .l .parcel, .l .record, .l .record] (fun r=>(r.Key,r.Width,(),(),r.Forged,(),(),r.Ends,r.Flight,r.Given,r.Taken,())) (fun v1 v2 v3 v4 v5 v6 v7=>(⟨v1,v2,v4,v5,v3,v6,v7⟩:ae_)) false
noncomputable def dA_ (k:Nat):aK_ K TyK:=sm cod (ae_) [.bo] [.g [.s, .i .i64, .l true .xend, .l true .parcel, .s, .l true .record, .l true .record]] [] (fun k v1 v2 v3 v4 v5 v6 v7=>do_ k (⟨v1,v2,v3,v4,v5,v6,v7⟩:ae_)) k [.g [.s, .i .i64, .w 0, .o 1, .s, .o 2, .o 3]] [.w .xend, .l .parcel, .l .record, .l .record] (fun r=>(r.Key,r.Width,(),(),r.Forged,(),(),r.Ends,r.Flight,r.Given,r.Taken,())) (fun v1 v2 v3 v4 v5 v6 v7=>(⟨v1,v2,v4,v5,v3,v6,v7⟩:ae_)) false
noncomputable abbrev lt_:List (Nat×Cut K TyK (ae_)):=[(3,ct cod [1,2,10,11] [.c (.r 0 0), .c (.r 1 0), .c (.i .i64), .c (.i .i64)] [.x [.s, .i .i64, .w 2, .l true .parcel, .s, .l true .record, .l true .record], .x [.s, .i .i64, .w 3, .o 4, .s, .o 5, .o 6], .q .xend, .w .xend, .l .parcel, .l .record, .l .record] cq_)]
theorem h6_ (k:Nat):SummOk Tryz.prog cod 35 (dx_ k):=ar_ codOk Tryz.f35 (fun k=>ap_ [(81,d8_ k)]) lt_ false [.cell 2 29] 0 [] aq_ Tryz.func35 (by kernel_rfl) (by kernel_rfl) (by kernel_rfl) (by kernel_rfl)
  (fun k=>Known.of ct_ cv_ codOk (all_cons (eZ_ k) (aa_)))
  (fun k=>QuietOk.of (all_cons (fun h r=>by cases h) (aa_)))
  (fun a=>rfl)
  (all_cons (an_ codOk (by kernel_rfl) (by (repeat intro _);show _=_;kernel_rfl) (fun k=>by (repeat intro _);show _=_;kernel_rfl)) (aa_))
  (fun k=>by (repeat intro _);show _=_;kernel_rfl)
theorem kG_ (k:Nat):SummOk Tryz.prog cod 35 (dA_ k):=(show dx_ k=dA_ k by unfold dx_ dA_;rw [kQ_])▸h6_ k
noncomputable def iR_ (k:Nat):aK_ K TyK:=sm cod (am_×List Int) [.bo] [.g [.i .i64, .l true .item]] [] (fun k v1 v2=>ge_ k (⟨v1,v2⟩:am_)) k [.g [.i .i64, .o 0], .c (.o 1)] [.l .item, .l .int] (fun r=>(r.1.Base,(),(),r.1.Items,r.2,())) (fun v1 v2 v3=>((⟨v1,v2⟩:am_),v3)) false
noncomputable abbrev o3_:List (Nat×Cut K TyK (am_×List Int)):=[(6,ct cod [2,4,5,6] [.c (.r 0 0), .c (.r 1 0), .c (.o 2), .c (.i .i64)] [.x [.i .i64, .o 3], .x [.i .i64, .o 4], .l .int, .l .item, .l .item] cz_),
  (7,ct cod [2,4,5,6] [.c (.r 0 0), .c (.r 1 0), .c (.o 2), .c (.i .i64)] [.x [.i .i64, .o 3], .x [.i .i64, .o 4], .l .int, .l .item, .l .item] b2_)]
theorem op_ (k:Nat):SummOk Tryz.prog cod 127 (iR_ k):=ar_ codOk Tryz.f127 (fun k=>ap_ [(121,en_ k),(125,eP_ k)]) o3_ false [.cell 2 59, .tmp 3] 0 [] aq_ Tryz.func127 (by kernel_rfl) (by kernel_rfl) (by kernel_rfl) (by kernel_rfl)
  (fun k=>Known.of ct_ cv_ codOk (all_cons (fa_ k) (all_cons (fQ_ k) (aa_))))
  (fun k=>QuietOk.of (all_cons (fun h r=>⟨rfl,rfl⟩) (all_cons (fun h r=>by cases h) (aa_))))
  (fun a=>rfl)
  (all_cons (an_ codOk (by kernel_rfl) (by (repeat intro _);show _=_;kernel_rfl) (fun k=>by (repeat intro _);show _=_;kernel_rfl)) (all_cons (an_ codOk (by kernel_rfl) (by (repeat intro _);show _=_;kernel_rfl) (fun k=>by (repeat intro _);show _=_;kernel_rfl)) (aa_)))
  (fun k=>by (repeat intro _);show _=_;kernel_rfl)
noncomputable def i1_ (k:Nat):aK_ K TyK:=sm cod (Int×Int) [.bo] [.g [.i .i64, .l true .held, .s, .l true .str]] [] (fun k v1 v2 v3 v4=>dT_ k (⟨v1,v2,v3,v4⟩:al_)) k [.c (.i .i64), .c (.i .i64)] [] (fun r=>(r.1,r.2,())) (fun v1 v2=>(v1,v2)) true
noncomputable abbrev qp_:List (Nat×Cut K TyK (Int×Int)):=[(5,ct cod [1,4,11,12,13] [.c (.r 0 0), .c (.i .i64), .c (.l true .held), .c (.i .i64), .c (.i .i64)] [.x [.i .i64, .l true .held, .s, .l true .str]] cx_)]
theorem nU_ (k:Nat):SummOk Tryz.prog cod 128 (i1_ k):=ar_ codOk Tryz.f128 (fun k=>ap_ [(122,dj_ k)]) qp_ false [.tmp 2, .tmp 3] 0 [] aq_ Tryz.func128 (by kernel_rfl) (by kernel_rfl) (by kernel_rfl) (by kernel_rfl)
  (fun k=>Known.of ct_ cv_ codOk (all_cons (dU_ k) (aa_)))
  (fun k=>QuietOk.of (all_cons (fun h r=>⟨rfl,rfl⟩) (aa_)))
  (fun a=>rfl)
  (all_cons (an_ codOk (by kernel_rfl) (by (repeat intro _);show _=_;kernel_rfl) (fun k=>by (repeat intro _);show _=_;kernel_rfl)) (aa_))
  (fun k=>by (repeat intro _);show _=_;kernel_rfl)
noncomputable def j8_ (k:Nat):aK_ K TyK:=sm cod (ay_) [.bo] [.g [.i .i64, .b, .i .i64, .i .i64, .i .i64, .b, .i .i64, .l true .item, .i .i64, .l true .held, .s, .l true .str]] [] (fun k v1 v2 v3 v4 v5 v6 v7 v8 v9 v10 v11 v12=>gM_ k (⟨v1,v2,v3,v4,v5,v6,(⟨v7,v8⟩:am_),(⟨v9,v10,v11,v12⟩:al_)⟩:ao_)) k [.g [.i .i64, .i .i64, .b, .i .i64, .i .i64, .i .i64, .b, .i .i64, .o 0, .i .i64, .o 1, .s, .o 2, .o 3, .s]] [.l .item, .l .held, .l .str, .l .packet] (fun r=>(r.Code,r.End.Number,r.End.Up,r.End.Life,r.End.Peer,r.End.Since,r.End.Owes,r.End.Send.Base,(),r.End.Take.Next,(),r.End.Take.Open,(),(),r.Text,r.End.Send.Items,r.End.Take.Held,r.End.Take.Ready,r.Out,())) (fun v1 v2 v3 v4 v5 v6 v7 v8 v9 v10 v11 v12 v13 v14 v15=>(⟨v1,(⟨v2,v3,v4,v5,v6,v7,(⟨v8,v12⟩:am_),(⟨v9,v13,v10,v14⟩:al_)⟩:ao_),v15,v11⟩:ay_)) false
noncomputable abbrev qW_:List (Nat×Cut K TyK (ay_)):=[(9,ct cod [2,3,4] [.c (.r 0 0), .c (.r 1 0), .c (.r 1 1)] [.x [.i .i64, .i .i64, .b, .i .i64, .i .i64, .i .i64, .b, .i .i64, .o 2, .i .i64, .o 3, .s, .o 4, .o 5, .s], .x [.i .i64, .i .i64, .b, .i .i64, .i .i64, .i .i64, .b, .i .i64, .o 6, .i .i64, .o 7, .s, .o 8, .o 9, .s], .l .item, .l .held, .l .str, .l .packet, .l .item, .l .held, .l .str, .l .packet] dG_),
  (13,ct cod [2,3,4,53,54,55] [.c (.r 0 0), .c (.r 1 0), .c (.r 1 1), .c (.o 2), .c (.i .i64), .c (.i .i64)] [.x [.i .i64, .i .i64, .b, .i .i64, .i .i64, .i .i64, .b, .i .i64, .o 3, .i .i64, .o 4, .s, .o 5, .o 6, .s], .x [.i .i64, .i .i64, .b, .i .i64, .i .i64, .i .i64, .b, .i .i64, .o 7, .i .i64, .o 8, .s, .o 9, .o 10, .s], .l .int, .l .item, .l .held, .l .str, .l .packet, .l .item, .l .held, .l .str, .l .packet] cE_),
  (18,ct cod [2,3,4] [.c (.r 0 0), .c (.r 1 0), .c (.r 1 1)] [.x [.i .i64, .i .i64, .b, .i .i64, .i .i64, .i .i64, .b, .i .i64, .o 2, .i .i64, .o 3, .s, .o 4, .o 5, .s], .x [.i .i64, .i .i64, .b, .i .i64, .i .i64, .i .i64, .b, .i .i64, .o 6, .i .i64, .o 7, .s, .o 8, .o 9, .s], .l .item, .l .held, .l .str, .l .packet, .l .item, .l .held, .l .str, .l .packet] db_),
  (22,ct cod [2,3] [.c (.r 0 0), .c (.r 1 0)] [.x [.i .i64, .i .i64, .b, .i .i64, .i .i64, .i .i64, .b, .i .i64, .o 2, .i .i64, .o 3, .s, .o 4, .o 5, .s], .x [.i .i64, .i .i64, .b, .i .i64, .i .i64, .i .i64, .b, .i .i64, .o 6, .i .i64, .o 7, .s, .o 8, .o 9, .s], .l .item, .l .held, .l .str, .l .packet, .l .item, .l .held, .l .str, .l .packet] b0_)]
theorem qS_ (k:Nat):SummOk Tryz.prog cod 82 (j8_ k):=ar_ codOk Tryz.f82 (fun k=>ap_ [(79,dM_ k),(81,d8_ k),(127,iR_ k),(128,i1_ k)]) qW_ false [.cell 2 84] 0 [] aq_ Tryz.func82 (by kernel_rfl) (by kernel_rfl) (by kernel_rfl) (by kernel_rfl)
  (fun k=>Known.of ct_ cv_ codOk (all_cons (eo_ k) (all_cons (eZ_ k) (all_cons (op_ k) (all_cons (nU_ k) (aa_))))))
  (fun k=>QuietOk.of (all_cons (fun h r=>⟨rfl,rfl⟩) (all_cons (fun h r=>by cases h) (all_cons (fun h r=>by cases h) (all_cons (fun h r=>⟨rfl,rfl⟩) (aa_))))))
  (fun a=>rfl)
  (all_cons (an_ codOk (by kernel_rfl) (by (repeat intro _);show _=_;kernel_rfl) (fun k=>by (repeat intro _);show _=_;kernel_rfl)) (all_cons (an_ codOk (by kernel_rfl) (by (repeat intro _);show _=_;kernel_rfl) (fun k=>by (repeat intro _);show _=_;kernel_rfl)) (all_cons (an_ codOk (by kernel_rfl) (by (repeat intro _);show _=_;kernel_rfl) (fun k=>by (repeat intro _);show _=_;kernel_rfl)) (all_cons (an_ codOk (by kernel_rfl) (by (repeat intro _);show _=_;kernel_rfl) (fun k=>by (repeat intro _);show _=_;kernel_rfl)) (aa_)))))
  (fun k=>by (repeat intro _);show _=_;kernel_rfl)
noncomputable def dB_ (k:Nat):aK_ K TyK:=sm cod (Bool) [.bo] [.g [.i .i64, .i .i64, .i .i64, .i .i64, .i .i64, .i .i64, .i .i64, .b, .s]] [] (fun k v1 v2 v3 v4 v5 v6 v7 v8 v9=>a4_ k (⟨v1,v2,v3,v4,v5,v6,v7,v8,v9⟩:ad_)) k [.c (.b)] [] (fun r=>(r,())) (fun v1=>v1) true
theorem ez_ (k:Nat):SummOk Tryz.prog cod 129 (dB_ k):=ar_ codOk Tryz.f129 (fun k=>ap_ [(80,fH_ k)]) [] false [.tmp 2] 0 [] aq_ Tryz.func129 (by kernel_rfl) (by kernel_rfl) (by kernel_rfl) (by kernel_rfl)
  (fun k=>Known.of ct_ cv_ codOk (all_cons (fh_ k) (aa_)))
  (fun k=>QuietOk.of (all_cons (fun h r=>⟨rfl,rfl⟩) (aa_)))
  (fun a=>rfl)
  (aa_)
  (fun k=>by (repeat intro _);show _=_;kernel_rfl)
noncomputable def ug_ (k:Nat):aK_ K TyK:=sm cod (ByteArray) [.bo, .bo] [.c (.i .i64), .c (.i .i64)] [] (gx_) k [.c (.s)] [] (fun r=>(r,())) (fun v1=>v1) true
noncomputable abbrev y4_:List (Nat×Cut K TyK (ByteArray)):=[(3,ct cod [0,5,6] [.c (.i .i64), .c (.o 0), .c (.i .i64)] [.l .byte] go_)]
theorem xL_ (k:Nat):SummOk Tryz.prog cod 130 (ug_ k):=ar_ codOk Tryz.f130 (fun k=>ap_ []) y4_ false [.tmp 4] 0 [] aq_ Tryz.func130 (by kernel_rfl) (by kernel_rfl) (by kernel_rfl) (by kernel_rfl)
  (fun k=>Known.of ct_ cv_ codOk (aa_))
  (fun k=>QuietOk.of (aa_))
  (fun a=>rfl)
  (all_cons (an_ codOk (by kernel_rfl) (by (repeat intro _);show _=_;kernel_rfl) (fun k=>by (repeat intro _);show _=_;kernel_rfl)) (aa_))
  (fun k=>by (repeat intro _);show _=_;kernel_rfl)
noncomputable def sp_ (k:Nat):aK_ K TyK:=sm cod (ByteArray) [.bo, .bo, .bo] [.c (.s), .c (.s), .c (.i .i64)] [] (oV_) k [.c (.s)] [] (fun r=>(r,())) (fun v1=>v1) true
noncomputable abbrev yh_:List (Nat×Cut K TyK (ByteArray)):=[(6,ct cod [2,7,8,9] [.c (.i .i64), .c (.i .u64), .c (.s), .c (.i .i64)] [] fn_),
  (11,ct cod [2,7,10,11] [.c (.i .i64), .c (.i .u64), .c (.z 0 0), .c (.i .i64)] [.l .byte] eD_)]
theorem vA_ (k:Nat):SummOk Tryz.prog cod 131 (sp_ k):=ar_ codOk Tryz.f131 (fun k=>ap_ []) yh_ false [.tmp 6] 0 [] aq_ Tryz.func131 (by kernel_rfl) (by kernel_rfl) (by kernel_rfl) (by kernel_rfl)
  (fun k=>Known.of ct_ cv_ codOk (aa_))
  (fun k=>QuietOk.of (aa_))
  (fun a=>rfl)
  (all_cons (an_ codOk (by kernel_rfl) (by (repeat intro _);show _=_;kernel_rfl) (fun k=>by (repeat intro _);show _=_;kernel_rfl)) (all_cons (an_ codOk (by kernel_rfl) (by (repeat intro _);show _=_;kernel_rfl) (fun k=>by (repeat intro _);show _=_;kernel_rfl)) (aa_)))
  (fun k=>by (repeat intro _);show _=_;kernel_rfl)
noncomputable def fc_ (k:Nat):aK_ K TyK:=sm cod (ByteArray) [.bo, .bo, .bo] [.g [.i .i64, .i .i64, .i .i64, .i .i64, .i .i64, .i .i64, .i .i64, .b, .s], .c (.s), .c (.i .i64)] [] (fun k v1 v2 v3 v4 v5 v6 v7 v8 v9 v10 v11=>c0_ k (⟨v1,v2,v3,v4,v5,v6,v7,v8,v9⟩:ad_) v10 v11) k [.c (.s)] [] (fun r=>(r,())) (fun v1=>v1) true
noncomputable abbrev mL_:List (Nat×Cut K TyK (ByteArray)):=[(10,ct cod [1,2,7] [.c (.s), .c (.i .i64), .c (.s)] [] co_),
  (9,ct cod [1,2,3,7,8] [.c (.s), .c (.i .i64), .c (.r 0 0), .c (.s), .c (.i .i64)] [.x [.i .i64, .i .i64, .i .i64, .i .i64, .i .i64, .i .i64, .i .i64, .b, .s]] cH_)]
theorem he_ (k:Nat):SummOk Tryz.prog cod 83 (fc_ k):=ar_ codOk Tryz.f83 (fun k=>ap_ [(129,dB_ k),(130,ug_ k),(131,sp_ k)]) mL_ false [.tmp 6] 0 [] aq_ Tryz.func83 (by kernel_rfl) (by kernel_rfl) (by kernel_rfl) (by kernel_rfl)
  (fun k=>Known.of ct_ cv_ codOk (all_cons (ez_ k) (all_cons (xL_ k) (all_cons (vA_ k) (aa_)))))
  (fun k=>QuietOk.of (all_cons (fun h r=>⟨rfl,rfl⟩) (all_cons (fun h r=>⟨rfl,rfl⟩) (all_cons (fun h r=>⟨rfl,rfl⟩) (aa_)))))
  (fun a=>rfl)
  (all_cons (an_ codOk (by kernel_rfl) (by (repeat intro _);show _=_;kernel_rfl) (fun k=>by (repeat intro _);show _=_;kernel_rfl)) (all_cons (an_ codOk (by kernel_rfl) (by (repeat intro _);show _=_;kernel_rfl) (fun k=>by (repeat intro _);show _=_;kernel_rfl)) (aa_)))
  (fun k=>by (repeat intro _);show _=_;kernel_rfl)
noncomputable def hq_ (k:Nat):aK_ K TyK:=sm cod (ae_) [.mv] [.c (.r 0 0)] [.x [.s, .i .i64, .w 1, .o 2, .s, .o 3, .o 4], .w .xend, .l .parcel, .l .record, .l .record] (fun k v1 v2 v3 v4 v5 v6 v7=>eV_ k (⟨v1,v2,v4,v5,v3,v6,v7⟩:ae_)) k [] [.x [.s, .i .i64, .w 5, .o 6, .s, .o 7, .o 8], .d, .d, .d, .d, .w .xend, .l .parcel, .l .record, .l .record] (fun r=>(r.Key,r.Width,(),(),r.Forged,(),(),r.Ends,r.Flight,r.Given,r.Taken,())) (fun v1 v2 v3 v4 v5 v6 v7=>(⟨v1,v2,v4,v5,v3,v6,v7⟩:ae_)) false
noncomputable abbrev mU_:List (Nat×Cut K TyK (ae_)):=[(1,ct cod [0,11,12] [.c (.r 0 0), .c (.i .i64), .c (.i .i64)] [.x [.s, .i .i64, .w 5, .o 6, .s, .o 7, .o 8], .d, .d, .d, .d, .w .xend, .l .parcel, .l .record, .l .record] a8_),
  (6,ct cod [0,2,11,12,32,33,34] [.c (.r 0 0), .c (.i .i64), .c (.i .i64), .c (.i .i64), .c (.o 5), .c (.i .i64), .c (.i .i64)] [.x [.s, .i .i64, .w 6, .o 7, .s, .o 8, .o 9], .d, .d, .d, .d, .l .packet, .w .xend, .l .parcel, .l .record, .l .record] bV_),
  (11,ct cod [0,2,11,12,32,33,34] [.c (.r 0 0), .c (.i .i64), .c (.i .i64), .c (.i .i64), .c (.o 5), .c (.i .i64), .c (.i .i64)] [.x [.s, .i .i64, .w 6, .o 7, .s, .o 8, .o 9], .d, .d, .d, .d, .l .packet, .w .xend, .l .parcel, .l .record, .l .record] cr_)]
theorem l2_ (k:Nat):SummOk Tryz.prog cod 36 (hq_ k):=ar_ codOk Tryz.f36 (fun k=>ap_ [(82,j8_ k),(83,fc_ k)]) mU_ false [] 5 [false,true,true,true,true] aq_ Tryz.func36 (by kernel_rfl) (by kernel_rfl) (by kernel_rfl) (by kernel_rfl)
  (fun k=>Known.of ct_ cv_ codOk (all_cons (qS_ k) (all_cons (he_ k) (aa_))))
  (fun k=>QuietOk.of (all_cons (fun h r=>by cases h) (all_cons (fun h r=>⟨rfl,rfl⟩) (aa_))))
  (fun a=>rfl)
  (all_cons (an_ codOk (by kernel_rfl) (by (repeat intro _);show _=_;kernel_rfl) (fun k=>by (repeat intro _);show _=_;kernel_rfl)) (all_cons (an_ codOk (by kernel_rfl) (by (repeat intro _);show _=_;kernel_rfl) (fun k=>by (repeat intro _);show _=_;kernel_rfl)) (all_cons (an_ codOk (by kernel_rfl) (by (repeat intro _);show _=_;kernel_rfl) (fun k=>by (repeat intro _);show _=_;kernel_rfl)) (aa_))))
  (fun k=>by (repeat intro _);show _=_;kernel_rfl)
noncomputable def rZ_ (k:Nat):aK_ K TyK:=sm cod (Int) [.bo] [.c (.s)] [] (jM_) k [.c (.i .i64)] [] (fun r=>(r,())) (fun v1=>v1) true
noncomputable abbrev x4_:List (Nat×Cut K TyK (Int)):=[(3,ct cod [0,3,4] [.c (.s), .c (.i .i64), .c (.i .i64)] [] fd_)]
theorem vK_ (k:Nat):SummOk Tryz.prog cod 132 (rZ_ k):=ar_ codOk Tryz.f132 (fun k=>ap_ []) x4_ false [.tmp 2] 0 [] aq_ Tryz.func132 (by kernel_rfl) (by kernel_rfl) (by kernel_rfl) (by kernel_rfl)
  (fun k=>Known.of ct_ cv_ codOk (aa_))
  (fun k=>QuietOk.of (aa_))
  (fun a=>rfl)
  (all_cons (an_ codOk (by kernel_rfl) (by (repeat intro _);show _=_;kernel_rfl) (fun k=>by (repeat intro _);show _=_;kernel_rfl)) (aa_))
  (fun k=>by (repeat intro _);show _=_;kernel_rfl)
noncomputable def hn_ (k:Nat):aK_ K TyK:=sm cod (ad_×Bool) [.bo, .bo, .bo] [.c (.s), .c (.s), .c (.i .i64)] [] (eM_) k [.g [.i .i64, .i .i64, .i .i64, .i .i64, .i .i64, .i .i64, .i .i64, .b, .s], .c (.b)] [] (fun r=>(r.1.Kind,r.1.From,r.1.Mine,r.1.Yours,r.1.Next,r.1.Mask,r.1.Seq,r.1.Last,r.1.Part,r.2,())) (fun v1 v2 v3 v4 v5 v6 v7 v8 v9 v10=>((⟨v1,v2,v3,v4,v5,v6,v7,v8,v9⟩:ad_),v10)) true
noncomputable abbrev my_:List (Nat×Cut K TyK (ad_×Bool)):=[(10,ct cod [0,1,2,6,9] [.c (.s), .c (.s), .c (.i .i64), .c (.r 0 0), .c (.r 1 0)] [.x [.i .i64, .i .i64, .i .i64, .i .i64, .i .i64, .i .i64, .i .i64, .b, .s], .x [.i .i64, .i .i64, .i .i64, .i .i64, .i .i64, .i .i64, .i .i64, .b, .s]] bi_)]
theorem lu_ (k:Nat):SummOk Tryz.prog cod 84 (hn_ k):=ar_ codOk Tryz.f84 (fun k=>ap_ [(132,rZ_ k),(129,dB_ k),(83,fc_ k)]) my_ false [.cell 6 75, .tmp 7] 0 [] aq_ Tryz.func84 (by kernel_rfl) (by kernel_rfl) (by kernel_rfl) (by kernel_rfl)
  (fun k=>Known.of ct_ cv_ codOk (all_cons (vK_ k) (all_cons (ez_ k) (all_cons (he_ k) (aa_)))))
  (fun k=>QuietOk.of (all_cons (fun h r=>⟨rfl,rfl⟩) (all_cons (fun h r=>⟨rfl,rfl⟩) (all_cons (fun h r=>⟨rfl,rfl⟩) (aa_)))))
  (fun a=>rfl)
  (all_cons (an_ codOk (by kernel_rfl) (by (repeat intro _);show _=_;kernel_rfl) (fun k=>by (repeat intro _);show _=_;kernel_rfl)) (aa_))
  (fun k=>by (repeat intro _);show _=_;kernel_rfl)
noncomputable def jp_ (k:Nat):aK_ K TyK:=sm cod (am_) [.bo, .bo, .bo] [.g [.i .i64, .l true .item], .c (.i .i64), .c (.i .i64)] [] (fun k v1 v2 v3 v4=>gf_ k (⟨v1,v2⟩:am_) v3 v4) k [.g [.i .i64, .o 0]] [.l .item] (fun r=>(r.Base,(),r.Items,())) (fun v1 v2=>(⟨v1,v2⟩:am_)) false
noncomputable abbrev pr_:List (Nat×Cut K TyK (am_)):=[(5,ct cod [1,2,6,7,8] [.c (.i .i64), .c (.i .i64), .c (.r 0 0), .c (.r 1 0), .c (.i .i64)] [.x [.i .i64, .o 2], .x [.i .i64, .o 3], .l .item, .l .item] cF_),
  (12,ct cod [2,6,7,9] [.c (.i .i64), .c (.r 0 0), .c (.r 1 0), .c (.i .i64)] [.x [.i .i64, .o 2], .x [.i .i64, .o 3], .l .item, .l .item] bo_),
  (13,ct cod [2,6,7,9] [.c (.i .i64), .c (.r 0 0), .c (.r 1 0), .c (.i .i64)] [.x [.i .i64, .o 2], .x [.i .i64, .o 3], .l .item, .l .item] cf_)]
theorem ow_ (k:Nat):SummOk Tryz.prog cod 133 (jp_ k):=ar_ codOk Tryz.f133 (fun k=>ap_ [(121,en_ k),(125,eP_ k),(80,fH_ k)]) pr_ false [.cell 6 59] 0 [] aq_ Tryz.func133 (by kernel_rfl) (by kernel_rfl) (by kernel_rfl) (by kernel_rfl)
  (fun k=>Known.of ct_ cv_ codOk (all_cons (fa_ k) (all_cons (fQ_ k) (all_cons (fh_ k) (aa_)))))
  (fun k=>QuietOk.of (all_cons (fun h r=>⟨rfl,rfl⟩) (all_cons (fun h r=>by cases h) (all_cons (fun h r=>⟨rfl,rfl⟩) (aa_)))))
  (fun a=>rfl)
  (all_cons (an_ codOk (by kernel_rfl) (by (repeat intro _);show _=_;kernel_rfl) (fun k=>by (repeat intro _);show _=_;kernel_rfl)) (all_cons (an_ codOk (by kernel_rfl) (by (repeat intro _);show _=_;kernel_rfl) (fun k=>by (repeat intro _);show _=_;kernel_rfl)) (all_cons (an_ codOk (by kernel_rfl) (by (repeat intro _);show _=_;kernel_rfl) (fun k=>by (repeat intro _);show _=_;kernel_rfl)) (aa_))))
  (fun k=>by (repeat intro _);show _=_;kernel_rfl)
noncomputable def k1_ (k:Nat):aK_ K TyK:=sm cod (al_) [.mv] [.g [.i .i64, .o 0, .s, .o 1]] [.l .held, .l .str] (fun k v1 v2 v3 v4=>eT_ k (⟨v1,v3,v2,v4⟩:al_)) k [.g [.i .i64, .o 2, .s, .o 3]] [.d, .d, .l .held, .l .str] (fun r=>(r.Next,(),r.Open,(),r.Held,r.Ready,())) (fun v1 v2 v3 v4=>(⟨v1,v3,v2,v4⟩:al_)) false
noncomputable abbrev v1_:List (Nat×Cut K TyK (al_)):=[(1,ct cod [1,2] [.c (.r 2 0), .c (.r 3 0)] [.d, .d, .x [.i .i64, .o 4, .s, .o 5], .x [.i .i64, .o 6, .s, .o 7], .l .held, .l .str, .l .held, .l .str] eH_)]
theorem nt_ (k:Nat):SummOk Tryz.prog cod 155 (k1_ k):=ar_ codOk Tryz.f155 (fun k=>ap_ [(154,lc_ k)]) v1_ false [.cell 2 63] 2 [true,true] aq_ Tryz.func155 (by kernel_rfl) (by kernel_rfl) (by kernel_rfl) (by kernel_rfl)
  (fun k=>Known.of ct_ cv_ codOk (all_cons (nj_ k) (aa_)))
  (fun k=>QuietOk.of (all_cons (fun h r=>⟨rfl,rfl⟩) (aa_)))
  (fun a=>rfl)
  (all_cons (an_ codOk (by kernel_rfl) (by (repeat intro _);show _=_;kernel_rfl) (fun k=>by (repeat intro _);show _=_;kernel_rfl)) (aa_))
  (fun k=>by (repeat intro _);show _=_;kernel_rfl)
noncomputable def jh_ (k:Nat):aK_ K TyK:=sm cod (al_) [.bo, .bo, .bo] [.g [.i .i64, .l true .held, .s, .l true .str], .c (.i .i64), .g [.s, .b]] [] (fun k v1 v2 v3 v4 v5 v6 v7=>gn_ k (⟨v1,v2,v3,v4⟩:al_) v5 (⟨v6,v7⟩:aA_)) k [.g [.i .i64, .o 0, .s, .o 1]] [.l .held, .l .str] (fun r=>(r.Next,(),r.Open,(),r.Held,r.Ready,())) (fun v1 v2 v3 v4=>(⟨v1,v3,v2,v4⟩:al_)) false
noncomputable abbrev o8_:List (Nat×Cut K TyK (al_)):=[(7,ct cod [1,5,6,7,8] [.c (.i .i64), .c (.r 0 0), .c (.r 1 0), .c (.r 2 0), .c (.i .i64)] [.x [.s, .b], .x [.i .i64, .o 3, .s, .o 4], .x [.i .i64, .o 5, .s, .o 6], .l .held, .l .str, .l .held, .l .str] cG_)]
theorem oa_ (k:Nat):SummOk Tryz.prog cod 134 (jh_ k):=ar_ codOk Tryz.f134 (fun k=>ap_ [(122,dj_ k),(126,e5_ k),(80,fH_ k),(155,k1_ k)]) o8_ false [.cell 6 63] 0 [] aq_ Tryz.func134 (by kernel_rfl) (by kernel_rfl) (by kernel_rfl) (by kernel_rfl)
  (fun k=>Known.of ct_ cv_ codOk (all_cons (dU_ k) (all_cons (fS_ k) (all_cons (fh_ k) (all_cons (nt_ k) (aa_))))))
  (fun k=>QuietOk.of (all_cons (fun h r=>⟨rfl,rfl⟩) (all_cons (fun h r=>by cases h) (all_cons (fun h r=>⟨rfl,rfl⟩) (all_cons (fun h r=>by cases h) (aa_))))))
  (fun a=>rfl)
  (all_cons (an_ codOk (by kernel_rfl) (by (repeat intro _);show _=_;kernel_rfl) (fun k=>by (repeat intro _);show _=_;kernel_rfl)) (aa_))
  (fun k=>by (repeat intro _);show _=_;kernel_rfl)
noncomputable def j9_ (k:Nat):aK_ K TyK:=sm cod (ay_) [.bo, .bo] [.g [.i .i64, .b, .i .i64, .i .i64, .i .i64, .b, .i .i64, .l true .item, .i .i64, .l true .held, .s, .l true .str], .g [.i .i64, .i .i64, .i .i64, .i .i64, .i .i64, .i .i64, .i .i64, .b, .s]] [] (fun k v1 v2 v3 v4 v5 v6 v7 v8 v9 v10 v11 v12 v13 v14 v15 v16 v17 v18 v19 v20 v21=>gQ_ k (⟨v1,v2,v3,v4,v5,v6,(⟨v7,v8⟩:am_),(⟨v9,v10,v11,v12⟩:al_)⟩:ao_) (⟨v13,v14,v15,v16,v17,v18,v19,v20,v21⟩:ad_)) k [.g [.i .i64, .i .i64, .b, .i .i64, .i .i64, .i .i64, .b, .i .i64, .o 0, .i .i64, .o 1, .s, .o 2, .o 3, .s]] [.l .item, .l .held, .l .str, .l .packet] (fun r=>(r.Code,r.End.Number,r.End.Up,r.End.Life,r.End.Peer,r.End.Since,r.End.Owes,r.End.Send.Base,(),r.End.Take.Next,(),r.End.Take.Open,(),(),r.Text,r.End.Send.Items,r.End.Take.Held,r.End.Take.Ready,r.Out,())) (fun v1 v2 v3 v4 v5 v6 v7 v8 v9 v10 v11 v12 v13 v14 v15=>(⟨v1,(⟨v2,v3,v4,v5,v6,v7,(⟨v8,v12⟩:am_),(⟨v9,v13,v10,v14⟩:al_)⟩:ao_),v15,v11⟩:ay_)) false
noncomputable abbrev rn_:List (Nat×Cut K TyK (ay_)):=[(9,ct cod [3,4,5,6] [.c (.r 0 0), .c (.r 1 0), .c (.r 2 0), .c (.r 2 1)] [.x [.i .i64, .i .i64, .i .i64, .i .i64, .i .i64, .i .i64, .i .i64, .b, .s], .x [.i .i64, .i .i64, .b, .i .i64, .i .i64, .i .i64, .b, .i .i64, .o 3, .i .i64, .o 4, .s, .o 5, .o 6, .s], .x [.i .i64, .i .i64, .b, .i .i64, .i .i64, .i .i64, .b, .i .i64, .o 7, .i .i64, .o 8, .s, .o 9, .o 10, .s], .l .item, .l .held, .l .str, .l .packet, .l .item, .l .held, .l .str, .l .packet] dO_),
  (16,ct cod [4,5] [.c (.r 0 0), .c (.r 1 0)] [.x [.i .i64, .i .i64, .b, .i .i64, .i .i64, .i .i64, .b, .i .i64, .o 2, .i .i64, .o 3, .s, .o 4, .o 5, .s], .x [.i .i64, .i .i64, .b, .i .i64, .i .i64, .i .i64, .b, .i .i64, .o 6, .i .i64, .o 7, .s, .o 8, .o 9, .s], .l .item, .l .held, .l .str, .l .packet, .l .item, .l .held, .l .str, .l .packet] df_)]
theorem ql_ (k:Nat):SummOk Tryz.prog cod 85 (j9_ k):=ar_ codOk Tryz.f85 (fun k=>ap_ [(79,dM_ k),(81,d8_ k),(129,dB_ k),(133,jp_ k),(134,jh_ k)]) rn_ false [.cell 4 84] 0 [] aq_ Tryz.func85 (by kernel_rfl) (by kernel_rfl) (by kernel_rfl) (by kernel_rfl)
  (fun k=>Known.of ct_ cv_ codOk (all_cons (eo_ k) (all_cons (eZ_ k) (all_cons (ez_ k) (all_cons (ow_ k) (all_cons (oa_ k) (aa_)))))))
  (fun k=>QuietOk.of (all_cons (fun h r=>⟨rfl,rfl⟩) (all_cons (fun h r=>by cases h) (all_cons (fun h r=>⟨rfl,rfl⟩) (all_cons (fun h r=>by cases h) (all_cons (fun h r=>by cases h) (aa_)))))))
  (fun a=>rfl)
  (all_cons (an_ codOk (by kernel_rfl) (by (repeat intro _);show _=_;kernel_rfl) (fun k=>by (repeat intro _);show _=_;kernel_rfl)) (all_cons (an_ codOk (by kernel_rfl) (by (repeat intro _);show _=_;kernel_rfl) (fun k=>by (repeat intro _);show _=_;kernel_rfl)) (aa_)))
  (fun k=>by (repeat intro _);show _=_;kernel_rfl)
noncomputable def gL_ (k:Nat):aK_ K TyK:=sm cod (ae_) [.mv, .mv] [.c (.r 0 0), .g [.i .i64, .s, .s]] [.x [.s, .i .i64, .w 1, .o 2, .s, .o 3, .o 4], .w .xend, .l .parcel, .l .record, .l .record] (fun k v1 v2 v3 v4 v5 v6 v7 v8 v9 v10=>dc_ k (⟨v4,v5,v7,v8,v6,v9,v10⟩:ae_) (⟨v1,v2,v3⟩:ac_)) k [] [.x [.s, .i .i64, .w 5, .o 6, .s, .o 7, .o 8], .d, .d, .d, .d, .w .xend, .l .parcel, .l .record, .l .record] (fun r=>(r.Key,r.Width,(),(),r.Forged,(),(),r.Ends,r.Flight,r.Given,r.Taken,())) (fun v1 v2 v3 v4 v5 v6 v7=>(⟨v1,v2,v4,v5,v3,v6,v7⟩:ae_)) false
noncomputable abbrev mj_:List (Nat×Cut K TyK (ae_)):=[(5,ct cod [0,3,4] [.c (.r 0 0), .c (.r 5 0), .c (.r 6 0)] [.x [.s, .i .i64, .w 7, .o 8, .s, .o 9, .o 10], .d, .d, .d, .d, .x [.i .i64, .s, .s], .x [.i .i64, .i .i64, .i .i64, .i .i64, .i .i64, .i .i64, .i .i64, .b, .s], .w .xend, .l .parcel, .l .record, .l .record] bJ_)]
theorem k7_ (k:Nat):SummOk Tryz.prog cod 37 (gL_ k):=ar_ codOk Tryz.f37 (fun k=>ap_ [(84,hn_ k),(85,j9_ k)]) mj_ false [] 5 [false,true,true,true,true] aq_ Tryz.func37 (by kernel_rfl) (by kernel_rfl) (by kernel_rfl) (by kernel_rfl)
  (fun k=>Known.of ct_ cv_ codOk (all_cons (lu_ k) (all_cons (ql_ k) (aa_))))
  (fun k=>QuietOk.of (all_cons (fun h r=>⟨rfl,rfl⟩) (all_cons (fun h r=>by cases h) (aa_))))
  (fun a=>rfl)
  (all_cons (an_ codOk (by kernel_rfl) (by (repeat intro _);show _=_;kernel_rfl) (fun k=>by (repeat intro _);show _=_;kernel_rfl)) (aa_))
  (fun k=>by (repeat intro _);show _=_;kernel_rfl)
noncomputable def hG_ (k:Nat):aK_ K TyK:=sm cod (Bool×ae_) [.mv] [.c (.r 0 0)] [.x [.s, .i .i64, .w 1, .o 2, .s, .o 3, .o 4], .w .xend, .l .parcel, .l .record, .l .record] (fun k v1 v2 v3 v4 v5 v6 v7=>gr_ k (⟨v1,v2,v4,v5,v3,v6,v7⟩:ae_)) k [.c (.b)] [.x [.s, .i .i64, .w 5, .o 6, .s, .o 7, .o 8], .d, .d, .d, .d, .w .xend, .l .parcel, .l .record, .l .record] (fun r=>(r.1,r.2.Key,r.2.Width,(),(),r.2.Forged,(),(),r.2.Ends,r.2.Flight,r.2.Given,r.2.Taken,())) (fun v1 v2 v3 v4 v5 v6 v7 v8=>(v1,(⟨v2,v3,v5,v6,v4,v7,v8⟩:ae_))) false
theorem lY_ (k:Nat):SummOk Tryz.prog cod 40 (hG_ k):=ar_ codOk Tryz.f40 (fun k=>ap_ []) [] false [.tmp 2] 5 [false,true,true,true,true] aq_ Tryz.func40 (by kernel_rfl) (by kernel_rfl) (by kernel_rfl) (by kernel_rfl)
  (fun k=>Known.of ct_ cv_ codOk (aa_))
  (fun k=>QuietOk.of (aa_))
  (fun a=>rfl)
  (aa_)
  (fun k=>by (repeat intro _);show _=_;kernel_rfl)
noncomputable def i2_ (k:Nat):aK_ K TyK:=sm cod (al_×ByteArray×Bool) [.bo] [.g [.i .i64, .l true .held, .s, .l true .str]] [] (fun k v1 v2 v3 v4=>gj_ k (⟨v1,v2,v3,v4⟩:al_)) k [.g [.i .i64, .o 0, .s, .o 1], .c (.s), .c (.b)] [.l .held, .l .str] (fun r=>(r.1.Next,(),r.1.Open,(),r.2.1,r.2.2,r.1.Held,r.1.Ready,())) (fun v1 v2 v3 v4 v5 v6=>((⟨v1,v5,v2,v6⟩:al_),v3,v4)) false
theorem n9_ (k:Nat):SummOk Tryz.prog cod 136 (i2_ k):=ar_ codOk Tryz.f136 (fun k=>ap_ [(122,dj_ k),(126,e5_ k),(155,k1_ k)]) [] false [.cell 2 63, .tmp 3, .tmp 4] 0 [] aq_ Tryz.func136 (by kernel_rfl) (by kernel_rfl) (by kernel_rfl) (by kernel_rfl)
  (fun k=>Known.of ct_ cv_ codOk (all_cons (dU_ k) (all_cons (fS_ k) (all_cons (nt_ k) (aa_)))))
  (fun k=>QuietOk.of (all_cons (fun h r=>⟨rfl,rfl⟩) (all_cons (fun h r=>by cases h) (all_cons (fun h r=>by cases h) (aa_)))))
  (fun a=>rfl)
  (aa_)
  (fun k=>by (repeat intro _);show _=_;kernel_rfl)
noncomputable def kf_ (k:Nat):aK_ K TyK:=sm cod (ay_) [.bo] [.g [.i .i64, .b, .i .i64, .i .i64, .i .i64, .b, .i .i64, .l true .item, .i .i64, .l true .held, .s, .l true .str]] [] (fun k v1 v2 v3 v4 v5 v6 v7 v8 v9 v10 v11 v12=>g4_ k (⟨v1,v2,v3,v4,v5,v6,(⟨v7,v8⟩:am_),(⟨v9,v10,v11,v12⟩:al_)⟩:ao_)) k [.g [.i .i64, .i .i64, .b, .i .i64, .i .i64, .i .i64, .b, .i .i64, .o 0, .i .i64, .o 1, .s, .o 2, .o 3, .s]] [.l .item, .l .held, .l .str, .l .packet] (fun r=>(r.Code,r.End.Number,r.End.Up,r.End.Life,r.End.Peer,r.End.Since,r.End.Owes,r.End.Send.Base,(),r.End.Take.Next,(),r.End.Take.Open,(),(),r.Text,r.End.Send.Items,r.End.Take.Held,r.End.Take.Ready,r.Out,())) (fun v1 v2 v3 v4 v5 v6 v7 v8 v9 v10 v11 v12 v13 v14 v15=>(⟨v1,(⟨v2,v3,v4,v5,v6,v7,(⟨v8,v12⟩:am_),(⟨v9,v13,v10,v14⟩:al_)⟩:ao_),v15,v11⟩:ay_)) false
theorem pG_ (k:Nat):SummOk Tryz.prog cod 87 (kf_ k):=ar_ codOk Tryz.f87 (fun k=>ap_ [(79,dM_ k),(136,i2_ k),(81,d8_ k)]) [] false [.cell 2 84] 0 [] aq_ Tryz.func87 (by kernel_rfl) (by kernel_rfl) (by kernel_rfl) (by kernel_rfl)
  (fun k=>Known.of ct_ cv_ codOk (all_cons (eo_ k) (all_cons (n9_ k) (all_cons (eZ_ k) (aa_)))))
  (fun k=>QuietOk.of (all_cons (fun h r=>⟨rfl,rfl⟩) (all_cons (fun h r=>by cases h) (all_cons (fun h r=>by cases h) (aa_)))))
  (fun a=>rfl)
  (aa_)
  (fun k=>by (repeat intro _);show _=_;kernel_rfl)
noncomputable def hz_ (k:Nat):aK_ K TyK:=sm cod (ae_) [.mv, .mv] [.c (.r 0 0), .c (.i .i64)] [.x [.s, .i .i64, .w 1, .o 2, .s, .o 3, .o 4], .w .xend, .l .parcel, .l .record, .l .record] (fun k v1 v2 v3 v4 v5 v6 v7 v8=>eL_ k (⟨v2,v3,v5,v6,v4,v7,v8⟩:ae_) v1) k [] [.x [.s, .i .i64, .w 5, .o 6, .s, .o 7, .o 8], .d, .d, .d, .d, .w .xend, .l .parcel, .l .record, .l .record] (fun r=>(r.Key,r.Width,(),(),r.Forged,(),(),r.Ends,r.Flight,r.Given,r.Taken,())) (fun v1 v2 v3 v4 v5 v6 v7=>(⟨v1,v2,v4,v5,v3,v6,v7⟩:ae_)) false
theorem mo_ (k:Nat):SummOk Tryz.prog cod 42 (hz_ k):=ar_ codOk Tryz.f42 (fun k=>ap_ [(40,hG_ k),(87,kf_ k)]) [] false [] 5 [false,true,true,true,true] aq_ Tryz.func42 (by kernel_rfl) (by kernel_rfl) (by kernel_rfl) (by kernel_rfl)
  (fun k=>Known.of ct_ cv_ codOk (all_cons (lY_ k) (all_cons (pG_ k) (aa_))))
  (fun k=>QuietOk.of (all_cons (fun h r=>by cases h) (all_cons (fun h r=>by cases h) (aa_))))
  (fun a=>rfl)
  (aa_)
  (fun k=>by (repeat intro _);show _=_;kernel_rfl)
noncomputable def dh_ (k:Nat):aK_ K TyK:=sm cod (Bool) [.bo] [.g [.i .i64, .l true .item]] [] (fun k v1 v2=>br_ k (⟨v1,v2⟩:am_)) k [.c (.b)] [] (fun r=>(r,())) (fun v1=>v1) true
noncomputable abbrev oq_:List (Nat×Cut K TyK (Bool)):=[(4,ct cod [1,3] [.c (.r 0 0), .c (.i .i64)] [.x [.i .i64, .l true .item]] aL_)]
theorem dW_ (k:Nat):SummOk Tryz.prog cod 92 (dh_ k):=ar_ codOk Tryz.f92 (fun k=>ap_ [(28,bC_ k)]) oq_ false [.tmp 2] 0 [] aq_ Tryz.func92 (by kernel_rfl) (by kernel_rfl) (by kernel_rfl) (by kernel_rfl)
  (fun k=>Known.of tok eok codOk (all_cons (bu_ k) (aa_)))
  (fun k=>QuietOk.of (all_cons (fun h r=>⟨rfl,rfl⟩) (aa_)))
  (fun a=>rfl)
  (all_cons (an_ codOk (by kernel_rfl) (by (repeat intro _);show _=_;kernel_rfl) (fun k=>by (repeat intro _);show _=_;kernel_rfl)) (aa_))
  (fun k=>by (repeat intro _);show _=_;kernel_rfl)
noncomputable def ig_ (k:Nat):aK_ K TyK:=sm cod (Bool) [.bo, .bo] [.g [.i .i64, .l true .held, .s, .l true .str], .c (.i .i64)] [] (fun k v1 v2 v3 v4 v5=>gB_ k (⟨v1,v2,v3,v4⟩:al_) v5) k [.c (.b)] [] (fun r=>(r,())) (fun v1=>v1) true
theorem j6_ (k:Nat):SummOk Tryz.prog cod 139 (ig_ k):=ar_ codOk Tryz.f139 (fun k=>ap_ [(28,bC_ k)]) [] false [.tmp 4] 0 [] aq_ Tryz.func139 (by kernel_rfl) (by kernel_rfl) (by kernel_rfl) (by kernel_rfl)
  (fun k=>Known.of tok eok codOk (all_cons (bu_ k) (aa_)))
  (fun k=>QuietOk.of (all_cons (fun h r=>⟨rfl,rfl⟩) (aa_)))
  (fun a=>rfl)
  (aa_)
  (fun k=>by (repeat intro _);show _=_;kernel_rfl)
noncomputable def jj_ (k:Nat):aK_ K TyK:=sm cod (Bool) [.bo, .bo] [.g [.i .i64, .l true .held, .s, .l true .str], .g [.s, .b]] [] (fun k v1 v2 v3 v4 v5 v6=>eG_ k (⟨v1,v2,v3,v4⟩:al_) (⟨v5,v6⟩:aA_)) k [.c (.b)] [] (fun r=>(r,())) (fun v1=>v1) true
theorem mv_ (k:Nat):SummOk Tryz.prog cod 140 (jj_ k):=ar_ codOk Tryz.f140 (fun k=>ap_ []) [] false [.tmp 4] 0 [] aq_ Tryz.func140 (by kernel_rfl) (by kernel_rfl) (by kernel_rfl) (by kernel_rfl)
  (fun k=>Known.of tok eok codOk (aa_))
  (fun k=>QuietOk.of (aa_))
  (fun a=>rfl)
  (aa_)
  (fun k=>by (repeat intro _);show _=_;kernel_rfl)
noncomputable def dk_ (k:Nat):aK_ K TyK:=sm cod (Bool) [.bo] [.g [.i .i64, .l true .held, .s, .l true .str]] [] (fun k v1 v2 v3 v4=>cK_ k (⟨v1,v2,v3,v4⟩:al_)) k [.c (.b)] [] (fun r=>(r,())) (fun v1=>v1) true
noncomputable abbrev oE_:List (Nat×Cut K TyK (Bool)):=[(4,ct cod [1,3] [.c (.r 0 0), .c (.i .i64)] [.x [.i .i64, .l true .held, .s, .l true .str]] cc_),
  (9,ct cod [1,4] [.c (.r 0 0), .c (.i .i64)] [.x [.i .i64, .l true .held, .s, .l true .str]] aM_)]
theorem dY_ (k:Nat):SummOk Tryz.prog cod 93 (dk_ k):=ar_ codOk Tryz.f93 (fun k=>ap_ [(28,bC_ k),(139,ig_ k),(140,jj_ k)]) oE_ false [.tmp 2] 0 [] aq_ Tryz.func93 (by kernel_rfl) (by kernel_rfl) (by kernel_rfl) (by kernel_rfl)
  (fun k=>Known.of tok eok codOk (all_cons (bu_ k) (all_cons (j6_ k) (all_cons (mv_ k) (aa_)))))
  (fun k=>QuietOk.of (all_cons (fun h r=>⟨rfl,rfl⟩) (all_cons (fun h r=>⟨rfl,rfl⟩) (all_cons (fun h r=>⟨rfl,rfl⟩) (aa_)))))
  (fun a=>rfl)
  (all_cons (an_ codOk (by kernel_rfl) (by (repeat intro _);show _=_;kernel_rfl) (fun k=>by (repeat intro _);show _=_;kernel_rfl)) (all_cons (an_ codOk (by kernel_rfl) (by (repeat intro _);show _=_;kernel_rfl) (fun k=>by (repeat intro _);show _=_;kernel_rfl)) (aa_)))
  (fun k=>by (repeat intro _);show _=_;kernel_rfl)
noncomputable def iP_ (k:Nat):aK_ K TyK:=sm cod (Bool) [.bo] [.g [.i .i64, .l true .item]] [] (fun k v1 v2=>gm_ k (⟨v1,v2⟩:am_)) k [.c (.b)] [] (fun r=>(r,())) (fun v1=>v1) true
theorem n1_ (k:Nat):SummOk Tryz.prog cod 94 (iP_ k):=ar_ codOk Tryz.f94 (fun k=>ap_ []) [] false [.tmp 2] 0 [] aq_ Tryz.func94 (by kernel_rfl) (by kernel_rfl) (by kernel_rfl) (by kernel_rfl)
  (fun k=>Known.of tok eok codOk (aa_))
  (fun k=>QuietOk.of (aa_))
  (fun a=>rfl)
  (aa_)
  (fun k=>by (repeat intro _);show _=_;kernel_rfl)
noncomputable def jc_ (k:Nat):aK_ K TyK:=sm cod (Bool) [.bo] [.g [.i .i64, .l true .held, .s, .l true .str]] [] (fun k v1 v2 v3 v4=>f8_ k (⟨v1,v2,v3,v4⟩:al_)) k [.c (.b)] [] (fun r=>(r,())) (fun v1=>v1) true
theorem nZ_ (k:Nat):SummOk Tryz.prog cod 95 (jc_ k):=ar_ codOk Tryz.f95 (fun k=>ap_ []) [] false [.tmp 2] 0 [] aq_ Tryz.func95 (by kernel_rfl) (by kernel_rfl) (by kernel_rfl) (by kernel_rfl)
  (fun k=>Known.of tok eok codOk (aa_))
  (fun k=>QuietOk.of (aa_))
  (fun a=>rfl)
  (aa_)
  (fun k=>by (repeat intro _);show _=_;kernel_rfl)
noncomputable def bP_ (k:Nat):aK_ K TyK:=sm cod (Bool) [.bo] [.g [.i .i64, .b, .i .i64, .i .i64, .i .i64, .b, .i .i64, .l true .item, .i .i64, .l true .held, .s, .l true .str]] [] (fun k v1 v2 v3 v4 v5 v6 v7 v8 v9 v10 v11 v12=>bO_ k (⟨v1,v2,v3,v4,v5,v6,(⟨v7,v8⟩:am_),(⟨v9,v10,v11,v12⟩:al_)⟩:ao_)) k [.c (.b)] [] (fun r=>(r,())) (fun v1=>v1) true
theorem b5_ (k:Nat):SummOk Tryz.prog cod 47 (bP_ k):=ar_ codOk Tryz.f47 (fun k=>ap_ [(28,bC_ k),(92,dh_ k),(93,dk_ k),(94,iP_ k),(95,jc_ k)]) [] false [.tmp 2] 0 [] aq_ Tryz.func47 (by kernel_rfl) (by kernel_rfl) (by kernel_rfl) (by kernel_rfl)
  (fun k=>Known.of tok eok codOk (all_cons (bu_ k) (all_cons (dW_ k) (all_cons (dY_ k) (all_cons (n1_ k) (all_cons (nZ_ k) (aa_)))))))
  (fun k=>QuietOk.of (all_cons (fun h r=>⟨rfl,rfl⟩) (all_cons (fun h r=>⟨rfl,rfl⟩) (all_cons (fun h r=>⟨rfl,rfl⟩) (all_cons (fun h r=>⟨rfl,rfl⟩) (all_cons (fun h r=>⟨rfl,rfl⟩) (aa_)))))))
  (fun a=>rfl)
  (aa_)
  (fun k=>by (repeat intro _);show _=_;kernel_rfl)
noncomputable def gP_ (k:Nat):aK_ K TyK:=sm cod (Bool) [.bo] [.c (.l true .record)] [] (eu_) k [.c (.b)] [] (fun r=>(r,())) (fun v1=>v1) true
noncomputable abbrev lB_:List (Nat×Cut K TyK (Bool)):=[(2,ct cod [0,3] [.c (.l true .record), .c (.i .i64)] [] bF_)]
theorem k9_ (k:Nat):SummOk Tryz.prog cod 48 (gP_ k):=ar_ codOk Tryz.f48 (fun k=>ap_ [(28,bC_ k)]) lB_ false [.tmp 2] 0 [] aq_ Tryz.func48 (by kernel_rfl) (by kernel_rfl) (by kernel_rfl) (by kernel_rfl)
  (fun k=>Known.of tok eok codOk (all_cons (bu_ k) (aa_)))
  (fun k=>QuietOk.of (all_cons (fun h r=>⟨rfl,rfl⟩) (aa_)))
  (fun a=>rfl)
  (all_cons (an_ codOk (by kernel_rfl) (by (repeat intro _);show _=_;kernel_rfl) (fun k=>by (repeat intro _);show _=_;kernel_rfl)) (aa_))
  (fun k=>by (repeat intro _);show _=_;kernel_rfl)
noncomputable def hH_ (k:Nat):aK_ K TyK:=sm cod (Bool) [.bo] [.g [.s, .i .i64, .l true .end, .l true .parcel, .s, .l true .record, .l true .record]] [] (fun k v1 v2 v3 v4 v5 v6 v7=>eO_ k (⟨v1,v2,v3,v4,v5,v6,v7⟩:ae_)) k [.c (.b)] [] (fun r=>(r,())) (fun v1=>v1) true
noncomputable abbrev mO_:List (Nat×Cut K TyK (Bool)):=[(4,ct cod [1,3] [.c (.r 0 0), .c (.i .i64)] [.x [.s, .i .i64, .l true .end, .l true .parcel, .s, .l true .record, .l true .record]] bU_),
  (9,ct cod [1,4] [.c (.r 0 0), .c (.i .i64)] [.x [.s, .i .i64, .l true .end, .l true .parcel, .s, .l true .record, .l true .record]] bW_)]
theorem mc_ (k:Nat):SummOk Tryz.prog cod 14 (hH_ k):=ar_ codOk Tryz.f14 (fun k=>ap_ [(28,bC_ k),(47,bP_ k),(48,gP_ k)]) mO_ false [.tmp 2] 0 [] aq_ Tryz.func14 (by kernel_rfl) (by kernel_rfl) (by kernel_rfl) (by kernel_rfl)
  (fun k=>Known.of tok eok codOk (all_cons (bu_ k) (all_cons (b5_ k) (all_cons (k9_ k) (aa_)))))
  (fun k=>QuietOk.of (all_cons (fun h r=>⟨rfl,rfl⟩) (all_cons (fun h r=>⟨rfl,rfl⟩) (all_cons (fun h r=>⟨rfl,rfl⟩) (aa_)))))
  (fun a=>rfl)
  (all_cons (an_ codOk (by kernel_rfl) (by (repeat intro _);show _=_;kernel_rfl) (fun k=>by (repeat intro _);show _=_;kernel_rfl)) (all_cons (an_ codOk (by kernel_rfl) (by (repeat intro _);show _=_;kernel_rfl) (fun k=>by (repeat intro _);show _=_;kernel_rfl)) (aa_)))
  (fun k=>by (repeat intro _);show _=_;kernel_rfl)
noncomputable def eQ_ (k:Nat):aK_ K TyK:=sm cod (am_) [.bo] [.g [.i .i64, .l true .item]] [] (fun k v1 v2=>eC_ k (⟨v1,v2⟩:am_)) k [.g [.i .i64, .o 0]] [.l .item] (fun r=>(r.Base,(),r.Items,())) (fun v1 v2=>(⟨v1,v2⟩:am_)) false
theorem fw_ (k:Nat):SummOk Tryz.prog cod 137 (eQ_ k):=ar_ codOk Tryz.f137 (fun k=>ap_ []) [] false [.cell 2 59] 0 [] aq_ Tryz.func137 (by kernel_rfl) (by kernel_rfl) (by kernel_rfl) (by kernel_rfl)
  (fun k=>Known.of tok eok codOk (aa_))
  (fun k=>QuietOk.of (aa_))
  (fun a=>rfl)
  (aa_)
  (fun k=>by (repeat intro _);show _=_;kernel_rfl)
noncomputable def f4_ (k:Nat):aK_ K TyK:=sm cod (al_) [.bo] [.g [.i .i64, .l true .held, .s, .l true .str]] [] (fun k v1 v2 v3 v4=>fk_ k (⟨v1,v2,v3,v4⟩:al_)) k [.g [.i .i64, .o 0, .s, .o 1]] [.l .held, .l .str] (fun r=>(r.Next,(),r.Open,(),r.Held,r.Ready,())) (fun v1 v2 v3 v4=>(⟨v1,v3,v2,v4⟩:al_)) false
theorem hk_ (k:Nat):SummOk Tryz.prog cod 138 (f4_ k):=ar_ codOk Tryz.f138 (fun k=>ap_ []) [] false [.cell 2 63] 0 [] aq_ Tryz.func138 (by kernel_rfl) (by kernel_rfl) (by kernel_rfl) (by kernel_rfl)
  (fun k=>Known.of tok eok codOk (aa_))
  (fun k=>QuietOk.of (aa_))
  (fun a=>rfl)
  (aa_)
  (fun k=>by (repeat intro _);show _=_;kernel_rfl)
noncomputable def c6_ (k:Nat):aK_ K TyK:=sm cod (ao_) [.bo] [.g [.i .i64, .b, .i .i64, .i .i64, .i .i64, .b, .i .i64, .l true .item, .i .i64, .l true .held, .s, .l true .str]] [] (fun k v1 v2 v3 v4 v5 v6 v7 v8 v9 v10 v11 v12=>cJ_ k (⟨v1,v2,v3,v4,v5,v6,(⟨v7,v8⟩:am_),(⟨v9,v10,v11,v12⟩:al_)⟩:ao_)) k [.g [.i .i64, .b, .i .i64, .i .i64, .i .i64, .b, .i .i64, .o 0, .i .i64, .o 1, .s, .o 2]] [.l .item, .l .held, .l .str] (fun r=>(r.Number,r.Up,r.Life,r.Peer,r.Since,r.Owes,r.Send.Base,(),r.Take.Next,(),r.Take.Open,(),r.Send.Items,r.Take.Held,r.Take.Ready,())) (fun v1 v2 v3 v4 v5 v6 v7 v8 v9 v10 v11 v12=>(⟨v1,v2,v3,v4,v5,v6,(⟨v7,v10⟩:am_),(⟨v8,v11,v9,v12⟩:al_)⟩:ao_)) false
theorem ds_ (k:Nat):SummOk Tryz.prog cod 88 (c6_ k):=ar_ codOk Tryz.f88 (fun k=>ap_ [(137,eQ_ k),(138,f4_ k)]) [] false [.cell 2 65] 0 [] aq_ Tryz.func88 (by kernel_rfl) (by kernel_rfl) (by kernel_rfl) (by kernel_rfl)
  (fun k=>Known.of tok eok codOk (all_cons (fw_ k) (all_cons (hk_ k) (aa_))))
  (fun k=>QuietOk.of (all_cons (fun h r=>by cases h) (all_cons (fun h r=>by cases h) (aa_))))
  (fun a=>rfl)
  (aa_)
  (fun k=>by (repeat intro _);show _=_;kernel_rfl)
noncomputable def lo_ (k:Nat):aK_ K TyK:=sm cod (ae_) [.bo] [.g [.s, .i .i64, .l true .end, .l true .parcel, .s, .l true .record, .l true .record]] [] (fun k v1 v2 v3 v4 v5 v6 v7=>ey_ k (⟨v1,v2,v3,v4,v5,v6,v7⟩:ae_)) k [.g [.s, .i .i64, .o 0, .o 1, .s, .o 2, .o 3]] [.l .end, .l .parcel, .l .record, .l .record] (fun r=>(r.Key,r.Width,(),(),r.Forged,(),(),r.Ends,r.Flight,r.Given,r.Taken,())) (fun v1 v2 v3 v4 v5 v6 v7=>(⟨v1,v2,v4,v5,v3,v6,v7⟩:ae_)) false
noncomputable abbrev ti_:List (Nat×Cut K TyK (ae_)):=[(4,ct cod [1,2,3,4] [.c (.r 0 0), .c (.r 1 0), .c (.r 2 0), .c (.i .i64)] [.x [.s, .i .i64, .l true .end, .l true .parcel, .s, .l true .record, .l true .record], .x [.s, .i .i64, .o 3, .o 4, .s, .o 5, .o 6], .x [.s, .i .i64, .o 7, .l true .parcel, .s, .l true .record, .l true .record], .l .end, .l .parcel, .l .record, .l .record, .l .end] dv_)]
theorem rd_ (k:Nat):SummOk Tryz.prog cod 43 (lo_ k):=ar_ codOk Tryz.f43 (fun k=>ap_ [(88,c6_ k)]) ti_ false [.cell 2 29] 0 [] aq_ Tryz.func43 (by kernel_rfl) (by kernel_rfl) (by kernel_rfl) (by kernel_rfl)
  (fun k=>Known.of tok eok codOk (all_cons (ds_ k) (aa_)))
  (fun k=>QuietOk.of (all_cons (fun h r=>by cases h) (aa_)))
  (fun a=>rfl)
  (all_cons (an_ codOk (by kernel_rfl) (by (repeat intro _);show _=_;kernel_rfl) (fun k=>by (repeat intro _);show _=_;kernel_rfl)) (aa_))
  (fun k=>by (repeat intro _);show _=_;kernel_rfl)
noncomputable def jq_ (k:Nat):aK_ K TyK:=sm cod (am_×List Int) [.bo] [.g [.i .i64, .l true .item]] [] (fun k v1 v2=>f3_ k (⟨v1,v2⟩:am_)) k [.g [.i .i64, .o 0], .c (.o 1)] [.l .item, .l .int] (fun r=>(r.1.Base,(),(),r.1.Items,r.2,())) (fun v1 v2 v3=>((⟨v1,v2⟩:am_),v3)) false
noncomputable abbrev ps_:List (Nat×Cut K TyK (am_×List Int)):=[(6,ct cod [1,2,4,5,6] [.c (.r 0 0), .c (.r 1 0), .c (.o 2), .c (.r 3 0), .c (.i .i64)] [.x [.i .i64, .l true .item], .x [.i .i64, .o 4], .l .int, .x [.i .i64, .o 5], .l .item, .l .item] cA_),
  (7,ct cod [1,2,4,5,6] [.c (.r 0 0), .c (.r 1 0), .c (.o 2), .c (.r 3 0), .c (.i .i64)] [.x [.i .i64, .l true .item], .x [.i .i64, .o 4], .l .int, .x [.i .i64, .o 5], .l .item, .l .item] b4_)]
theorem oD_ (k:Nat):SummOk Tryz.prog cod 143 (jq_ k):=ar_ codOk Tryz.f143 (fun k=>ap_ [(92,dh_ k),(137,eQ_ k)]) ps_ false [.cell 2 59, .tmp 3] 0 [] aq_ Tryz.func143 (by kernel_rfl) (by kernel_rfl) (by kernel_rfl) (by kernel_rfl)
  (fun k=>Known.of tok eok codOk (all_cons (dW_ k) (all_cons (fw_ k) (aa_))))
  (fun k=>QuietOk.of (all_cons (fun h r=>⟨rfl,rfl⟩) (all_cons (fun h r=>by cases h) (aa_))))
  (fun a=>rfl)
  (all_cons (an_ codOk (by kernel_rfl) (by (repeat intro _);show _=_;kernel_rfl) (fun k=>by (repeat intro _);show _=_;kernel_rfl)) (all_cons (an_ codOk (by kernel_rfl) (by (repeat intro _);show _=_;kernel_rfl) (fun k=>by (repeat intro _);show _=_;kernel_rfl)) (aa_)))
  (fun k=>by (repeat intro _);show _=_;kernel_rfl)
noncomputable def i6_ (k:Nat):aK_ K TyK:=sm cod (Int×Int) [.bo] [.g [.i .i64, .l true .held, .s, .l true .str]] [] (fun k v1 v2 v3 v4=>d0_ k (⟨v1,v2,v3,v4⟩:al_)) k [.c (.i .i64), .c (.i .i64)] [] (fun r=>(r.1,r.2,())) (fun v1 v2=>(v1,v2)) true
noncomputable abbrev qh_:List (Nat×Cut K TyK (Int×Int)):=[(5,ct cod [1,4,5] [.c (.r 0 0), .c (.i .i64), .c (.i .i64)] [.x [.i .i64, .l true .held, .s, .l true .str]] b1_),
  (9,ct cod [1,4,5,6,7] [.c (.r 0 0), .c (.i .i64), .c (.i .i64), .c (.i .i64), .c (.i .i64)] [.x [.i .i64, .l true .held, .s, .l true .str]] cD_)]
theorem on_ (k:Nat):SummOk Tryz.prog cod 144 (i6_ k):=ar_ codOk Tryz.f144 (fun k=>ap_ [(93,dk_ k)]) qh_ false [.tmp 2, .tmp 3] 0 [] aq_ Tryz.func144 (by kernel_rfl) (by kernel_rfl) (by kernel_rfl) (by kernel_rfl)
  (fun k=>Known.of tok eok codOk (all_cons (dY_ k) (aa_)))
  (fun k=>QuietOk.of (all_cons (fun h r=>⟨rfl,rfl⟩) (aa_)))
  (fun a=>rfl)
  (all_cons (an_ codOk (by kernel_rfl) (by (repeat intro _);show _=_;kernel_rfl) (fun k=>by (repeat intro _);show _=_;kernel_rfl)) (all_cons (an_ codOk (by kernel_rfl) (by (repeat intro _);show _=_;kernel_rfl) (fun k=>by (repeat intro _);show _=_;kernel_rfl)) (aa_)))
  (fun k=>by (repeat intro _);show _=_;kernel_rfl)
noncomputable def kz_ (k:Nat):aK_ K TyK:=sm cod (ay_) [.bo] [.g [.i .i64, .b, .i .i64, .i .i64, .i .i64, .b, .i .i64, .l true .item, .i .i64, .l true .held, .s, .l true .str]] [] (fun k v1 v2 v3 v4 v5 v6 v7 v8 v9 v10 v11 v12=>gG_ k (⟨v1,v2,v3,v4,v5,v6,(⟨v7,v8⟩:am_),(⟨v9,v10,v11,v12⟩:al_)⟩:ao_)) k [.g [.i .i64, .i .i64, .b, .i .i64, .i .i64, .i .i64, .b, .i .i64, .o 0, .i .i64, .o 1, .s, .o 2, .o 3, .s]] [.l .item, .l .held, .l .str, .l .packet] (fun r=>(r.Code,r.End.Number,r.End.Up,r.End.Life,r.End.Peer,r.End.Since,r.End.Owes,r.End.Send.Base,(),r.End.Take.Next,(),r.End.Take.Open,(),(),r.Text,r.End.Send.Items,r.End.Take.Held,r.End.Take.Ready,r.Out,())) (fun v1 v2 v3 v4 v5 v6 v7 v8 v9 v10 v11 v12 v13 v14 v15=>(⟨v1,(⟨v2,v3,v4,v5,v6,v7,(⟨v8,v12⟩:am_),(⟨v9,v13,v10,v14⟩:al_)⟩:ao_),v15,v11⟩:ay_)) false
noncomputable abbrev rk_:List (Nat×Cut K TyK (ay_)):=[(9,ct cod [2,3,4] [.c (.r 0 0), .c (.r 1 0), .c (.o 2)] [.x [.i .i64, .i .i64, .b, .i .i64, .i .i64, .i .i64, .b, .i .i64, .o 3, .i .i64, .o 4, .s, .o 5, .o 6, .s], .x [.i .i64, .b, .i .i64, .i .i64, .i .i64, .b, .i .i64, .o 7, .i .i64, .o 8, .s, .o 9], .l .packet, .l .item, .l .held, .l .str, .l .packet, .l .item, .l .held, .l .str] dL_),
  (13,ct cod [2,3,4,5,6,7] [.c (.r 0 0), .c (.r 1 0), .c (.o 2), .c (.r 3 0), .c (.o 4), .c (.i .i64)] [.x [.i .i64, .i .i64, .b, .i .i64, .i .i64, .i .i64, .b, .i .i64, .o 5, .i .i64, .o 6, .s, .o 7, .o 8, .s], .x [.i .i64, .b, .i .i64, .i .i64, .i .i64, .b, .i .i64, .o 9, .i .i64, .o 10, .s, .o 11], .l .packet, .x [.i .i64, .o 9], .l .int, .l .item, .l .held, .l .str, .l .packet, .l .item, .l .held, .l .str] cw_),
  (17,ct cod [2,3,4] [.c (.r 0 0), .c (.r 1 0), .c (.o 2)] [.x [.i .i64, .i .i64, .b, .i .i64, .i .i64, .i .i64, .b, .i .i64, .o 3, .i .i64, .o 4, .s, .o 5, .o 6, .s], .x [.i .i64, .b, .i .i64, .i .i64, .i .i64, .b, .i .i64, .o 7, .i .i64, .o 8, .s, .o 9], .l .packet, .l .item, .l .held, .l .str, .l .packet, .l .item, .l .held, .l .str] dd_),
  (22,ct cod [2,3,4] [.c (.r 0 0), .c (.r 1 0), .c (.o 2)] [.x [.i .i64, .i .i64, .b, .i .i64, .i .i64, .i .i64, .b, .i .i64, .o 3, .i .i64, .o 4, .s, .o 5, .o 6, .s], .x [.i .i64, .b, .i .i64, .i .i64, .i .i64, .b, .i .i64, .o 7, .i .i64, .o 8, .s, .o 9], .l .packet, .l .item, .l .held, .l .str, .l .packet, .l .item, .l .held, .l .str] bZ_)]
theorem pd_ (k:Nat):SummOk Tryz.prog cod 99 (kz_ k):=ar_ codOk Tryz.f99 (fun k=>ap_ [(47,bP_ k),(88,c6_ k),(143,jq_ k),(144,i6_ k)]) rk_ false [.cell 2 84] 0 [] aq_ Tryz.func99 (by kernel_rfl) (by kernel_rfl) (by kernel_rfl) (by kernel_rfl)
  (fun k=>Known.of tok eok codOk (all_cons (b5_ k) (all_cons (ds_ k) (all_cons (oD_ k) (all_cons (on_ k) (aa_))))))
  (fun k=>QuietOk.of (all_cons (fun h r=>⟨rfl,rfl⟩) (all_cons (fun h r=>by cases h) (all_cons (fun h r=>by cases h) (all_cons (fun h r=>⟨rfl,rfl⟩) (aa_))))))
  (fun a=>rfl)
  (all_cons (an_ codOk (by kernel_rfl) (by (repeat intro _);show _=_;kernel_rfl) (fun k=>by (repeat intro _);show _=_;kernel_rfl)) (all_cons (an_ codOk (by kernel_rfl) (by (repeat intro _);show _=_;kernel_rfl) (fun k=>by (repeat intro _);show _=_;kernel_rfl)) (all_cons (an_ codOk (by kernel_rfl) (by (repeat intro _);show _=_;kernel_rfl) (fun k=>by (repeat intro _);show _=_;kernel_rfl)) (all_cons (an_ codOk (by kernel_rfl) (by (repeat intro _);show _=_;kernel_rfl) (fun k=>by (repeat intro _);show _=_;kernel_rfl)) (aa_)))))
  (fun k=>by (repeat intro _);show _=_;kernel_rfl)
noncomputable def lQ_ (k:Nat):aK_ K TyK:=sm cod (ae_) [.mv] [.g [.s, .i .i64, .o 0, .o 1, .s, .o 2, .o 3]] [.l .end, .l .parcel, .l .record, .l .record] (fun k v1 v2 v3 v4 v5 v6 v7=>ii_ k (⟨v1,v2,v4,v5,v3,v6,v7⟩:ae_)) k [.g [.s, .i .i64, .o 4, .o 5, .s, .o 6, .o 7]] [.d, .d, .d, .d, .l .end, .l .parcel, .l .record, .l .record] (fun r=>(r.Key,r.Width,(),(),r.Forged,(),(),r.Ends,r.Flight,r.Given,r.Taken,())) (fun v1 v2 v3 v4 v5 v6 v7=>(⟨v1,v2,v4,v5,v3,v6,v7⟩:ae_)) false
noncomputable abbrev sE_:List (Nat×Cut K TyK (ae_)):=[(2,ct cod [1,2,3] [.c (.r 4 0), .c (.r 5 0), .c (.i .i64)] [.d, .d, .d, .d, .x [.s, .i .i64, .o 6, .o 7, .s, .o 8, .o 9], .x [.s, .i .i64, .o 10, .o 11, .s, .o 12, .o 13], .l .end, .l .parcel, .l .record, .l .record, .l .end, .l .parcel, .l .record, .l .record] bN_),
  (7,ct cod [1,2,3,4,5] [.c (.r 4 0), .c (.r 5 0), .c (.i .i64), .c (.r 6 0), .c (.i .i64)] [.d, .d, .d, .d, .x [.s, .i .i64, .o 7, .o 8, .s, .o 9, .o 10], .x [.s, .i .i64, .o 11, .o 12, .s, .o 13, .o 14], .x [.i .i64, .i .i64, .b, .i .i64, .i .i64, .i .i64, .b, .i .i64, .o 15, .i .i64, .o 16, .s, .o 17, .o 18, .s], .l .end, .l .parcel, .l .record, .l .record, .l .end, .l .parcel, .l .record, .l .record, .d, .d, .d, .l .packet] du_)]
theorem rx_ (k:Nat):SummOk Tryz.prog cod 56 (lQ_ k):=ar_ codOk Tryz.f56 (fun k=>ap_ [(99,kz_ k),(78,fi_ k)]) sE_ false [.cell 2 29] 4 [true,true,true,true] aq_ Tryz.func56 (by kernel_rfl) (by kernel_rfl) (by kernel_rfl) (by kernel_rfl)
  (fun k=>Known.of tok eok codOk (all_cons (pd_ k) (all_cons (gF_ k) (aa_))))
  (fun k=>QuietOk.of (all_cons (fun h r=>by cases h) (all_cons (fun h r=>⟨rfl,rfl⟩) (aa_))))
  (fun a=>rfl)
  (all_cons (an_ codOk (by kernel_rfl) (by (repeat intro _);show _=_;kernel_rfl) (fun k=>by (repeat intro _);show _=_;kernel_rfl)) (all_cons (an_ codOk (by kernel_rfl) (by (repeat intro _);show _=_;kernel_rfl) (fun k=>by (repeat intro _);show _=_;kernel_rfl)) (aa_)))
  (fun k=>by (repeat intro _);show _=_;kernel_rfl)
noncomputable def fU_ (k:Nat):aK_ K TyK:=sm cod (List ac_) [.bo, .bo] [.c (.l true .parcel), .c (.i .i64)] [] (ek_) k [.c (.o 0)] [.l .parcel] (fun r=>((),r,())) (fun v1=>v1) false
theorem hp_ (k:Nat):SummOk Tryz.prog cod 59 (fU_ k):=ar_ codOk Tryz.f59 (fun k=>ap_ []) [] false [.tmp 4] 0 [] aq_ Tryz.func59 (by kernel_rfl) (by kernel_rfl) (by kernel_rfl) (by kernel_rfl)
  (fun k=>Known.of tok eok codOk (aa_))
  (fun k=>QuietOk.of (aa_))
  (fun a=>rfl)
  (aa_)
  (fun k=>by (repeat intro _);show _=_;kernel_rfl)
noncomputable def kq_ (k:Nat):aK_ K TyK:=sm cod (Int) [.bo] [.g [.i .i64, .l true .item]] [] (fun k v1 v2=>ny_ k (⟨v1,v2⟩:am_)) k [.c (.i .i64)] [] (fun r=>(r,())) (fun v1=>v1) true
noncomputable abbrev q9_:List (Nat×Cut K TyK (Int)):=[(2,ct cod [1,3] [.c (.r 0 0), .c (.i .i64)] [.x [.i .i64, .l true .item]] cT_)]
theorem qa_ (k:Nat):SummOk Tryz.prog cod 159 (kq_ k):=ar_ codOk Tryz.f159 (fun k=>ap_ []) q9_ false [.tmp 2] 0 [] aq_ Tryz.func159 (by kernel_rfl) (by kernel_rfl) (by kernel_rfl) (by kernel_rfl)
  (fun k=>Known.of tok eok codOk (aa_))
  (fun k=>QuietOk.of (aa_))
  (fun a=>rfl)
  (all_cons (an_ codOk (by kernel_rfl) (by (repeat intro _);show _=_;kernel_rfl) (fun k=>by (repeat intro _);show _=_;kernel_rfl)) (aa_))
  (fun k=>by (repeat intro _);show _=_;kernel_rfl)
noncomputable def i9_ (k:Nat):aK_ K TyK:=sm cod (am_) [.bo, .bo, .bo] [.g [.i .i64, .l true .item], .c (.i .i64), .c (.i .i64)] [] (fun k v1 v2 v3 v4=>f7_ k (⟨v1,v2⟩:am_) v3 v4) k [.g [.i .i64, .o 0]] [.l .item] (fun r=>(r.Base,(),r.Items,())) (fun v1 v2=>(⟨v1,v2⟩:am_)) false
noncomputable abbrev qL_:List (Nat×Cut K TyK (am_)):=[(9,ct cod [2,6,7,8] [.c (.i .i64), .c (.r 0 0), .c (.r 1 0), .c (.i .i64)] [.x [.i .i64, .o 2], .x [.i .i64, .o 3], .l .item, .l .item] bb_),
  (13,ct cod [2,6,7,8] [.c (.i .i64), .c (.r 0 0), .c (.r 1 0), .c (.i .i64)] [.x [.i .i64, .o 2], .x [.i .i64, .o 3], .l .item, .l .item] a6_)]
theorem oz_ (k:Nat):SummOk Tryz.prog cod 145 (i9_ k):=ar_ codOk Tryz.f145 (fun k=>ap_ [(92,dh_ k),(137,eQ_ k),(159,kq_ k),(28,bC_ k)]) qL_ false [.cell 6 59] 0 [] aq_ Tryz.func145 (by kernel_rfl) (by kernel_rfl) (by kernel_rfl) (by kernel_rfl)
  (fun k=>Known.of tok eok codOk (all_cons (dW_ k) (all_cons (fw_ k) (all_cons (qa_ k) (all_cons (bu_ k) (aa_))))))
  (fun k=>QuietOk.of (all_cons (fun h r=>⟨rfl,rfl⟩) (all_cons (fun h r=>by cases h) (all_cons (fun h r=>⟨rfl,rfl⟩) (all_cons (fun h r=>⟨rfl,rfl⟩) (aa_))))))
  (fun a=>rfl)
  (all_cons (an_ codOk (by kernel_rfl) (by (repeat intro _);show _=_;kernel_rfl) (fun k=>by (repeat intro _);show _=_;kernel_rfl)) (all_cons (an_ codOk (by kernel_rfl) (by (repeat intro _);show _=_;kernel_rfl) (fun k=>by (repeat intro _);show _=_;kernel_rfl)) (aa_)))
  (fun k=>by (repeat intro _);show _=_;kernel_rfl)
noncomputable def kK_ (k:Nat):aK_ K TyK:=sm cod (al_) [.mv] [.g [.i .i64, .o 0, .s, .o 1]] [.l .held, .l .str] (fun k v1 v2 v3 v4=>i0_ k (⟨v1,v3,v2,v4⟩:al_)) k [.g [.i .i64, .o 2, .s, .o 3]] [.d, .d, .l .held, .l .str] (fun r=>(r.Next,(),r.Open,(),r.Held,r.Ready,())) (fun v1 v2 v3 v4=>(⟨v1,v3,v2,v4⟩:al_)) false
noncomputable abbrev vE_:List (Nat×Cut K TyK (al_)):=[(1,ct cod [1,2] [.c (.r 2 0), .c (.r 3 0)] [.d, .d, .x [.i .i64, .o 4, .s, .o 5], .x [.i .i64, .o 6, .s, .o 7], .l .held, .l .str, .l .held, .l .str] cI_)]
theorem nu_ (k:Nat):SummOk Tryz.prog cod 160 (kK_ k):=ar_ codOk Tryz.f160 (fun k=>ap_ [(140,jj_ k)]) vE_ false [.cell 2 63] 2 [true,true] aq_ Tryz.func160 (by kernel_rfl) (by kernel_rfl) (by kernel_rfl) (by kernel_rfl)
  (fun k=>Known.of tok eok codOk (all_cons (mv_ k) (aa_)))
  (fun k=>QuietOk.of (all_cons (fun h r=>⟨rfl,rfl⟩) (aa_)))
  (fun a=>rfl)
  (all_cons (an_ codOk (by kernel_rfl) (by (repeat intro _);show _=_;kernel_rfl) (fun k=>by (repeat intro _);show _=_;kernel_rfl)) (aa_))
  (fun k=>by (repeat intro _);show _=_;kernel_rfl)
noncomputable def iN_ (k:Nat):aK_ K TyK:=sm cod (al_) [.bo, .bo, .bo] [.g [.i .i64, .l true .held, .s, .l true .str], .c (.i .i64), .g [.s, .b]] [] (fun k v1 v2 v3 v4 v5 v6 v7=>gg_ k (⟨v1,v2,v3,v4⟩:al_) v5 (⟨v6,v7⟩:aA_)) k [.g [.i .i64, .o 0, .s, .o 1]] [.l .held, .l .str] (fun r=>(r.Next,(),r.Open,(),r.Held,r.Ready,())) (fun v1 v2 v3 v4=>(⟨v1,v3,v2,v4⟩:al_)) false
noncomputable abbrev pS_:List (Nat×Cut K TyK (al_)):=[(9,ct cod [1,3,5,6,7,8,9,10] [.c (.i .i64), .c (.r 0 0), .c (.r 1 0), .c (.r 2 0), .c (.r 3 0), .c (.o 4), .c (.b), .c (.i .i64)] [.x [.i .i64, .l true .held, .s, .l true .str], .x [.s, .b], .x [.i .i64, .o 5, .s, .o 6], .x [.i .i64, .o 7, .s, .o 8], .l .held, .l .held, .l .str, .l .held, .l .str] be_),
  (16,ct cod [1,3,5,6,7,8,9,10] [.c (.i .i64), .c (.r 0 0), .c (.r 1 0), .c (.r 2 0), .c (.r 3 0), .c (.o 4), .c (.b), .c (.i .i64)] [.x [.i .i64, .l true .held, .s, .l true .str], .x [.s, .b], .x [.i .i64, .o 5, .s, .o 6], .x [.i .i64, .o 7, .s, .o 8], .l .held, .l .held, .l .str, .l .held, .l .str] bB_),
  (19,ct cod [6,7,8] [.c (.r 0 0), .c (.r 1 0), .c (.o 2)] [.x [.i .i64, .o 3, .s, .o 4], .x [.i .i64, .o 5, .s, .o 6], .l .held, .l .held, .l .str, .l .held, .l .str] cW_)]
theorem ot_ (k:Nat):SummOk Tryz.prog cod 146 (iN_ k):=ar_ codOk Tryz.f146 (fun k=>ap_ [(93,dk_ k),(138,f4_ k),(139,ig_ k),(160,kK_ k)]) pS_ false [.cell 6 63] 0 [] aq_ Tryz.func146 (by kernel_rfl) (by kernel_rfl) (by kernel_rfl) (by kernel_rfl)
  (fun k=>Known.of tok eok codOk (all_cons (dY_ k) (all_cons (hk_ k) (all_cons (j6_ k) (all_cons (nu_ k) (aa_))))))
  (fun k=>QuietOk.of (all_cons (fun h r=>⟨rfl,rfl⟩) (all_cons (fun h r=>by cases h) (all_cons (fun h r=>⟨rfl,rfl⟩) (all_cons (fun h r=>by cases h) (aa_))))))
  (fun a=>rfl)
  (all_cons (an_ codOk (by kernel_rfl) (by (repeat intro _);show _=_;kernel_rfl) (fun k=>by (repeat intro _);show _=_;kernel_rfl)) (all_cons (an_ codOk (by kernel_rfl) (by (repeat intro _);show _=_;kernel_rfl) (fun k=>by (repeat intro _);show _=_;kernel_rfl)) (all_cons (an_ codOk (by kernel_rfl) (by (repeat intro _);show _=_;kernel_rfl) (fun k=>by (repeat intro _);show _=_;kernel_rfl)) (aa_))))
  (fun k=>by (repeat intro _);show _=_;kernel_rfl)
noncomputable def j5_ (k:Nat):aK_ K TyK:=sm cod (ay_) [.bo, .bo] [.g [.i .i64, .b, .i .i64, .i .i64, .i .i64, .b, .i .i64, .l true .item, .i .i64, .l true .held, .s, .l true .str], .g [.i .i64, .i .i64, .i .i64, .i .i64, .i .i64, .i .i64, .i .i64, .b, .s]] [] (fun k v1 v2 v3 v4 v5 v6 v7 v8 v9 v10 v11 v12 v13 v14 v15 v16 v17 v18 v19 v20 v21=>gU_ k (⟨v1,v2,v3,v4,v5,v6,(⟨v7,v8⟩:am_),(⟨v9,v10,v11,v12⟩:al_)⟩:ao_) (⟨v13,v14,v15,v16,v17,v18,v19,v20,v21⟩:ad_)) k [.g [.i .i64, .i .i64, .b, .i .i64, .i .i64, .i .i64, .b, .i .i64, .o 0, .i .i64, .o 1, .s, .o 2, .o 3, .s]] [.l .item, .l .held, .l .str, .l .packet] (fun r=>(r.Code,r.End.Number,r.End.Up,r.End.Life,r.End.Peer,r.End.Since,r.End.Owes,r.End.Send.Base,(),r.End.Take.Next,(),r.End.Take.Open,(),(),r.Text,r.End.Send.Items,r.End.Take.Held,r.End.Take.Ready,r.Out,())) (fun v1 v2 v3 v4 v5 v6 v7 v8 v9 v10 v11 v12 v13 v14 v15=>(⟨v1,(⟨v2,v3,v4,v5,v6,v7,(⟨v8,v12⟩:am_),(⟨v9,v13,v10,v14⟩:al_)⟩:ao_),v15,v11⟩:ay_)) false
noncomputable abbrev rD_:List (Nat×Cut K TyK (ay_)):=[(11,ct cod [3,4,5] [.c (.r 0 0), .c (.r 1 0), .c (.r 2 0)] [.x [.i .i64, .i .i64, .i .i64, .i .i64, .i .i64, .i .i64, .i .i64, .b, .s], .x [.i .i64, .i .i64, .b, .i .i64, .i .i64, .i .i64, .b, .i .i64, .o 3, .i .i64, .o 4, .s, .o 5, .o 6, .s], .x [.i .i64, .b, .i .i64, .i .i64, .i .i64, .b, .i .i64, .o 7, .i .i64, .o 8, .s, .o 9], .l .item, .l .held, .l .str, .l .packet, .l .item, .l .held, .l .str] dg_)]
theorem pj_ (k:Nat):SummOk Tryz.prog cod 100 (j5_ k):=ar_ codOk Tryz.f100 (fun k=>ap_ [(47,bP_ k),(88,c6_ k),(118,kV_ k),(145,i9_ k),(146,iN_ k)]) rD_ false [.cell 4 84] 0 [] aq_ Tryz.func100 (by kernel_rfl) (by kernel_rfl) (by kernel_rfl) (by kernel_rfl)
  (fun k=>Known.of tok eok codOk (all_cons (b5_ k) (all_cons (ds_ k) (all_cons (nA_ k) (all_cons (oz_ k) (all_cons (ot_ k) (aa_)))))))
  (fun k=>QuietOk.of (all_cons (fun h r=>⟨rfl,rfl⟩) (all_cons (fun h r=>by cases h) (all_cons (fun h r=>⟨rfl,rfl⟩) (all_cons (fun h r=>by cases h) (all_cons (fun h r=>by cases h) (aa_)))))))
  (fun a=>rfl)
  (all_cons (an_ codOk (by kernel_rfl) (by (repeat intro _);show _=_;kernel_rfl) (fun k=>by (repeat intro _);show _=_;kernel_rfl)) (aa_))
  (fun k=>by (repeat intro _);show _=_;kernel_rfl)
noncomputable def ka_ (k:Nat):aK_ K TyK:=sm cod (ae_) [.mv, .mv] [.g [.s, .i .i64, .o 0, .o 1, .s, .o 2, .o 3], .c (.i .i64)] [.l .end, .l .parcel, .l .record, .l .record] (fun k v1 v2 v3 v4 v5 v6 v7 v8=>gS_ k (⟨v1,v2,v5,v6,v3,v7,v8⟩:ae_) v4) k [.g [.s, .i .i64, .o 4, .o 5, .s, .o 6, .o 7]] [.d, .d, .d, .d, .l .end, .l .parcel, .l .record, .l .record] (fun r=>(r.Key,r.Width,(),(),r.Forged,(),(),r.Ends,r.Flight,r.Given,r.Taken,())) (fun v1 v2 v3 v4 v5 v6 v7=>(⟨v1,v2,v4,v5,v3,v6,v7⟩:ae_)) false
noncomputable abbrev q5_:List (Nat×Cut K TyK (ae_)):=[(8,ct cod [2,4,5,6] [.c (.r 4 0), .c (.r 5 0), .c (.r 6 0), .c (.r 7 0)] [.d, .d, .d, .d, .x [.s, .i .i64, .o 8, .o 9, .s, .o 10, .o 11], .x [.s, .i .i64, .o 12, .o 13, .s, .o 14, .o 15], .x [.i .i64, .s, .s], .x [.i .i64, .i .i64, .i .i64, .i .i64, .i .i64, .i .i64, .i .i64, .b, .s], .l .end, .l .parcel, .l .record, .l .record, .l .end, .l .parcel, .l .record, .l .record] cV_)]
theorem qP_ (k:Nat):SummOk Tryz.prog cod 58 (ka_ k):=ar_ codOk Tryz.f58 (fun k=>ap_ [(59,fU_ k),(33,hw_ k),(100,j5_ k)]) q5_ false [.cell 4 29] 4 [true,true,true,true] aq_ Tryz.func58 (by kernel_rfl) (by kernel_rfl) (by kernel_rfl) (by kernel_rfl)
  (fun k=>Known.of tok eok codOk (all_cons (hp_ k) (all_cons (mk_ k) (all_cons (pj_ k) (aa_)))))
  (fun k=>QuietOk.of (all_cons (fun h r=>by cases h) (all_cons (fun h r=>⟨rfl,rfl⟩) (all_cons (fun h r=>by cases h) (aa_)))))
  (fun a=>rfl)
  (all_cons (an_ codOk (by kernel_rfl) (by (repeat intro _);show _=_;kernel_rfl) (fun k=>by (repeat intro _);show _=_;kernel_rfl)) (aa_))
  (fun k=>by (repeat intro _);show _=_;kernel_rfl)
noncomputable def kk_ (k:Nat):aK_ K TyK:=sm cod (ao_) [.bo] [.g [.i .i64, .b, .i .i64, .i .i64, .i .i64, .b, .i .i64, .l true .item, .i .i64, .l true .held, .s, .l true .str]] [] (fun k v1 v2 v3 v4 v5 v6 v7 v8 v9 v10 v11 v12=>hd_ k (⟨v1,v2,v3,v4,v5,v6,(⟨v7,v8⟩:am_),(⟨v9,v10,v11,v12⟩:al_)⟩:ao_)) k [.g [.i .i64, .b, .i .i64, .i .i64, .i .i64, .b, .i .i64, .o 0, .i .i64, .o 1, .s, .o 2]] [.l .item, .l .held, .l .str] (fun r=>(r.Number,r.Up,r.Life,r.Peer,r.Since,r.Owes,r.Send.Base,(),r.Take.Next,(),r.Take.Open,(),r.Send.Items,r.Take.Held,r.Take.Ready,())) (fun v1 v2 v3 v4 v5 v6 v7 v8 v9 v10 v11 v12=>(⟨v1,v2,v3,v4,v5,v6,(⟨v7,v10⟩:am_),(⟨v8,v11,v9,v12⟩:al_)⟩:ao_)) false
theorem py_ (k:Nat):SummOk Tryz.prog cod 101 (kk_ k):=ar_ codOk Tryz.f101 (fun k=>ap_ [(47,bP_ k)]) [] false [.cell 2 65] 0 [] aq_ Tryz.func101 (by kernel_rfl) (by kernel_rfl) (by kernel_rfl) (by kernel_rfl)
  (fun k=>Known.of tok eok codOk (all_cons (b5_ k) (aa_)))
  (fun k=>QuietOk.of (all_cons (fun h r=>⟨rfl,rfl⟩) (aa_)))
  (fun a=>rfl)
  (aa_)
  (fun k=>by (repeat intro _);show _=_;kernel_rfl)
noncomputable def ky_ (k:Nat):aK_ K TyK:=sm cod (ao_) [.bo] [.g [.i .i64, .b, .i .i64, .i .i64, .i .i64, .b, .i .i64, .l true .item, .i .i64, .l true .held, .s, .l true .str]] [] (fun k v1 v2 v3 v4 v5 v6 v7 v8 v9 v10 v11 v12=>g5_ k (⟨v1,v2,v3,v4,v5,v6,(⟨v7,v8⟩:am_),(⟨v9,v10,v11,v12⟩:al_)⟩:ao_)) k [.g [.i .i64, .b, .i .i64, .i .i64, .i .i64, .b, .i .i64, .o 0, .i .i64, .o 1, .s, .o 2]] [.l .item, .l .held, .l .str] (fun r=>(r.Number,r.Up,r.Life,r.Peer,r.Since,r.Owes,r.Send.Base,(),r.Take.Next,(),r.Take.Open,(),r.Send.Items,r.Take.Held,r.Take.Ready,())) (fun v1 v2 v3 v4 v5 v6 v7 v8 v9 v10 v11 v12=>(⟨v1,v2,v3,v4,v5,v6,(⟨v7,v10⟩:am_),(⟨v8,v11,v9,v12⟩:al_)⟩:ao_)) false
theorem qb_ (k:Nat):SummOk Tryz.prog cod 102 (ky_ k):=ar_ codOk Tryz.f102 (fun k=>ap_ [(47,bP_ k),(88,c6_ k)]) [] false [.cell 2 65] 0 [] aq_ Tryz.func102 (by kernel_rfl) (by kernel_rfl) (by kernel_rfl) (by kernel_rfl)
  (fun k=>Known.of tok eok codOk (all_cons (b5_ k) (all_cons (ds_ k) (aa_))))
  (fun k=>QuietOk.of (all_cons (fun h r=>⟨rfl,rfl⟩) (all_cons (fun h r=>by cases h) (aa_))))
  (fun a=>rfl)
  (aa_)
  (fun k=>by (repeat intro _);show _=_;kernel_rfl)
noncomputable def sd_ (k:Nat):aK_ K TyK:=sm cod (List aA_) [.bo] [.c (.s)] [] (oP_) k [.c (.o 0)] [.l .part] (fun r=>((),r,())) (fun v1=>v1) false
noncomputable abbrev xU_:List (Nat×Cut K TyK (List aA_)):=[(4,ct cod [0,3] [.c (.s), .c (.o 0)] [.l .part] gA_)]
theorem vn_ (k:Nat):SummOk Tryz.prog cod 161 (sd_ k):=ar_ codOk Tryz.f161 (fun k=>ap_ []) xU_ false [.tmp 2] 0 [] aq_ Tryz.func161 (by kernel_rfl) (by kernel_rfl) (by kernel_rfl) (by kernel_rfl)
  (fun k=>Known.of tok eok codOk (aa_))
  (fun k=>QuietOk.of (aa_))
  (fun a=>rfl)
  (all_cons (an_ codOk (by kernel_rfl) (by (repeat intro _);show _=_;kernel_rfl) (fun k=>by (repeat intro _);show _=_;kernel_rfl)) (aa_))
  (fun k=>by (repeat intro _);show _=_;kernel_rfl)
noncomputable def i8_ (k:Nat):aK_ K TyK:=sm cod (am_×Int) [.bo, .bo] [.g [.i .i64, .l true .item], .c (.s)] [] (fun k v1 v2 v3=>gh_ k (⟨v1,v2⟩:am_) v3) k [.g [.i .i64, .o 0], .c (.i .i64)] [.l .item] (fun r=>(r.1.Base,(),r.2,r.1.Items,())) (fun v1 v2 v3=>((⟨v1,v3⟩:am_),v2)) false
noncomputable abbrev qg_:List (Nat×Cut K TyK (am_×Int)):=[(9,ct cod [4,6,8,9] [.c (.r 0 0), .c (.o 1), .c (.r 2 0), .c (.i .i64)] [.x [.i .i64, .o 3], .l .part, .x [.i .i64, .o 4], .l .item, .l .item] cy_)]
theorem oF_ (k:Nat):SummOk Tryz.prog cod 147 (i8_ k):=ar_ codOk Tryz.f147 (fun k=>ap_ [(92,dh_ k),(161,sd_ k),(137,eQ_ k)]) qg_ false [.cell 4 59, .tmp 5] 0 [] aq_ Tryz.func147 (by kernel_rfl) (by kernel_rfl) (by kernel_rfl) (by kernel_rfl)
  (fun k=>Known.of tok eok codOk (all_cons (dW_ k) (all_cons (vn_ k) (all_cons (fw_ k) (aa_)))))
  (fun k=>QuietOk.of (all_cons (fun h r=>⟨rfl,rfl⟩) (all_cons (fun h r=>by cases h) (all_cons (fun h r=>by cases h) (aa_)))))
  (fun a=>rfl)
  (all_cons (an_ codOk (by kernel_rfl) (by (repeat intro _);show _=_;kernel_rfl) (fun k=>by (repeat intro _);show _=_;kernel_rfl)) (aa_))
  (fun k=>by (repeat intro _);show _=_;kernel_rfl)
noncomputable def kl_ (k:Nat):aK_ K TyK:=sm cod (ay_) [.bo, .bo] [.g [.i .i64, .b, .i .i64, .i .i64, .i .i64, .b, .i .i64, .l true .item, .i .i64, .l true .held, .s, .l true .str], .c (.s)] [] (fun k v1 v2 v3 v4 v5 v6 v7 v8 v9 v10 v11 v12 v13=>gI_ k (⟨v1,v2,v3,v4,v5,v6,(⟨v7,v8⟩:am_),(⟨v9,v10,v11,v12⟩:al_)⟩:ao_) v13) k [.g [.i .i64, .i .i64, .b, .i .i64, .i .i64, .i .i64, .b, .i .i64, .o 0, .i .i64, .o 1, .s, .o 2, .o 3, .s]] [.l .item, .l .held, .l .str, .l .packet] (fun r=>(r.Code,r.End.Number,r.End.Up,r.End.Life,r.End.Peer,r.End.Since,r.End.Owes,r.End.Send.Base,(),r.End.Take.Next,(),r.End.Take.Open,(),(),r.Text,r.End.Send.Items,r.End.Take.Held,r.End.Take.Ready,r.Out,())) (fun v1 v2 v3 v4 v5 v6 v7 v8 v9 v10 v11 v12 v13 v14 v15=>(⟨v1,(⟨v2,v3,v4,v5,v6,v7,(⟨v8,v12⟩:am_),(⟨v9,v13,v10,v14⟩:al_)⟩:ao_),v15,v11⟩:ay_)) false
theorem pl_ (k:Nat):SummOk Tryz.prog cod 103 (kl_ k):=ar_ codOk Tryz.f103 (fun k=>ap_ [(47,bP_ k),(147,i8_ k),(88,c6_ k)]) [] false [.cell 4 84] 0 [] aq_ Tryz.func103 (by kernel_rfl) (by kernel_rfl) (by kernel_rfl) (by kernel_rfl)
  (fun k=>Known.of tok eok codOk (all_cons (b5_ k) (all_cons (oF_ k) (all_cons (ds_ k) (aa_)))))
  (fun k=>QuietOk.of (all_cons (fun h r=>⟨rfl,rfl⟩) (all_cons (fun h r=>by cases h) (all_cons (fun h r=>by cases h) (aa_)))))
  (fun a=>rfl)
  (aa_)
  (fun k=>by (repeat intro _);show _=_;kernel_rfl)
noncomputable def iZ_ (k:Nat):aK_ K TyK:=sm cod (al_×ByteArray×Bool) [.bo] [.g [.i .i64, .l true .held, .s, .l true .str]] [] (fun k v1 v2 v3 v4=>ga_ k (⟨v1,v2,v3,v4⟩:al_)) k [.g [.i .i64, .o 0, .s, .o 1], .c (.s), .c (.b)] [.l .held, .l .str] (fun r=>(r.1.Next,(),r.1.Open,(),r.2.1,r.2.2,r.1.Held,r.1.Ready,())) (fun v1 v2 v3 v4 v5 v6=>((⟨v1,v5,v2,v6⟩:al_),v3,v4)) false
theorem oA_ (k:Nat):SummOk Tryz.prog cod 148 (iZ_ k):=ar_ codOk Tryz.f148 (fun k=>ap_ [(93,dk_ k),(138,f4_ k),(160,kK_ k)]) [] false [.cell 2 63, .tmp 3, .tmp 4] 0 [] aq_ Tryz.func148 (by kernel_rfl) (by kernel_rfl) (by kernel_rfl) (by kernel_rfl)
  (fun k=>Known.of tok eok codOk (all_cons (dY_ k) (all_cons (hk_ k) (all_cons (nu_ k) (aa_)))))
  (fun k=>QuietOk.of (all_cons (fun h r=>⟨rfl,rfl⟩) (all_cons (fun h r=>by cases h) (all_cons (fun h r=>by cases h) (aa_)))))
  (fun a=>rfl)
  (aa_)
  (fun k=>by (repeat intro _);show _=_;kernel_rfl)
noncomputable def kj_ (k:Nat):aK_ K TyK:=sm cod (ay_) [.bo] [.g [.i .i64, .b, .i .i64, .i .i64, .i .i64, .b, .i .i64, .l true .item, .i .i64, .l true .held, .s, .l true .str]] [] (fun k v1 v2 v3 v4 v5 v6 v7 v8 v9 v10 v11 v12=>hf_ k (⟨v1,v2,v3,v4,v5,v6,(⟨v7,v8⟩:am_),(⟨v9,v10,v11,v12⟩:al_)⟩:ao_)) k [.g [.i .i64, .i .i64, .b, .i .i64, .i .i64, .i .i64, .b, .i .i64, .o 0, .i .i64, .o 1, .s, .o 2, .o 3, .s]] [.l .item, .l .held, .l .str, .l .packet] (fun r=>(r.Code,r.End.Number,r.End.Up,r.End.Life,r.End.Peer,r.End.Since,r.End.Owes,r.End.Send.Base,(),r.End.Take.Next,(),r.End.Take.Open,(),(),r.Text,r.End.Send.Items,r.End.Take.Held,r.End.Take.Ready,r.Out,())) (fun v1 v2 v3 v4 v5 v6 v7 v8 v9 v10 v11 v12 v13 v14 v15=>(⟨v1,(⟨v2,v3,v4,v5,v6,v7,(⟨v8,v12⟩:am_),(⟨v9,v13,v10,v14⟩:al_)⟩:ao_),v15,v11⟩:ay_)) false
theorem qf_ (k:Nat):SummOk Tryz.prog cod 104 (kj_ k):=ar_ codOk Tryz.f104 (fun k=>ap_ [(47,bP_ k),(148,iZ_ k),(88,c6_ k)]) [] false [.cell 2 84] 0 [] aq_ Tryz.func104 (by kernel_rfl) (by kernel_rfl) (by kernel_rfl) (by kernel_rfl)
  (fun k=>Known.of tok eok codOk (all_cons (b5_ k) (all_cons (oA_ k) (all_cons (ds_ k) (aa_)))))
  (fun k=>QuietOk.of (all_cons (fun h r=>⟨rfl,rfl⟩) (all_cons (fun h r=>by cases h) (all_cons (fun h r=>by cases h) (aa_)))))
  (fun a=>rfl)
  (aa_)
  (fun k=>by (repeat intro _);show _=_;kernel_rfl)
noncomputable def nI_ (k:Nat):aK_ K TyK:=sm cod (ae_) [.mv, .mv] [.g [.s, .i .i64, .o 0, .o 1, .s, .o 2, .o 3], .g [.i .i64, .i .i64, .i .i64, .i .i64, .s]] [.l .end, .l .parcel, .l .record, .l .record] (fun k v1 v2 v3 v4 v5 v6 v7 v8 v9 v10 v11 v12=>jQ_ k (⟨v1,v2,v9,v10,v3,v11,v12⟩:ae_) (⟨v4,v5,v6,v7,v8⟩:nR_)) k [.g [.s, .i .i64, .o 4, .o 5, .s, .o 6, .o 7]] [.d, .d, .d, .d, .l .end, .l .parcel, .l .record, .l .record] (fun r=>(r.Key,r.Width,(),(),r.Forged,(),(),r.Ends,r.Flight,r.Given,r.Taken,())) (fun v1 v2 v3 v4 v5 v6 v7=>(⟨v1,v2,v4,v5,v3,v6,v7⟩:ae_)) false
noncomputable abbrev t2_:List (Nat×Cut K TyK (ae_)):=[(18,ct cod [2,4] [.c (.r 4 0), .c (.r 5 0)] [.d, .d, .d, .d, .x [.s, .i .i64, .o 6, .o 7, .s, .o 8, .o 9], .x [.s, .i .i64, .o 10, .o 11, .s, .o 12, .o 13], .l .end, .l .parcel, .l .record, .l .record, .l .end, .l .parcel, .l .record, .l .record] a3_)]
theorem s3_ (k:Nat):SummOk Tryz.prog cod 60 (nI_ k):=ar_ codOk Tryz.f60 (fun k=>ap_ [(101,kk_ k),(102,ky_ k),(103,kl_ k),(104,kj_ k)]) t2_ false [.cell 4 29] 4 [true,true,true,true] aq_ Tryz.func60 (by kernel_rfl) (by kernel_rfl) (by kernel_rfl) (by kernel_rfl)
  (fun k=>Known.of tok eok codOk (all_cons (py_ k) (all_cons (qb_ k) (all_cons (pl_ k) (all_cons (qf_ k) (aa_))))))
  (fun k=>QuietOk.of (all_cons (fun h r=>by cases h) (all_cons (fun h r=>by cases h) (all_cons (fun h r=>by cases h) (all_cons (fun h r=>by cases h) (aa_))))))
  (fun a=>rfl)
  (all_cons (an_ codOk (by kernel_rfl) (by (repeat intro _);show _=_;kernel_rfl) (fun k=>by (repeat intro _);show _=_;kernel_rfl)) (aa_))
  (fun k=>by (repeat intro _);show _=_;kernel_rfl)
noncomputable def qj_ (k:Nat):aK_ K TyK:=sm cod (ae_) [.bo, .bo, .bo] [.g [.s, .i .i64, .l true .xend, .l true .parcel, .s, .l true .record, .l true .record], .c (.i .i64), .c (.i .i64)] [] (fun k v1 v2 v3 v4 v5 v6 v7 v8 v9=>jo_ k (⟨v1,v2,v3,v4,v5,v6,v7⟩:ae_) v8 v9) k [.g [.s, .i .i64, .w 0, .o 1, .s, .o 2, .o 3]] [.w .xend, .l .parcel, .l .record, .l .record] (fun r=>(r.Key,r.Width,(),(),r.Forged,(),(),r.Ends,r.Flight,r.Given,r.Taken,())) (fun v1 v2 v3 v4 v5 v6 v7=>(⟨v1,v2,v4,v5,v3,v6,v7⟩:ae_)) false
noncomputable abbrev vC_:List (Nat×Cut K TyK (ae_)):=[(7,ct cod [1,2,6,7,8] [.c (.i .i64), .c (.i .i64), .c (.r 0 0), .c (.r 1 0), .c (.m 2)] [.x [.s, .i .i64, .w 3, .o 4, .s, .o 5, .o 6], .x [.s, .i .i64, .w 7, .o 8, .s, .o 9, .o 10], .m .key .int, .w .xend, .l .parcel, .l .record, .l .record, .w .xend, .l .parcel, .l .record, .l .record] c2_),
  (13,ct cod [1,2,6,7,8,40,41,42] [.c (.i .i64), .c (.i .i64), .c (.r 0 0), .c (.r 1 0), .c (.m 2), .c (.o 3), .c (.i .i64), .c (.i .i64)] [.x [.s, .i .i64, .w 4, .o 5, .s, .o 6, .o 7], .x [.s, .i .i64, .w 8, .o 9, .s, .o 10, .o 11], .m .key .int, .l .parcel, .w .xend, .l .parcel, .l .record, .l .record, .w .xend, .l .parcel, .l .record, .l .record] c7_),
  (17,ct cod [1,2,6,7,8,11,12,40,41,42] [.c (.i .i64), .c (.i .i64), .c (.r 0 0), .c (.r 1 0), .c (.m 2), .c (.r 3 0), .c (.r 4 0), .c (.o 5), .c (.i .i64), .c (.i .i64)] [.x [.s, .i .i64, .w 6, .o 7, .s, .o 8, .o 9], .x [.s, .i .i64, .w 10, .o 11, .s, .o 12, .o 13], .m .key .int, .x [.i .i64, .s, .s], .x [.i .i64, .s], .l .parcel, .w .xend, .l .parcel, .l .record, .l .record, .w .xend, .l .parcel, .l .record, .l .record] bc_),
  (21,ct cod [1,2,6,7,8,13] [.c (.i .i64), .c (.i .i64), .c (.r 0 0), .c (.r 1 0), .c (.m 2), .c (.i .i64)] [.x [.s, .i .i64, .w 3, .o 4, .s, .o 5, .o 6], .x [.s, .i .i64, .w 7, .o 8, .s, .o 9, .o 10], .m .key .int, .w .xend, .l .parcel, .l .record, .l .record, .w .xend, .l .parcel, .l .record, .l .record] b9_),
  (19,ct cod [1,2,6,7,8,40,41,42] [.c (.i .i64), .c (.i .i64), .c (.r 0 0), .c (.r 1 0), .c (.m 2), .c (.o 3), .c (.i .i64), .c (.i .i64)] [.x [.s, .i .i64, .w 4, .o 5, .s, .o 6, .o 7], .x [.s, .i .i64, .w 8, .o 9, .s, .o 10, .o 11], .m .key .int, .l .parcel, .w .xend, .l .parcel, .l .record, .l .record, .w .xend, .l .parcel, .l .record, .l .record] c4_),
  (24,ct cod [1,2,6,7,8,13,14] [.c (.i .i64), .c (.i .i64), .c (.r 0 0), .c (.r 1 0), .c (.m 2), .c (.i .i64), .c (.i .i64)] [.x [.s, .i .i64, .w 3, .o 4, .s, .o 5, .o 6], .x [.s, .i .i64, .w 7, .o 8, .s, .o 9, .o 10], .m .key .int, .w .xend, .l .parcel, .l .record, .l .record, .w .xend, .l .parcel, .l .record, .l .record] dV_)]
theorem tN_ (k:Nat):SummOk Tryz.prog cod 20 (qj_ k):=ar_ codOk Tryz.f20 (fun k=>ap_ [(34,hA_ k),(35,dA_ k),(36,hq_ k),(37,gL_ k),(42,hz_ k)]) vC_ false [.cell 6 29] 0 [] aq_ Tryz.func20 (by kernel_rfl) (by kernel_rfl) (by kernel_rfl) (by kernel_rfl)
  (fun k=>Known.of ct_ cv_ codOk (all_cons (ml_ k) (all_cons (kG_ k) (all_cons (l2_ k) (all_cons (k7_ k) (all_cons (mo_ k) (aa_)))))))
  (fun k=>QuietOk.of (all_cons (fun h r=>⟨rfl,rfl⟩) (all_cons (fun h r=>by cases h) (all_cons (fun h r=>by cases h) (all_cons (fun h r=>by cases h) (all_cons (fun h r=>by cases h) (aa_)))))))
  (fun a=>rfl)
  (all_cons (an_ codOk (by kernel_rfl) (by (repeat intro _);show _=_;kernel_rfl) (fun k=>by (repeat intro _);show _=_;kernel_rfl)) (all_cons (an_ codOk (by kernel_rfl) (by (repeat intro _);show _=_;kernel_rfl) (fun k=>by (repeat intro _);show _=_;kernel_rfl)) (all_cons (an_ codOk (by kernel_rfl) (by (repeat intro _);show _=_;kernel_rfl) (fun k=>by (repeat intro _);show _=_;kernel_rfl)) (all_cons (an_ codOk (by kernel_rfl) (by (repeat intro _);show _=_;kernel_rfl) (fun k=>by (repeat intro _);show _=_;kernel_rfl)) (all_cons (an_ codOk (by kernel_rfl) (by (repeat intro _);show _=_;kernel_rfl) (fun k=>by (repeat intro _);show _=_;kernel_rfl)) (all_cons (an_ codOk (by kernel_rfl) (by (repeat intro _);show _=_;kernel_rfl) (fun k=>by (repeat intro _);show _=_;kernel_rfl)) (aa_)))))))
  (fun k=>by (repeat intro _);show _=_;kernel_rfl)
noncomputable def hK_ (k:Nat):aK_ K TyK:=sm cod (Int) [.bo, .bo] [.g [.s, .b], .c (.i .i64)] [] (fun k v1 v2 v3=>gp_ k (⟨v1,v2⟩:aA_) v3) k [.c (.i .i64)] [] (fun r=>(r,())) (fun v1=>v1) true
theorem kv_ (k:Nat):SummOk Tryz.prog cod 174 (hK_ k):=ar_ codOk Tryz.f174 (fun k=>ap_ []) [] false [.tmp 4] 0 [] aq_ Tryz.func174 (by kernel_rfl) (by kernel_rfl) (by kernel_rfl) (by kernel_rfl)
  (fun k=>Known.of ct_ cv_ codOk (aa_))
  (fun k=>QuietOk.of (aa_))
  (fun a=>rfl)
  (aa_)
  (fun k=>by (repeat intro _);show _=_;kernel_rfl)
noncomputable def l0_ (k:Nat):aK_ K TyK:=sm cod (Int) [.bo, .bo] [.g [.s, .b, .b, .i .i64], .c (.i .i64)] [] (fun k v1 v2 v3 v4 v5=>hL_ k (⟨(⟨v1,v2⟩:aA_),v3,v4⟩:ah_) v5) k [.c (.i .i64)] [] (fun r=>(r,())) (fun v1=>v1) true
theorem rz_ (k:Nat):SummOk Tryz.prog cod 168 (l0_ k):=ar_ codOk Tryz.f168 (fun k=>ap_ [(174,hK_ k)]) [] false [.tmp 4] 0 [] aq_ Tryz.func168 (by kernel_rfl) (by kernel_rfl) (by kernel_rfl) (by kernel_rfl)
  (fun k=>Known.of ct_ cv_ codOk (all_cons (kv_ k) (aa_)))
  (fun k=>QuietOk.of (all_cons (fun h r=>⟨rfl,rfl⟩) (aa_)))
  (fun a=>rfl)
  (aa_)
  (fun k=>by (repeat intro _);show _=_;kernel_rfl)
noncomputable def j3_ (k:Nat):aK_ K TyK:=sm cod (Int) [.bo, .bo] [.c (.l true .item), .c (.i .i64)] [] (gV_) k [.c (.i .i64)] [] (fun r=>(r,())) (fun v1=>v1) true
noncomputable abbrev rl_:List (Nat×Cut K TyK (Int)):=[(5,ct cod [0,1,5] [.c (.l true .item), .c (.i .i64), .c (.i .i64)] [] cR_)]
theorem pR_ (k:Nat):SummOk Tryz.prog cod 156 (j3_ k):=ar_ codOk Tryz.f156 (fun k=>ap_ [(168,l0_ k)]) rl_ false [.tmp 4] 0 [] aq_ Tryz.func156 (by kernel_rfl) (by kernel_rfl) (by kernel_rfl) (by kernel_rfl)
  (fun k=>Known.of ct_ cv_ codOk (all_cons (rz_ k) (aa_)))
  (fun k=>QuietOk.of (all_cons (fun h r=>⟨rfl,rfl⟩) (aa_)))
  (fun a=>rfl)
  (all_cons (an_ codOk (by kernel_rfl) (by (repeat intro _);show _=_;kernel_rfl) (fun k=>by (repeat intro _);show _=_;kernel_rfl)) (aa_))
  (fun k=>by (repeat intro _);show _=_;kernel_rfl)
noncomputable def lD_ (k:Nat):aK_ K TyK:=sm cod (Int) [.bo, .bo] [.g [.i .i64, .l true .item], .c (.i .i64)] [] (fun k v1 v2 v3=>hZ_ k (⟨v1,v2⟩:am_) v3) k [.c (.i .i64)] [] (fun r=>(r,())) (fun v1=>v1) true
theorem rH_ (k:Nat):SummOk Tryz.prog cod 141 (lD_ k):=ar_ codOk Tryz.f141 (fun k=>ap_ [(156,j3_ k)]) [] false [.tmp 4] 0 [] aq_ Tryz.func141 (by kernel_rfl) (by kernel_rfl) (by kernel_rfl) (by kernel_rfl)
  (fun k=>Known.of ct_ cv_ codOk (all_cons (pR_ k) (aa_)))
  (fun k=>QuietOk.of (all_cons (fun h r=>⟨rfl,rfl⟩) (aa_)))
  (fun a=>rfl)
  (aa_)
  (fun k=>by (repeat intro _);show _=_;kernel_rfl)
noncomputable def mq_ (k:Nat):aK_ K TyK:=sm cod (Int) [.bo, .bo] [.g [.i .i64, .s, .b], .c (.i .i64)] [] (fun k v1 v2 v3 v4=>h9_ k (⟨v1,(⟨v2,v3⟩:aA_)⟩:ai_) v4) k [.c (.i .i64)] [] (fun r=>(r,())) (fun v1=>v1) true
theorem rh_ (k:Nat):SummOk Tryz.prog cod 169 (mq_ k):=ar_ codOk Tryz.f169 (fun k=>ap_ [(174,hK_ k)]) [] false [.tmp 4] 0 [] aq_ Tryz.func169 (by kernel_rfl) (by kernel_rfl) (by kernel_rfl) (by kernel_rfl)
  (fun k=>Known.of ct_ cv_ codOk (all_cons (kv_ k) (aa_)))
  (fun k=>QuietOk.of (all_cons (fun h r=>⟨rfl,rfl⟩) (aa_)))
  (fun a=>rfl)
  (aa_)
  (fun k=>by (repeat intro _);show _=_;kernel_rfl)
noncomputable def ko_ (k:Nat):aK_ K TyK:=sm cod (Int) [.bo, .bo] [.c (.l true .held), .c (.i .i64)] [] (gH_) k [.c (.i .i64)] [] (fun r=>(r,())) (fun v1=>v1) true
noncomputable abbrev rB_:List (Nat×Cut K TyK (Int)):=[(5,ct cod [0,1,5] [.c (.l true .held), .c (.i .i64), .c (.i .i64)] [] cY_)]
theorem qv_ (k:Nat):SummOk Tryz.prog cod 157 (ko_ k):=ar_ codOk Tryz.f157 (fun k=>ap_ [(169,mq_ k)]) rB_ false [.tmp 4] 0 [] aq_ Tryz.func157 (by kernel_rfl) (by kernel_rfl) (by kernel_rfl) (by kernel_rfl)
  (fun k=>Known.of ct_ cv_ codOk (all_cons (rh_ k) (aa_)))
  (fun k=>QuietOk.of (all_cons (fun h r=>⟨rfl,rfl⟩) (aa_)))
  (fun a=>rfl)
  (all_cons (an_ codOk (by kernel_rfl) (by (repeat intro _);show _=_;kernel_rfl) (fun k=>by (repeat intro _);show _=_;kernel_rfl)) (aa_))
  (fun k=>by (repeat intro _);show _=_;kernel_rfl)
noncomputable def iF_ (k:Nat):aK_ K TyK:=sm cod (Int) [.bo, .bo] [.c (.l true .str), .c (.i .i64)] [] (fv_) k [.c (.i .i64)] [] (fun r=>(r,())) (fun v1=>v1) true
noncomputable abbrev ok_:List (Nat×Cut K TyK (Int)):=[(5,ct cod [0,1,5] [.c (.l true .str), .c (.i .i64), .c (.i .i64)] [] cl_)]
theorem mB_ (k:Nat):SummOk Tryz.prog cod 158 (iF_ k):=ar_ codOk Tryz.f158 (fun k=>ap_ []) ok_ false [.tmp 4] 0 [] aq_ Tryz.func158 (by kernel_rfl) (by kernel_rfl) (by kernel_rfl) (by kernel_rfl)
  (fun k=>Known.of ct_ cv_ codOk (aa_))
  (fun k=>QuietOk.of (aa_))
  (fun a=>rfl)
  (all_cons (an_ codOk (by kernel_rfl) (by (repeat intro _);show _=_;kernel_rfl) (fun k=>by (repeat intro _);show _=_;kernel_rfl)) (aa_))
  (fun k=>by (repeat intro _);show _=_;kernel_rfl)
noncomputable def mp_ (k:Nat):aK_ K TyK:=sm cod (Int) [.bo, .bo] [.g [.i .i64, .l true .held, .s, .l true .str], .c (.i .i64)] [] (fun k v1 v2 v3 v4 v5=>hQ_ k (⟨v1,v2,v3,v4⟩:al_) v5) k [.c (.i .i64)] [] (fun r=>(r,())) (fun v1=>v1) true
theorem rf_ (k:Nat):SummOk Tryz.prog cod 142 (mp_ k):=ar_ codOk Tryz.f142 (fun k=>ap_ [(157,ko_ k),(158,iF_ k)]) [] false [.tmp 4] 0 [] aq_ Tryz.func142 (by kernel_rfl) (by kernel_rfl) (by kernel_rfl) (by kernel_rfl)
  (fun k=>Known.of ct_ cv_ codOk (all_cons (qv_ k) (all_cons (mB_ k) (aa_))))
  (fun k=>QuietOk.of (all_cons (fun h r=>⟨rfl,rfl⟩) (all_cons (fun h r=>⟨rfl,rfl⟩) (aa_))))
  (fun a=>rfl)
  (aa_)
  (fun k=>by (repeat intro _);show _=_;kernel_rfl)
noncomputable def nM_ (k:Nat):aK_ K TyK:=sm cod (Int) [.bo, .bo] [.g [.i .i64, .b, .i .i64, .i .i64, .i .i64, .b, .i .i64, .l true .item, .i .i64, .l true .held, .s, .l true .str], .c (.i .i64)] [] (fun k v1 v2 v3 v4 v5 v6 v7 v8 v9 v10 v11 v12 v13=>jI_ k (⟨v1,v2,v3,v4,v5,v6,(⟨v7,v8⟩:am_),(⟨v9,v10,v11,v12⟩:al_)⟩:ao_) v13) k [.c (.i .i64)] [] (fun r=>(r,())) (fun v1=>v1) true
theorem sx_ (k:Nat):SummOk Tryz.prog cod 96 (nM_ k):=ar_ codOk Tryz.f96 (fun k=>ap_ [(141,lD_ k),(142,mp_ k)]) [] false [.tmp 4] 0 [] aq_ Tryz.func96 (by kernel_rfl) (by kernel_rfl) (by kernel_rfl) (by kernel_rfl)
  (fun k=>Known.of ct_ cv_ codOk (all_cons (rH_ k) (all_cons (rf_ k) (aa_))))
  (fun k=>QuietOk.of (all_cons (fun h r=>⟨rfl,rfl⟩) (all_cons (fun h r=>⟨rfl,rfl⟩) (aa_))))
  (fun a=>rfl)
  (aa_)
  (fun k=>by (repeat intro _);show _=_;kernel_rfl)
noncomputable def mg_ (k:Nat):aK_ K TyK:=sm cod (Int) [.bo, .bo] [.c (.l true .end), .c (.i .i64)] [] (hS_) k [.c (.i .i64)] [] (fun r=>(r,())) (fun v1=>v1) true
noncomputable abbrev sW_:List (Nat×Cut K TyK (Int)):=[(5,ct cod [0,1,5] [.c (.l true .end), .c (.i .i64), .c (.i .i64)] [] dq_)]
theorem rb_ (k:Nat):SummOk Tryz.prog cod 53 (mg_ k):=ar_ codOk Tryz.f53 (fun k=>ap_ [(96,nM_ k)]) sW_ false [.tmp 4] 0 [] aq_ Tryz.func53 (by kernel_rfl) (by kernel_rfl) (by kernel_rfl) (by kernel_rfl)
  (fun k=>Known.of ct_ cv_ codOk (all_cons (sx_ k) (aa_)))
  (fun k=>QuietOk.of (all_cons (fun h r=>⟨rfl,rfl⟩) (aa_)))
  (fun a=>rfl)
  (all_cons (an_ codOk (by kernel_rfl) (by (repeat intro _);show _=_;kernel_rfl) (fun k=>by (repeat intro _);show _=_;kernel_rfl)) (aa_))
  (fun k=>by (repeat intro _);show _=_;kernel_rfl)
noncomputable def je_ (k:Nat):aK_ K TyK:=sm cod (Int) [.bo, .bo] [.g [.i .i64, .s, .s], .c (.i .i64)] [] (fun k v1 v2 v3 v4=>gb_ k (⟨v1,v2,v3⟩:ac_) v4) k [.c (.i .i64)] [] (fun r=>(r,())) (fun v1=>v1) true
theorem oC_ (k:Nat):SummOk Tryz.prog cod 97 (je_ k):=ar_ codOk Tryz.f97 (fun k=>ap_ []) [] false [.tmp 4] 0 [] aq_ Tryz.func97 (by kernel_rfl) (by kernel_rfl) (by kernel_rfl) (by kernel_rfl)
  (fun k=>Known.of ct_ cv_ codOk (aa_))
  (fun k=>QuietOk.of (aa_))
  (fun a=>rfl)
  (aa_)
  (fun k=>by (repeat intro _);show _=_;kernel_rfl)
noncomputable def iA_ (k:Nat):aK_ K TyK:=sm cod (Int) [.bo, .bo] [.c (.l true .parcel), .c (.i .i64)] [] (fu_) k [.c (.i .i64)] [] (fun r=>(r,())) (fun v1=>v1) true
noncomputable abbrev n4_:List (Nat×Cut K TyK (Int)):=[(5,ct cod [0,1,5] [.c (.l true .parcel), .c (.i .i64), .c (.i .i64)] [] cd_)]
theorem m2_ (k:Nat):SummOk Tryz.prog cod 54 (iA_ k):=ar_ codOk Tryz.f54 (fun k=>ap_ [(97,je_ k)]) n4_ false [.tmp 4] 0 [] aq_ Tryz.func54 (by kernel_rfl) (by kernel_rfl) (by kernel_rfl) (by kernel_rfl)
  (fun k=>Known.of ct_ cv_ codOk (all_cons (oC_ k) (aa_)))
  (fun k=>QuietOk.of (all_cons (fun h r=>⟨rfl,rfl⟩) (aa_)))
  (fun a=>rfl)
  (all_cons (an_ codOk (by kernel_rfl) (by (repeat intro _);show _=_;kernel_rfl) (fun k=>by (repeat intro _);show _=_;kernel_rfl)) (aa_))
  (fun k=>by (repeat intro _);show _=_;kernel_rfl)
noncomputable def jw_ (k:Nat):aK_ K TyK:=sm cod (Int) [.bo, .bo] [.g [.i .i64, .i .i64, .i .i64, .s], .c (.i .i64)] [] (fun k v1 v2 v3 v4 v5=>f2_ k (⟨v1,v2,v3,v4⟩:ab_) v5) k [.c (.i .i64)] [] (fun r=>(r,())) (fun v1=>v1) true
theorem oe_ (k:Nat):SummOk Tryz.prog cod 98 (jw_ k):=ar_ codOk Tryz.f98 (fun k=>ap_ []) [] false [.tmp 4] 0 [] aq_ Tryz.func98 (by kernel_rfl) (by kernel_rfl) (by kernel_rfl) (by kernel_rfl)
  (fun k=>Known.of ct_ cv_ codOk (aa_))
  (fun k=>QuietOk.of (aa_))
  (fun a=>rfl)
  (aa_)
  (fun k=>by (repeat intro _);show _=_;kernel_rfl)
noncomputable def il_ (k:Nat):aK_ K TyK:=sm cod (Int) [.bo, .bo] [.c (.l true .record), .c (.i .i64)] [] (d9_) k [.c (.i .i64)] [] (fun r=>(r,())) (fun v1=>v1) true
noncomputable abbrev n2_:List (Nat×Cut K TyK (Int)):=[(5,ct cod [0,1,5] [.c (.l true .record), .c (.i .i64), .c (.i .i64)] [] cj_)]
theorem mJ_ (k:Nat):SummOk Tryz.prog cod 55 (il_ k):=ar_ codOk Tryz.f55 (fun k=>ap_ [(98,jw_ k)]) n2_ false [.tmp 4] 0 [] aq_ Tryz.func55 (by kernel_rfl) (by kernel_rfl) (by kernel_rfl) (by kernel_rfl)
  (fun k=>Known.of ct_ cv_ codOk (all_cons (oe_ k) (aa_)))
  (fun k=>QuietOk.of (all_cons (fun h r=>⟨rfl,rfl⟩) (aa_)))
  (fun a=>rfl)
  (all_cons (an_ codOk (by kernel_rfl) (by (repeat intro _);show _=_;kernel_rfl) (fun k=>by (repeat intro _);show _=_;kernel_rfl)) (aa_))
  (fun k=>by (repeat intro _);show _=_;kernel_rfl)
noncomputable def kg_ (k:Nat):aK_ K TyK:=sm cod (Int) [.bo, .bo] [.g [.s, .i .i64, .l true .end, .l true .parcel, .s, .l true .record, .l true .record], .c (.i .i64)] [] (fun k v1 v2 v3 v4 v5 v6 v7 v8=>gO_ k (⟨v1,v2,v3,v4,v5,v6,v7⟩:ae_) v8) k [.c (.i .i64)] [] (fun r=>(r,())) (fun v1=>v1) true
theorem qt_ (k:Nat):SummOk Tryz.prog cod 17 (kg_ k):=ar_ codOk Tryz.f17 (fun k=>ap_ [(53,mg_ k),(54,iA_ k),(55,il_ k)]) [] false [.tmp 4] 0 [] aq_ Tryz.func17 (by kernel_rfl) (by kernel_rfl) (by kernel_rfl) (by kernel_rfl)
  (fun k=>Known.of ct_ cv_ codOk (all_cons (rb_ k) (all_cons (m2_ k) (all_cons (mJ_ k) (aa_)))))
  (fun k=>QuietOk.of (all_cons (fun h r=>⟨rfl,rfl⟩) (all_cons (fun h r=>⟨rfl,rfl⟩) (all_cons (fun h r=>⟨rfl,rfl⟩) (aa_)))))
  (fun a=>rfl)
  (aa_)
  (fun k=>by (repeat intro _);show _=_;kernel_rfl)
noncomputable def h0_ (k:Nat):aK_ K TyK:=sm cod (aA_) [.bo] [.g [.s, .b]] [] (fun k v1 v2=>lg_ k (⟨v1,v2⟩:aA_)) k [.g [.s, .b]] [] (fun r=>(r.Text,r.Last,())) (fun v1 v2=>(⟨v1,v2⟩:aA_)) true
theorem jW_ (k:Nat):SummOk Tryz.prog cod 175 (h0_ k):=ar_ codOk Tryz.f175 (fun k=>ap_ []) [] false [.cell 2 169] 0 [] aq_ Tryz.func175 (by kernel_rfl) (by kernel_rfl) (by kernel_rfl) (by kernel_rfl)
  (fun k=>Known.of ct_ cv_ codOk (aa_))
  (fun k=>QuietOk.of (aa_))
  (fun a=>rfl)
  (aa_)
  (fun k=>by (repeat intro _);show _=_;kernel_rfl)
noncomputable def lq_ (k:Nat):aK_ K TyK:=sm cod (ah_) [.bo] [.g [.s, .b, .b, .i .i64]] [] (fun k v1 v2 v3 v4=>kO_ k (⟨(⟨v1,v2⟩:aA_),v3,v4⟩:ah_)) k [.g [.s, .b, .b, .i .i64]] [] (fun r=>(r.Part.Text,r.Part.Last,r.Has,r.Since,())) (fun v1 v2 v3 v4=>(⟨(⟨v1,v2⟩:aA_),v3,v4⟩:ah_)) true
theorem rg_ (k:Nat):SummOk Tryz.prog cod 170 (lq_ k):=ar_ codOk Tryz.f170 (fun k=>ap_ [(175,h0_ k)]) [] false [.cell 2 171] 0 [] aq_ Tryz.func170 (by kernel_rfl) (by kernel_rfl) (by kernel_rfl) (by kernel_rfl)
  (fun k=>Known.of ct_ cv_ codOk (all_cons (jW_ k) (aa_)))
  (fun k=>QuietOk.of (all_cons (fun h r=>⟨rfl,rfl⟩) (aa_)))
  (fun a=>rfl)
  (aa_)
  (fun k=>by (repeat intro _);show _=_;kernel_rfl)
noncomputable def ki_ (k:Nat):aK_ K TyK:=sm cod (List ah_) [.bo] [.c (.l true .item)] [] (gN_) k [.c (.o 0)] [.l .item] (fun r=>((),r,())) (fun v1=>v1) false
noncomputable abbrev ro_:List (Nat×Cut K TyK (List ah_)):=[(3,ct cod [0,3,4] [.c (.l true .item), .c (.o 0), .c (.i .i64)] [.l .item] cZ_)]
theorem pg_ (k:Nat):SummOk Tryz.prog cod 162 (ki_ k):=ar_ codOk Tryz.f162 (fun k=>ap_ [(170,lq_ k)]) ro_ false [.tmp 2] 0 [] aq_ Tryz.func162 (by kernel_rfl) (by kernel_rfl) (by kernel_rfl) (by kernel_rfl)
  (fun k=>Known.of ct_ cv_ codOk (all_cons (rg_ k) (aa_)))
  (fun k=>QuietOk.of (all_cons (fun h r=>⟨rfl,rfl⟩) (aa_)))
  (fun a=>rfl)
  (all_cons (an_ codOk (by kernel_rfl) (by (repeat intro _);show _=_;kernel_rfl) (fun k=>by (repeat intro _);show _=_;kernel_rfl)) (aa_))
  (fun k=>by (repeat intro _);show _=_;kernel_rfl)
noncomputable def lJ_ (k:Nat):aK_ K TyK:=sm cod (am_) [.bo] [.g [.i .i64, .l true .item]] [] (fun k v1 v2=>ia_ k (⟨v1,v2⟩:am_)) k [.g [.i .i64, .o 0]] [.l .item] (fun r=>(r.Base,(),r.Items,())) (fun v1 v2=>(⟨v1,v2⟩:am_)) false
theorem q6_ (k:Nat):SummOk Tryz.prog cod 149 (lJ_ k):=ar_ codOk Tryz.f149 (fun k=>ap_ [(162,ki_ k)]) [] false [.cell 2 59] 0 [] aq_ Tryz.func149 (by kernel_rfl) (by kernel_rfl) (by kernel_rfl) (by kernel_rfl)
  (fun k=>Known.of ct_ cv_ codOk (all_cons (pg_ k) (aa_)))
  (fun k=>QuietOk.of (all_cons (fun h r=>by cases h) (aa_)))
  (fun a=>rfl)
  (aa_)
  (fun k=>by (repeat intro _);show _=_;kernel_rfl)
noncomputable def me_ (k:Nat):aK_ K TyK:=sm cod (ai_) [.bo] [.g [.i .i64, .s, .b]] [] (fun k v1 v2 v3=>kM_ k (⟨v1,(⟨v2,v3⟩:aA_)⟩:ai_)) k [.g [.i .i64, .s, .b]] [] (fun r=>(r.Seq,r.Part.Text,r.Part.Last,())) (fun v1 v2 v3=>(⟨v1,(⟨v2,v3⟩:aA_)⟩:ai_)) true
theorem rm_ (k:Nat):SummOk Tryz.prog cod 171 (me_ k):=ar_ codOk Tryz.f171 (fun k=>ap_ [(175,h0_ k)]) [] false [.cell 2 182] 0 [] aq_ Tryz.func171 (by kernel_rfl) (by kernel_rfl) (by kernel_rfl) (by kernel_rfl)
  (fun k=>Known.of ct_ cv_ codOk (all_cons (jW_ k) (aa_)))
  (fun k=>QuietOk.of (all_cons (fun h r=>⟨rfl,rfl⟩) (aa_)))
  (fun a=>rfl)
  (aa_)
  (fun k=>by (repeat intro _);show _=_;kernel_rfl)
noncomputable def kc_ (k:Nat):aK_ K TyK:=sm cod (List ai_) [.bo] [.c (.l true .held)] [] (hg_) k [.c (.o 0)] [.l .held] (fun r=>((),r,())) (fun v1=>v1) false
noncomputable abbrev rC_:List (Nat×Cut K TyK (List ai_)):=[(3,ct cod [0,3,4] [.c (.l true .held), .c (.o 0), .c (.i .i64)] [.l .held] cX_)]
theorem pQ_ (k:Nat):SummOk Tryz.prog cod 163 (kc_ k):=ar_ codOk Tryz.f163 (fun k=>ap_ [(171,me_ k)]) rC_ false [.tmp 2] 0 [] aq_ Tryz.func163 (by kernel_rfl) (by kernel_rfl) (by kernel_rfl) (by kernel_rfl)
  (fun k=>Known.of ct_ cv_ codOk (all_cons (rm_ k) (aa_)))
  (fun k=>QuietOk.of (all_cons (fun h r=>⟨rfl,rfl⟩) (aa_)))
  (fun a=>rfl)
  (all_cons (an_ codOk (by kernel_rfl) (by (repeat intro _);show _=_;kernel_rfl) (fun k=>by (repeat intro _);show _=_;kernel_rfl)) (aa_))
  (fun k=>by (repeat intro _);show _=_;kernel_rfl)
noncomputable def ip_ (k:Nat):aK_ K TyK:=sm cod (List ByteArray) [.bo] [.c (.l true .str)] [] (fr_) k [.c (.o 0)] [.l .str] (fun r=>((),r,())) (fun v1=>v1) false
noncomputable abbrev ou_:List (Nat×Cut K TyK (List ByteArray)):=[(3,ct cod [0,3,4] [.c (.l true .str), .c (.o 0), .c (.i .i64)] [.l .str] ck_)]
theorem mM_ (k:Nat):SummOk Tryz.prog cod 164 (ip_ k):=ar_ codOk Tryz.f164 (fun k=>ap_ []) ou_ false [.tmp 2] 0 [] aq_ Tryz.func164 (by kernel_rfl) (by kernel_rfl) (by kernel_rfl) (by kernel_rfl)
  (fun k=>Known.of ct_ cv_ codOk (aa_))
  (fun k=>QuietOk.of (aa_))
  (fun a=>rfl)
  (all_cons (an_ codOk (by kernel_rfl) (by (repeat intro _);show _=_;kernel_rfl) (fun k=>by (repeat intro _);show _=_;kernel_rfl)) (aa_))
  (fun k=>by (repeat intro _);show _=_;kernel_rfl)
noncomputable def ls_ (k:Nat):aK_ K TyK:=sm cod (al_) [.bo] [.g [.i .i64, .l true .held, .s, .l true .str]] [] (fun k v1 v2 v3 v4=>hP_ k (⟨v1,v2,v3,v4⟩:al_)) k [.g [.i .i64, .o 0, .s, .o 1]] [.l .held, .l .str] (fun r=>(r.Next,(),r.Open,(),r.Held,r.Ready,())) (fun v1 v2 v3 v4=>(⟨v1,v3,v2,v4⟩:al_)) false
theorem rA_ (k:Nat):SummOk Tryz.prog cod 150 (ls_ k):=ar_ codOk Tryz.f150 (fun k=>ap_ [(163,kc_ k),(164,ip_ k)]) [] false [.cell 2 63] 0 [] aq_ Tryz.func150 (by kernel_rfl) (by kernel_rfl) (by kernel_rfl) (by kernel_rfl)
  (fun k=>Known.of ct_ cv_ codOk (all_cons (pQ_ k) (all_cons (mM_ k) (aa_))))
  (fun k=>QuietOk.of (all_cons (fun h r=>by cases h) (all_cons (fun h r=>by cases h) (aa_))))
  (fun a=>rfl)
  (aa_)
  (fun k=>by (repeat intro _);show _=_;kernel_rfl)
noncomputable def no_ (k:Nat):aK_ K TyK:=sm cod (ao_) [.bo] [.g [.i .i64, .b, .i .i64, .i .i64, .i .i64, .b, .i .i64, .l true .item, .i .i64, .l true .held, .s, .l true .str]] [] (fun k v1 v2 v3 v4 v5 v6 v7 v8 v9 v10 v11 v12=>jP_ k (⟨v1,v2,v3,v4,v5,v6,(⟨v7,v8⟩:am_),(⟨v9,v10,v11,v12⟩:al_)⟩:ao_)) k [.g [.i .i64, .b, .i .i64, .i .i64, .i .i64, .b, .i .i64, .o 0, .i .i64, .o 1, .s, .o 2]] [.l .item, .l .held, .l .str] (fun r=>(r.Number,r.Up,r.Life,r.Peer,r.Since,r.Owes,r.Send.Base,(),r.Take.Next,(),r.Take.Open,(),r.Send.Items,r.Take.Held,r.Take.Ready,())) (fun v1 v2 v3 v4 v5 v6 v7 v8 v9 v10 v11 v12=>(⟨v1,v2,v3,v4,v5,v6,(⟨v7,v10⟩:am_),(⟨v8,v11,v9,v12⟩:al_)⟩:ao_)) false
theorem tn_ (k:Nat):SummOk Tryz.prog cod 105 (no_ k):=ar_ codOk Tryz.f105 (fun k=>ap_ [(149,lJ_ k),(150,ls_ k)]) [] false [.cell 2 65] 0 [] aq_ Tryz.func105 (by kernel_rfl) (by kernel_rfl) (by kernel_rfl) (by kernel_rfl)
  (fun k=>Known.of ct_ cv_ codOk (all_cons (q6_ k) (all_cons (rA_ k) (aa_))))
  (fun k=>QuietOk.of (all_cons (fun h r=>by cases h) (all_cons (fun h r=>by cases h) (aa_))))
  (fun a=>rfl)
  (aa_)
  (fun k=>by (repeat intro _);show _=_;kernel_rfl)
noncomputable def lH_ (k:Nat):aK_ K TyK:=sm cod (List ao_) [.bo] [.c (.l true .end)] [] (hV_) k [.c (.w 0)] [.w .xend] (fun r=>((),r,())) (fun v1=>v1) false
noncomputable abbrev s8_:List (Nat×Cut K TyK (List ao_)):=[(3,ct cod [0,3,4] [.c (.l true .end), .c (.w 0), .c (.i .i64)] [.w .xend] dm_)]
theorem rw_ (k:Nat):SummOk Tryz.prog cod 61 (lH_ k):=ar_ codOk Tryz.f61 (fun k=>ap_ [(105,no_ k)]) s8_ false [.tmp 2] 0 [] aq_ Tryz.func61 (by kernel_rfl) (by kernel_rfl) (by kernel_rfl) (by kernel_rfl)
  (fun k=>Known.of ct_ cv_ codOk (all_cons (tn_ k) (aa_)))
  (fun k=>QuietOk.of (all_cons (fun h r=>by cases h) (aa_)))
  (fun a=>rfl)
  (all_cons (an_ codOk (by kernel_rfl) (by (repeat intro _);show _=_;kernel_rfl) (fun k=>by (repeat intro _);show _=_;kernel_rfl)) (aa_))
  (fun k=>by (repeat intro _);show _=_;kernel_rfl)
noncomputable def iX_ (k:Nat):aK_ K TyK:=sm cod (ac_) [.bo] [.g [.i .i64, .s, .s]] [] (fun k v1 v2 v3=>if_ k (⟨v1,v2,v3⟩:ac_)) k [.g [.i .i64, .s, .s]] [] (fun r=>(r.To,r.Sent,r.Bytes,())) (fun v1 v2 v3=>(⟨v1,v2,v3⟩:ac_)) true
theorem of_ (k:Nat):SummOk Tryz.prog cod 106 (iX_ k):=ar_ codOk Tryz.f106 (fun k=>ap_ []) [] false [.cell 2 73] 0 [] aq_ Tryz.func106 (by kernel_rfl) (by kernel_rfl) (by kernel_rfl) (by kernel_rfl)
  (fun k=>Known.of ct_ cv_ codOk (aa_))
  (fun k=>QuietOk.of (aa_))
  (fun a=>rfl)
  (aa_)
  (fun k=>by (repeat intro _);show _=_;kernel_rfl)
noncomputable def it_ (k:Nat):aK_ K TyK:=sm cod (List ac_) [.bo] [.c (.l true .parcel)] [] (fB_) k [.c (.o 0)] [.l .parcel] (fun r=>((),r,())) (fun v1=>v1) false
noncomputable abbrev or_:List (Nat×Cut K TyK (List ac_)):=[(3,ct cod [0,3,4] [.c (.l true .parcel), .c (.o 0), .c (.i .i64)] [.l .parcel] ci_)]
theorem mD_ (k:Nat):SummOk Tryz.prog cod 62 (it_ k):=ar_ codOk Tryz.f62 (fun k=>ap_ [(106,iX_ k)]) or_ false [.tmp 2] 0 [] aq_ Tryz.func62 (by kernel_rfl) (by kernel_rfl) (by kernel_rfl) (by kernel_rfl)
  (fun k=>Known.of ct_ cv_ codOk (all_cons (of_ k) (aa_)))
  (fun k=>QuietOk.of (all_cons (fun h r=>⟨rfl,rfl⟩) (aa_)))
  (fun a=>rfl)
  (all_cons (an_ codOk (by kernel_rfl) (by (repeat intro _);show _=_;kernel_rfl) (fun k=>by (repeat intro _);show _=_;kernel_rfl)) (aa_))
  (fun k=>by (repeat intro _);show _=_;kernel_rfl)
noncomputable def i3_ (k:Nat):aK_ K TyK:=sm cod (ab_) [.bo] [.g [.i .i64, .i .i64, .i .i64, .s]] [] (fun k v1 v2 v3 v4=>hU_ k (⟨v1,v2,v3,v4⟩:ab_)) k [.g [.i .i64, .i .i64, .i .i64, .s]] [] (fun r=>(r.From,r.A,r.B,r.Text,())) (fun v1 v2 v3 v4=>(⟨v1,v2,v3,v4⟩:ab_)) true
theorem n3_ (k:Nat):SummOk Tryz.prog cod 107 (i3_ k):=ar_ codOk Tryz.f107 (fun k=>ap_ []) [] false [.cell 2 87] 0 [] aq_ Tryz.func107 (by kernel_rfl) (by kernel_rfl) (by kernel_rfl) (by kernel_rfl)
  (fun k=>Known.of ct_ cv_ codOk (aa_))
  (fun k=>QuietOk.of (aa_))
  (fun a=>rfl)
  (aa_)
  (fun k=>by (repeat intro _);show _=_;kernel_rfl)
noncomputable def iu_ (k:Nat):aK_ K TyK:=sm cod (List ab_) [.bo] [.c (.l true .record)] [] (ej_) k [.c (.o 0)] [.l .record] (fun r=>((),r,())) (fun v1=>v1) false
noncomputable abbrev oo_:List (Nat×Cut K TyK (List ab_)):=[(3,ct cod [0,3,4] [.c (.l true .record), .c (.o 0), .c (.i .i64)] [.l .record] cg_)]
theorem mX_ (k:Nat):SummOk Tryz.prog cod 63 (iu_ k):=ar_ codOk Tryz.f63 (fun k=>ap_ [(107,i3_ k)]) oo_ false [.tmp 2] 0 [] aq_ Tryz.func63 (by kernel_rfl) (by kernel_rfl) (by kernel_rfl) (by kernel_rfl)
  (fun k=>Known.of ct_ cv_ codOk (all_cons (n3_ k) (aa_)))
  (fun k=>QuietOk.of (all_cons (fun h r=>⟨rfl,rfl⟩) (aa_)))
  (fun a=>rfl)
  (all_cons (an_ codOk (by kernel_rfl) (by (repeat intro _);show _=_;kernel_rfl) (fun k=>by (repeat intro _);show _=_;kernel_rfl)) (aa_))
  (fun k=>by (repeat intro _);show _=_;kernel_rfl)
noncomputable def j1_ (k:Nat):aK_ K TyK:=sm cod (ae_) [.bo] [.g [.s, .i .i64, .l true .end, .l true .parcel, .s, .l true .record, .l true .record]] [] (fun k v1 v2 v3 v4 v5 v6 v7=>dJ_ k (⟨v1,v2,v3,v4,v5,v6,v7⟩:ae_)) k [.g [.s, .i .i64, .w 0, .o 1, .s, .o 2, .o 3]] [.w .xend, .l .parcel, .l .record, .l .record] (fun r=>(r.Key,r.Width,(),(),r.Forged,(),(),r.Ends,r.Flight,r.Given,r.Taken,())) (fun v1 v2 v3 v4 v5 v6 v7=>(⟨v1,v2,v4,v5,v3,v6,v7⟩:ae_)) false
theorem qz_ (k:Nat):SummOk Tryz.prog cod 19 (j1_ k):=ar_ codOk Tryz.f19 (fun k=>ap_ [(61,lH_ k),(62,it_ k),(63,iu_ k)]) [] false [.cell 2 29] 0 [] aq_ Tryz.func19 (by kernel_rfl) (by kernel_rfl) (by kernel_rfl) (by kernel_rfl)
  (fun k=>Known.of ct_ cv_ codOk (all_cons (rw_ k) (all_cons (mD_ k) (all_cons (mX_ k) (aa_)))))
  (fun k=>QuietOk.of (all_cons (fun h r=>by cases h) (all_cons (fun h r=>by cases h) (all_cons (fun h r=>by cases h) (aa_)))))
  (fun a=>rfl)
  (aa_)
  (fun k=>by (repeat intro _);show _=_;kernel_rfl)
noncomputable def i5_ (k:Nat):aK_ K TyK:=sm cod (List aJ_×Bool) [.mv, .mv, .mv] [.c (.o 0), .g [.i .i64, .s, .s], .c (.i .i64)] [.l .l7count] (fun k v1 v2 v3 v4 v5=>gk_ k v5 (⟨v1,v2,v3⟩:ac_) v4) k [.c (.o 1), .c (.b)] [.d, .l .l7count] (fun r=>((),r.2,r.1,())) (fun v1 v2=>(v2,v1)) false
noncomputable abbrev pJ_:List (Nat×Cut K TyK (List aJ_×Bool)):=[(2,ct cod [0,2,4,8] [.c (.o 1), .c (.i .i64), .c (.r 2 0), .c (.i .i64)] [.d, .l .l7count, .x [.i .i64, .s, .s]] bt_)]
theorem oG_ (k:Nat):SummOk Tryz.prog cod 57 (i5_ k):=ar_ codOk Tryz.f57 (fun k=>ap_ []) pJ_ false [.tmp 6, .tmp 7] 1 [true] aq_ Tryz.func57 (by kernel_rfl) (by kernel_rfl) (by kernel_rfl) (by kernel_rfl)
  (fun k=>Known.of tok eok codOk (aa_))
  (fun k=>QuietOk.of (aa_))
  (fun a=>rfl)
  (all_cons (an_ codOk (by kernel_rfl) (by (repeat intro _);show _=_;kernel_rfl) (fun k=>by (repeat intro _);show _=_;kernel_rfl)) (aa_))
  (fun k=>by (repeat intro _);show _=_;kernel_rfl)
noncomputable def qJ_ (k:Nat):aK_ K TyK:=sm cod (ae_) [.gv, .bo, .bo] [.g [.s, .i .i64, .l true .end, .l true .parcel, .s, .l true .record, .l true .record], .c (.i .i64), .c (.i .i64)] [] (fun k v1 v2 v3 v4 v5 v6 v7 v8 v9=>mn_ k (⟨v1,v2,v3,v4,v5,v6,v7⟩:ae_) v8 v9) k [.g [.s, .i .i64, .o 0, .o 1, .s, .o 2, .o 3]] [.l .end, .l .parcel, .l .record, .l .record] (fun r=>(r.Key,r.Width,(),(),r.Forged,(),(),r.Ends,r.Flight,r.Given,r.Taken,())) (fun v1 v2 v3 v4 v5 v6 v7=>(⟨v1,v2,v4,v5,v3,v6,v7⟩:ae_)) false
noncomputable abbrev vI_:List (Nat×Cut K TyK (ae_)):=[(6,ct cod [1,2,6,7,8,9] [.c (.i .i64), .c (.i .i64), .c (.r 0 0), .c (.r 1 0), .c (.o 2), .c (.i .i64)] [.x [.s, .i .i64, .o 3, .o 4, .s, .o 5, .o 6], .x [.s, .i .i64, .o 7, .o 8, .s, .o 9, .o 10], .l .l7count, .l .end, .l .parcel, .l .record, .l .record, .l .end, .l .parcel, .l .record, .l .record] eF_),
  (9,ct cod [1,2,6,7,8,9] [.c (.i .i64), .c (.i .i64), .c (.r 0 0), .c (.r 1 0), .c (.o 2), .c (.i .i64)] [.x [.s, .i .i64, .o 3, .o 4, .s, .o 5, .o 6], .x [.s, .i .i64, .o 7, .o 8, .s, .o 9, .o 10], .l .l7count, .l .end, .l .parcel, .l .record, .l .record, .l .end, .l .parcel, .l .record, .l .record] dK_),
  (16,ct cod [1,2,6,7,8,9,12] [.c (.i .i64), .c (.i .i64), .c (.r 0 0), .c (.r 1 0), .c (.o 2), .c (.i .i64), .c (.i .i64)] [.x [.s, .i .i64, .o 3, .o 4, .s, .o 5, .o 6], .x [.s, .i .i64, .o 7, .o 8, .s, .o 9, .o 10], .l .l7count, .l .end, .l .parcel, .l .record, .l .record, .l .end, .l .parcel, .l .record, .l .record] b8_),
  (19,ct cod [1,2,6,7,8,9,12,13] [.c (.i .i64), .c (.i .i64), .c (.r 0 0), .c (.r 1 0), .c (.o 2), .c (.i .i64), .c (.i .i64), .c (.i .i64)] [.x [.s, .i .i64, .o 3, .o 4, .s, .o 5, .o 6], .x [.s, .i .i64, .o 7, .o 8, .s, .o 9, .o 10], .l .l7count, .l .end, .l .parcel, .l .record, .l .record, .l .end, .l .parcel, .l .record, .l .record] dZ_)]
theorem uq_ (k:Nat):SummOk Tryz.prog cod 18 (qJ_ k):=ar_ codOk Tryz.f18 (fun k=>ap_ [(14,hH_ k),(28,bC_ k),(43,lo_ k),(56,lQ_ k),(57,i5_ k),(58,ka_ k),(59,fU_ k),(60,nI_ k)]) vI_ false [.cell 6 29] 0 [] aq_ Tryz.func18 (by kernel_rfl) (by kernel_rfl) (by kernel_rfl) (by kernel_rfl)
  (fun k=>Known.of tok eok codOk (all_cons (mc_ k) (all_cons (bu_ k) (all_cons (rd_ k) (all_cons (rx_ k) (all_cons (oG_ k) (all_cons (qP_ k) (all_cons (hp_ k) (all_cons (s3_ k) (aa_))))))))))
  (fun k=>QuietOk.of (all_cons (fun h r=>⟨rfl,rfl⟩) (all_cons (fun h r=>⟨rfl,rfl⟩) (all_cons (fun h r=>by cases h) (all_cons (fun h r=>by cases h) (all_cons (fun h r=>by cases h) (all_cons (fun h r=>by cases h) (all_cons (fun h r=>by cases h) (all_cons (fun h r=>by cases h) (aa_))))))))))
  (fun a=>rfl)
  (all_cons (an_ codOk (by kernel_rfl) (by (repeat intro _);show _=_;kernel_rfl) (fun k=>by (repeat intro _);show _=_;kernel_rfl)) (all_cons (an_ codOk (by kernel_rfl) (by (repeat intro _);show _=_;kernel_rfl) (fun k=>by (repeat intro _);show _=_;kernel_rfl)) (all_cons (an_ codOk (by kernel_rfl) (by (repeat intro _);show _=_;kernel_rfl) (fun k=>by (repeat intro _);show _=_;kernel_rfl)) (all_cons (an_ codOk (by kernel_rfl) (by (repeat intro _);show _=_;kernel_rfl) (fun k=>by (repeat intro _);show _=_;kernel_rfl)) (aa_)))))
  (fun k=>by (repeat intro _);show _=_;kernel_rfl)
noncomputable def h5_ (k:Nat):aK_ K TyK:=sm cod (Bool) [.bo, .bo] [.g [.s, .b], .g [.s, .b]] [] (fun k v1 v2 v3 v4=>gz_ k (⟨v1,v2⟩:aA_) (⟨v3,v4⟩:aA_)) k [.c (.b)] [] (fun r=>(r,())) (fun v1=>v1) true
theorem jZ_ (k:Nat):SummOk Tryz.prog cod 176 (h5_ k):=ar_ codOk Tryz.f176 (fun k=>ap_ []) [] false [.tmp 4] 0 [] aq_ Tryz.func176 (by kernel_rfl) (by kernel_rfl) (by kernel_rfl) (by kernel_rfl)
  (fun k=>Known.of ct_ cv_ codOk (aa_))
  (fun k=>QuietOk.of (aa_))
  (fun a=>rfl)
  (aa_)
  (fun k=>by (repeat intro _);show _=_;kernel_rfl)
noncomputable def lv_ (k:Nat):aK_ K TyK:=sm cod (Bool) [.bo, .bo] [.g [.s, .b, .b, .i .i64], .g [.s, .b, .b, .i .i64]] [] (fun k v1 v2 v3 v4 v5 v6 v7 v8=>hW_ k (⟨(⟨v1,v2⟩:aA_),v3,v4⟩:ah_) (⟨(⟨v5,v6⟩:aA_),v7,v8⟩:ah_)) k [.c (.b)] [] (fun r=>(r,())) (fun v1=>v1) true
theorem q8_ (k:Nat):SummOk Tryz.prog cod 172 (lv_ k):=ar_ codOk Tryz.f172 (fun k=>ap_ [(176,h5_ k)]) [] false [.tmp 4] 0 [] aq_ Tryz.func172 (by kernel_rfl) (by kernel_rfl) (by kernel_rfl) (by kernel_rfl)
  (fun k=>Known.of ct_ cv_ codOk (all_cons (jZ_ k) (aa_)))
  (fun k=>QuietOk.of (all_cons (fun h r=>⟨rfl,rfl⟩) (aa_)))
  (fun a=>rfl)
  (aa_)
  (fun k=>by (repeat intro _);show _=_;kernel_rfl)
noncomputable def kd_ (k:Nat):aK_ K TyK:=sm cod (Bool) [.bo, .bo] [.c (.l true .item), .c (.l true .item)] [] (g1_) k [.c (.b)] [] (fun r=>(r,())) (fun v1=>v1) true
noncomputable abbrev rE_:List (Nat×Cut K TyK (Bool)):=[(4,ct cod [0,1,5] [.c (.l true .item), .c (.l true .item), .c (.i .i64)] [] cN_)]
theorem pf_ (k:Nat):SummOk Tryz.prog cod 165 (kd_ k):=ar_ codOk Tryz.f165 (fun k=>ap_ [(172,lv_ k)]) rE_ false [.tmp 4] 0 [] aq_ Tryz.func165 (by kernel_rfl) (by kernel_rfl) (by kernel_rfl) (by kernel_rfl)
  (fun k=>Known.of ct_ cv_ codOk (all_cons (q8_ k) (aa_)))
  (fun k=>QuietOk.of (all_cons (fun h r=>⟨rfl,rfl⟩) (aa_)))
  (fun a=>rfl)
  (all_cons (an_ codOk (by kernel_rfl) (by (repeat intro _);show _=_;kernel_rfl) (fun k=>by (repeat intro _);show _=_;kernel_rfl)) (aa_))
  (fun k=>by (repeat intro _);show _=_;kernel_rfl)
noncomputable def mb_ (k:Nat):aK_ K TyK:=sm cod (Bool) [.bo, .bo] [.g [.i .i64, .l true .item], .g [.i .i64, .l true .item]] [] (fun k v1 v2 v3 v4=>hX_ k (⟨v1,v2⟩:am_) (⟨v3,v4⟩:am_)) k [.c (.b)] [] (fun r=>(r,())) (fun v1=>v1) true
theorem ra_ (k:Nat):SummOk Tryz.prog cod 151 (mb_ k):=ar_ codOk Tryz.f151 (fun k=>ap_ [(165,kd_ k)]) [] false [.tmp 4] 0 [] aq_ Tryz.func151 (by kernel_rfl) (by kernel_rfl) (by kernel_rfl) (by kernel_rfl)
  (fun k=>Known.of ct_ cv_ codOk (all_cons (pf_ k) (aa_)))
  (fun k=>QuietOk.of (all_cons (fun h r=>⟨rfl,rfl⟩) (aa_)))
  (fun a=>rfl)
  (aa_)
  (fun k=>by (repeat intro _);show _=_;kernel_rfl)
noncomputable def lG_ (k:Nat):aK_ K TyK:=sm cod (Bool) [.bo, .bo] [.g [.i .i64, .s, .b], .g [.i .i64, .s, .b]] [] (fun k v1 v2 v3 v4 v5 v6=>hJ_ k (⟨v1,(⟨v2,v3⟩:aA_)⟩:ai_) (⟨v4,(⟨v5,v6⟩:aA_)⟩:ai_)) k [.c (.b)] [] (fun r=>(r,())) (fun v1=>v1) true
theorem qZ_ (k:Nat):SummOk Tryz.prog cod 173 (lG_ k):=ar_ codOk Tryz.f173 (fun k=>ap_ [(176,h5_ k)]) [] false [.tmp 4] 0 [] aq_ Tryz.func173 (by kernel_rfl) (by kernel_rfl) (by kernel_rfl) (by kernel_rfl)
  (fun k=>Known.of ct_ cv_ codOk (all_cons (jZ_ k) (aa_)))
  (fun k=>QuietOk.of (all_cons (fun h r=>⟨rfl,rfl⟩) (aa_)))
  (fun a=>rfl)
  (aa_)
  (fun k=>by (repeat intro _);show _=_;kernel_rfl)
noncomputable def j4_ (k:Nat):aK_ K TyK:=sm cod (Bool) [.bo, .bo] [.c (.l true .held), .c (.l true .held)] [] (hb_) k [.c (.b)] [] (fun r=>(r,())) (fun v1=>v1) true
noncomputable abbrev q3_:List (Nat×Cut K TyK (Bool)):=[(4,ct cod [0,1,5] [.c (.l true .held), .c (.l true .held), .c (.i .i64)] [] cP_)]
theorem qR_ (k:Nat):SummOk Tryz.prog cod 166 (j4_ k):=ar_ codOk Tryz.f166 (fun k=>ap_ [(173,lG_ k)]) q3_ false [.tmp 4] 0 [] aq_ Tryz.func166 (by kernel_rfl) (by kernel_rfl) (by kernel_rfl) (by kernel_rfl)
  (fun k=>Known.of ct_ cv_ codOk (all_cons (qZ_ k) (aa_)))
  (fun k=>QuietOk.of (all_cons (fun h r=>⟨rfl,rfl⟩) (aa_)))
  (fun a=>rfl)
  (all_cons (an_ codOk (by kernel_rfl) (by (repeat intro _);show _=_;kernel_rfl) (fun k=>by (repeat intro _);show _=_;kernel_rfl)) (aa_))
  (fun k=>by (repeat intro _);show _=_;kernel_rfl)
noncomputable def iz_ (k:Nat):aK_ K TyK:=sm cod (Bool) [.bo, .bo] [.c (.l true .str), .c (.l true .str)] [] (fp_) k [.c (.b)] [] (fun r=>(r,())) (fun v1=>v1) true
noncomputable abbrev nW_:List (Nat×Cut K TyK (Bool)):=[(4,ct cod [0,1,5] [.c (.l true .str), .c (.l true .str), .c (.i .i64)] [] ca_)]
theorem mI_ (k:Nat):SummOk Tryz.prog cod 167 (iz_ k):=ar_ codOk Tryz.f167 (fun k=>ap_ []) nW_ false [.tmp 4] 0 [] aq_ Tryz.func167 (by kernel_rfl) (by kernel_rfl) (by kernel_rfl) (by kernel_rfl)
  (fun k=>Known.of ct_ cv_ codOk (aa_))
  (fun k=>QuietOk.of (aa_))
  (fun a=>rfl)
  (all_cons (an_ codOk (by kernel_rfl) (by (repeat intro _);show _=_;kernel_rfl) (fun k=>by (repeat intro _);show _=_;kernel_rfl)) (aa_))
  (fun k=>by (repeat intro _);show _=_;kernel_rfl)
noncomputable def lC_ (k:Nat):aK_ K TyK:=sm cod (Bool) [.bo, .bo] [.g [.i .i64, .l true .held, .s, .l true .str], .g [.i .i64, .l true .held, .s, .l true .str]] [] (fun k v1 v2 v3 v4 v5 v6 v7 v8=>ib_ k (⟨v1,v2,v3,v4⟩:al_) (⟨v5,v6,v7,v8⟩:al_)) k [.c (.b)] [] (fun r=>(r,())) (fun v1=>v1) true
theorem rj_ (k:Nat):SummOk Tryz.prog cod 152 (lC_ k):=ar_ codOk Tryz.f152 (fun k=>ap_ [(166,j4_ k),(167,iz_ k)]) [] false [.tmp 4] 0 [] aq_ Tryz.func152 (by kernel_rfl) (by kernel_rfl) (by kernel_rfl) (by kernel_rfl)
  (fun k=>Known.of ct_ cv_ codOk (all_cons (qR_ k) (all_cons (mI_ k) (aa_))))
  (fun k=>QuietOk.of (all_cons (fun h r=>⟨rfl,rfl⟩) (all_cons (fun h r=>⟨rfl,rfl⟩) (aa_))))
  (fun a=>rfl)
  (aa_)
  (fun k=>by (repeat intro _);show _=_;kernel_rfl)
noncomputable def nP_ (k:Nat):aK_ K TyK:=sm cod (Bool) [.bo, .bo] [.g [.i .i64, .b, .i .i64, .i .i64, .i .i64, .b, .i .i64, .l true .item, .i .i64, .l true .held, .s, .l true .str], .g [.i .i64, .b, .i .i64, .i .i64, .i .i64, .b, .i .i64, .l true .item, .i .i64, .l true .held, .s, .l true .str]] [] (fun k v1 v2 v3 v4 v5 v6 v7 v8 v9 v10 v11 v12 v13 v14 v15 v16 v17 v18 v19 v20 v21 v22 v23 v24=>jO_ k (⟨v1,v2,v3,v4,v5,v6,(⟨v7,v8⟩:am_),(⟨v9,v10,v11,v12⟩:al_)⟩:ao_) (⟨v13,v14,v15,v16,v17,v18,(⟨v19,v20⟩:am_),(⟨v21,v22,v23,v24⟩:al_)⟩:ao_)) k [.c (.b)] [] (fun r=>(r,())) (fun v1=>v1) true
theorem sK_ (k:Nat):SummOk Tryz.prog cod 108 (nP_ k):=ar_ codOk Tryz.f108 (fun k=>ap_ [(151,mb_ k),(152,lC_ k)]) [] false [.tmp 4] 0 [] aq_ Tryz.func108 (by kernel_rfl) (by kernel_rfl) (by kernel_rfl) (by kernel_rfl)
  (fun k=>Known.of ct_ cv_ codOk (all_cons (ra_ k) (all_cons (rj_ k) (aa_))))
  (fun k=>QuietOk.of (all_cons (fun h r=>⟨rfl,rfl⟩) (all_cons (fun h r=>⟨rfl,rfl⟩) (aa_))))
  (fun a=>rfl)
  (aa_)
  (fun k=>by (repeat intro _);show _=_;kernel_rfl)
noncomputable def lF_ (k:Nat):aK_ K TyK:=sm cod (Bool) [.bo, .bo] [.c (.l true .xend), .c (.l true .xend)] [] (hR_) k [.c (.b)] [] (fun r=>(r,())) (fun v1=>v1) true
noncomputable abbrev te_:List (Nat×Cut K TyK (Bool)):=[(4,ct cod [0,1,5] [.c (.l true .xend), .c (.l true .xend), .c (.i .i64)] [] dr_)]
theorem ri_ (k:Nat):SummOk Tryz.prog cod 64 (lF_ k):=ar_ codOk Tryz.f64 (fun k=>ap_ [(108,nP_ k)]) te_ false [.tmp 4] 0 [] aq_ Tryz.func64 (by kernel_rfl) (by kernel_rfl) (by kernel_rfl) (by kernel_rfl)
  (fun k=>Known.of ct_ cv_ codOk (all_cons (sK_ k) (aa_)))
  (fun k=>QuietOk.of (all_cons (fun h r=>⟨rfl,rfl⟩) (aa_)))
  (fun a=>rfl)
  (all_cons (an_ codOk (by kernel_rfl) (by (repeat intro _);show _=_;kernel_rfl) (fun k=>by (repeat intro _);show _=_;kernel_rfl)) (aa_))
  (fun k=>by (repeat intro _);show _=_;kernel_rfl)
noncomputable def jz_ (k:Nat):aK_ K TyK:=sm cod (Bool) [.bo, .bo] [.g [.i .i64, .s, .s], .g [.i .i64, .s, .s]] [] (fun k v1 v2 v3 v4 v5 v6=>gl_ k (⟨v1,v2,v3⟩:ac_) (⟨v4,v5,v6⟩:ac_)) k [.c (.b)] [] (fun r=>(r,())) (fun v1=>v1) true
theorem ob_ (k:Nat):SummOk Tryz.prog cod 109 (jz_ k):=ar_ codOk Tryz.f109 (fun k=>ap_ []) [] false [.tmp 4] 0 [] aq_ Tryz.func109 (by kernel_rfl) (by kernel_rfl) (by kernel_rfl) (by kernel_rfl)
  (fun k=>Known.of ct_ cv_ codOk (aa_))
  (fun k=>QuietOk.of (aa_))
  (fun a=>rfl)
  (aa_)
  (fun k=>by (repeat intro _);show _=_;kernel_rfl)
noncomputable def iG_ (k:Nat):aK_ K TyK:=sm cod (Bool) [.bo, .bo] [.c (.l true .parcel), .c (.l true .parcel)] [] (fy_) k [.c (.b)] [] (fun r=>(r,())) (fun v1=>v1) true
noncomputable abbrev oy_:List (Nat×Cut K TyK (Bool)):=[(4,ct cod [0,1,5] [.c (.l true .parcel), .c (.l true .parcel), .c (.i .i64)] [] ch_)]
theorem nf_ (k:Nat):SummOk Tryz.prog cod 65 (iG_ k):=ar_ codOk Tryz.f65 (fun k=>ap_ [(109,jz_ k)]) oy_ false [.tmp 4] 0 [] aq_ Tryz.func65 (by kernel_rfl) (by kernel_rfl) (by kernel_rfl) (by kernel_rfl)
  (fun k=>Known.of ct_ cv_ codOk (all_cons (ob_ k) (aa_)))
  (fun k=>QuietOk.of (all_cons (fun h r=>⟨rfl,rfl⟩) (aa_)))
  (fun a=>rfl)
  (all_cons (an_ codOk (by kernel_rfl) (by (repeat intro _);show _=_;kernel_rfl) (fun k=>by (repeat intro _);show _=_;kernel_rfl)) (aa_))
  (fun k=>by (repeat intro _);show _=_;kernel_rfl)
noncomputable def iW_ (k:Nat):aK_ K TyK:=sm cod (Bool) [.bo, .bo] [.g [.i .i64, .i .i64, .i .i64, .s], .g [.i .i64, .i .i64, .i .i64, .s]] [] (fun k v1 v2 v3 v4 v5 v6 v7 v8=>f5_ k (⟨v1,v2,v3,v4⟩:ab_) (⟨v5,v6,v7,v8⟩:ab_)) k [.c (.b)] [] (fun r=>(r,())) (fun v1=>v1) true
theorem n8_ (k:Nat):SummOk Tryz.prog cod 110 (iW_ k):=ar_ codOk Tryz.f110 (fun k=>ap_ []) [] false [.tmp 4] 0 [] aq_ Tryz.func110 (by kernel_rfl) (by kernel_rfl) (by kernel_rfl) (by kernel_rfl)
  (fun k=>Known.of ct_ cv_ codOk (aa_))
  (fun k=>QuietOk.of (aa_))
  (fun a=>rfl)
  (aa_)
  (fun k=>by (repeat intro _);show _=_;kernel_rfl)
noncomputable def iv_ (k:Nat):aK_ K TyK:=sm cod (Bool) [.bo, .bo] [.c (.l true .record), .c (.l true .record)] [] (ef_) k [.c (.b)] [] (fun r=>(r,())) (fun v1=>v1) true
noncomputable abbrev od_:List (Nat×Cut K TyK (Bool)):=[(4,ct cod [0,1,5] [.c (.l true .record), .c (.l true .record), .c (.i .i64)] [] cb_)]
theorem mR_ (k:Nat):SummOk Tryz.prog cod 66 (iv_ k):=ar_ codOk Tryz.f66 (fun k=>ap_ [(110,iW_ k)]) od_ false [.tmp 4] 0 [] aq_ Tryz.func66 (by kernel_rfl) (by kernel_rfl) (by kernel_rfl) (by kernel_rfl)
  (fun k=>Known.of ct_ cv_ codOk (all_cons (n8_ k) (aa_)))
  (fun k=>QuietOk.of (all_cons (fun h r=>⟨rfl,rfl⟩) (aa_)))
  (fun a=>rfl)
  (all_cons (an_ codOk (by kernel_rfl) (by (repeat intro _);show _=_;kernel_rfl) (fun k=>by (repeat intro _);show _=_;kernel_rfl)) (aa_))
  (fun k=>by (repeat intro _);show _=_;kernel_rfl)
noncomputable def kw_ (k:Nat):aK_ K TyK:=sm cod (Bool) [.bu, .bu] [.g [.s, .i .i64, .l true .xend, .l true .parcel, .s, .l true .record, .l true .record], .g [.s, .i .i64, .l true .xend, .l true .parcel, .s, .l true .record, .l true .record]] [] (fun k v1 v2 v3 v4 v5 v6 v7 v8 v9 v10 v11 v12 v13 v14=>dR_ k (⟨v1,v2,v3,v4,v5,v6,v7⟩:ae_) (⟨v8,v9,v10,v11,v12,v13,v14⟩:ae_)) k [.c (.b)] [] (fun r=>(r,())) (fun v1=>v1) true
theorem pi_ (k:Nat):SummOk Tryz.prog cod 21 (kw_ k):=ar_ codOk Tryz.f21 (fun k=>ap_ [(64,lF_ k),(65,iG_ k),(66,iv_ k)]) [] false [.tmp 4] 0 [] aq_ Tryz.func21 (by kernel_rfl) (by kernel_rfl) (by kernel_rfl) (by kernel_rfl)
  (fun k=>Known.of ct_ cv_ codOk (all_cons (ri_ k) (all_cons (nf_ k) (all_cons (mR_ k) (aa_)))))
  (fun k=>QuietOk.of (all_cons (fun h r=>⟨rfl,rfl⟩) (all_cons (fun h r=>⟨rfl,rfl⟩) (all_cons (fun h r=>⟨rfl,rfl⟩) (aa_)))))
  (fun a=>rfl)
  (aa_)
  (fun k=>by (repeat intro _);show _=_;kernel_rfl)
noncomputable def aT_ (k:Nat):aK_ K TyK:=sm cod (ByteArray) [.bo] [.c (.i .i64)] [] (aB_) k [.c (.s)] [] (fun r=>(r,())) (fun v1=>v1) true
noncomputable abbrev p3_:List (Nat×Cut K TyK (ByteArray)):=[(4,ct cod [0,3] [.c (.i .i64), .c (.s)] [] cB_)]
theorem aS_ (k:Nat):SummOk Tryz.prog cod 113 (aT_ k):=ar_ codOk Tryz.f113 (fun k=>ap_ []) p3_ false [.tmp 2] 0 [] aq_ Tryz.func113 (by kernel_rfl) (by kernel_rfl) (by kernel_rfl) (by kernel_rfl)
  (fun k=>Known.of ct_ cv_ codOk (aa_))
  (fun k=>QuietOk.of (aa_))
  (fun a=>rfl)
  (all_cons (an_ codOk (by kernel_rfl) (by (repeat intro _);show _=_;kernel_rfl) (fun k=>by (repeat intro _);show _=_;kernel_rfl)) (aa_))
  (fun k=>by (repeat intro _);show _=_;kernel_rfl)
noncomputable def im_ (k:Nat):aK_ K TyK:=sm cod (Int×List ah_) [.mv, .mv] [.c (.o 0), .c (.i .i64)] [.l .item] (fun k v1 v2=>ft_ k v2 v1) k [.c (.i .i64)] [.l .item] (fun r=>(r.1,r.2,())) (fun v1 v2=>(v1,v2)) false
noncomputable abbrev oB_:List (Nat×Cut K TyK (Int×List ah_)):=[(2,ct cod [0,1,5] [.c (.o 0), .c (.i .i64), .c (.i .i64)] [.l .item] bH_)]
theorem nc_ (k:Nat):SummOk Tryz.prog cod 111 (im_ k):=ar_ codOk Tryz.f111 (fun k=>ap_ [(113,aT_ k)]) oB_ false [.tmp 4] 1 [false] aq_ Tryz.func111 (by kernel_rfl) (by kernel_rfl) (by kernel_rfl) (by kernel_rfl)
  (fun k=>Known.of ct_ cv_ codOk (all_cons (aS_ k) (aa_)))
  (fun k=>QuietOk.of (all_cons (fun h r=>⟨rfl,rfl⟩) (aa_)))
  (fun a=>rfl)
  (all_cons (an_ codOk (by kernel_rfl) (by (repeat intro _);show _=_;kernel_rfl) (fun k=>by (repeat intro _);show _=_;kernel_rfl)) (aa_))
  (fun k=>by (repeat intro _);show _=_;kernel_rfl)
noncomputable def io_ (k:Nat):aK_ K TyK:=sm cod (Int×List ai_) [.mv, .mv] [.c (.o 0), .c (.i .i64)] [.l .held] (fun k v1 v2=>fq_ k v2 v1) k [.c (.i .i64)] [.l .held] (fun r=>(r.1,r.2,())) (fun v1 v2=>(v1,v2)) false
noncomputable abbrev n7_:List (Nat×Cut K TyK (Int×List ai_)):=[(2,ct cod [0,1,5] [.c (.o 0), .c (.i .i64), .c (.i .i64)] [.l .held] bE_)]
theorem m9_ (k:Nat):SummOk Tryz.prog cod 112 (io_ k):=ar_ codOk Tryz.f112 (fun k=>ap_ [(113,aT_ k)]) n7_ false [.tmp 4] 1 [false] aq_ Tryz.func112 (by kernel_rfl) (by kernel_rfl) (by kernel_rfl) (by kernel_rfl)
  (fun k=>Known.of ct_ cv_ codOk (all_cons (aS_ k) (aa_)))
  (fun k=>QuietOk.of (all_cons (fun h r=>⟨rfl,rfl⟩) (aa_)))
  (fun a=>rfl)
  (all_cons (an_ codOk (by kernel_rfl) (by (repeat intro _);show _=_;kernel_rfl) (fun k=>by (repeat intro _);show _=_;kernel_rfl)) (aa_))
  (fun k=>by (repeat intro _);show _=_;kernel_rfl)
noncomputable def gJ_ (k:Nat):aK_ K TyK:=sm cod (Int×List ByteArray) [.mv, .mv] [.c (.o 0), .c (.i .i64)] [.l .str] (fun k v1 v2=>et_ k v2 v1) k [.c (.i .i64)] [.l .str] (fun r=>(r.1,r.2,())) (fun v1 v2=>(v1,v2)) false
noncomputable abbrev lX_:List (Nat×Cut K TyK (Int×List ByteArray)):=[(2,ct cod [0,1,5] [.c (.o 0), .c (.i .i64), .c (.i .i64)] [.l .str] bj_)]
theorem kS_ (k:Nat):SummOk Tryz.prog cod 114 (gJ_ k):=ar_ codOk Tryz.f114 (fun k=>ap_ [(113,aT_ k)]) lX_ false [.tmp 4] 1 [false] aq_ Tryz.func114 (by kernel_rfl) (by kernel_rfl) (by kernel_rfl) (by kernel_rfl)
  (fun k=>Known.of ct_ cv_ codOk (all_cons (aS_ k) (aa_)))
  (fun k=>QuietOk.of (all_cons (fun h r=>⟨rfl,rfl⟩) (aa_)))
  (fun a=>rfl)
  (all_cons (an_ codOk (by kernel_rfl) (by (repeat intro _);show _=_;kernel_rfl) (fun k=>by (repeat intro _);show _=_;kernel_rfl)) (aa_))
  (fun k=>by (repeat intro _);show _=_;kernel_rfl)
noncomputable def iY_ (k:Nat):aK_ K TyK:=sm cod (Int×List ao_) [.mv, .mv] [.c (.w 0), .c (.i .i64)] [.w .xend] (fun k v1 v2=>gi_ k v2 v1) k [.c (.i .i64)] [.w .xend] (fun r=>(r.1,r.2,())) (fun v1 v2=>(v1,v2)) false
noncomputable abbrev qy_:List (Nat×Cut K TyK (Int×List ao_)):=[(2,ct cod [0,1,5] [.c (.w 0), .c (.i .i64), .c (.i .i64)] [.w .xend] bY_)]
theorem nT_ (k:Nat):SummOk Tryz.prog cod 67 (iY_ k):=ar_ codOk Tryz.f67 (fun k=>ap_ [(111,im_ k),(112,io_ k),(113,aT_ k),(114,gJ_ k)]) qy_ false [.tmp 4] 1 [false] aq_ Tryz.func67 (by kernel_rfl) (by kernel_rfl) (by kernel_rfl) (by kernel_rfl)
  (fun k=>Known.of ct_ cv_ codOk (all_cons (nc_ k) (all_cons (m9_ k) (all_cons (aS_ k) (all_cons (kS_ k) (aa_))))))
  (fun k=>QuietOk.of (all_cons (fun h r=>by cases h) (all_cons (fun h r=>by cases h) (all_cons (fun h r=>⟨rfl,rfl⟩) (all_cons (fun h r=>by cases h) (aa_))))))
  (fun a=>rfl)
  (all_cons (an_ codOk (by kernel_rfl) (by (repeat intro _);show _=_;kernel_rfl) (fun k=>by (repeat intro _);show _=_;kernel_rfl)) (aa_))
  (fun k=>by (repeat intro _);show _=_;kernel_rfl)
noncomputable def g0_ (k:Nat):aK_ K TyK:=sm cod (Int×List ac_) [.mv, .mv] [.c (.o 0), .c (.i .i64)] [.l .parcel] (fun k v1 v2=>ex_ k v2 v1) k [.c (.i .i64)] [.l .parcel] (fun r=>(r.1,r.2,())) (fun v1 v2=>(v1,v2)) false
noncomputable abbrev lk_:List (Nat×Cut K TyK (Int×List ac_)):=[(2,ct cod [0,1,5] [.c (.o 0), .c (.i .i64), .c (.i .i64)] [.l .parcel] bg_)]
theorem k2_ (k:Nat):SummOk Tryz.prog cod 68 (g0_ k):=ar_ codOk Tryz.f68 (fun k=>ap_ [(113,aT_ k)]) lk_ false [.tmp 4] 1 [false] aq_ Tryz.func68 (by kernel_rfl) (by kernel_rfl) (by kernel_rfl) (by kernel_rfl)
  (fun k=>Known.of ct_ cv_ codOk (all_cons (aS_ k) (aa_)))
  (fun k=>QuietOk.of (all_cons (fun h r=>⟨rfl,rfl⟩) (aa_)))
  (fun a=>rfl)
  (all_cons (an_ codOk (by kernel_rfl) (by (repeat intro _);show _=_;kernel_rfl) (fun k=>by (repeat intro _);show _=_;kernel_rfl)) (aa_))
  (fun k=>by (repeat intro _);show _=_;kernel_rfl)
noncomputable def g2_ (k:Nat):aK_ K TyK:=sm cod (Int×List ab_) [.mv, .mv] [.c (.o 0), .c (.i .i64)] [.l .record] (fun k v1 v2=>di_ k v2 v1) k [.c (.i .i64)] [.l .record] (fun r=>(r.1,r.2,())) (fun v1 v2=>(v1,v2)) false
noncomputable abbrev lr_:List (Nat×Cut K TyK (Int×List ab_)):=[(2,ct cod [0,1,5] [.c (.o 0), .c (.i .i64), .c (.i .i64)] [.l .record] bm_)]
theorem k4_ (k:Nat):SummOk Tryz.prog cod 69 (g2_ k):=ar_ codOk Tryz.f69 (fun k=>ap_ [(113,aT_ k)]) lr_ false [.tmp 4] 1 [false] aq_ Tryz.func69 (by kernel_rfl) (by kernel_rfl) (by kernel_rfl) (by kernel_rfl)
  (fun k=>Known.of ct_ cv_ codOk (all_cons (aS_ k) (aa_)))
  (fun k=>QuietOk.of (all_cons (fun h r=>⟨rfl,rfl⟩) (aa_)))
  (fun a=>rfl)
  (all_cons (an_ codOk (by kernel_rfl) (by (repeat intro _);show _=_;kernel_rfl) (fun k=>by (repeat intro _);show _=_;kernel_rfl)) (aa_))
  (fun k=>by (repeat intro _);show _=_;kernel_rfl)
noncomputable def in_ (k:Nat):aK_ K TyK:=sm cod (Int×List ao_×List ac_×List ab_×List ab_) [.mv, .mv] [.g [.s, .i .i64, .w 0, .o 1, .s, .o 2, .o 3], .c (.i .i64)] [.w .xend, .l .parcel, .l .record, .l .record] (fun k v1 v2 v3 v4 v5 v6 v7 v8=>eb_ k (⟨v1,v2,v5,v6,v3,v7,v8⟩:ae_) v4) k [.c (.i .i64)] [.w .xend, .l .parcel, .l .record, .l .record] (fun r=>(r.1,r.2.1,r.2.2.1,r.2.2.2.1,r.2.2.2.2,())) (fun v1 v2 v3 v4 v5=>(v1,v2,v3,v4,v5)) false
theorem mz_ (k:Nat):SummOk Tryz.prog cod 22 (in_ k):=ar_ codOk Tryz.f22 (fun k=>ap_ [(67,iY_ k),(68,g0_ k),(69,g2_ k)]) [] false [.tmp 4] 4 [false,false,false,false] aq_ Tryz.func22 (by kernel_rfl) (by kernel_rfl) (by kernel_rfl) (by kernel_rfl)
  (fun k=>Known.of ct_ cv_ codOk (all_cons (nT_ k) (all_cons (k2_ k) (all_cons (k4_ k) (aa_)))))
  (fun k=>QuietOk.of (all_cons (fun h r=>by cases h) (all_cons (fun h r=>by cases h) (all_cons (fun h r=>by cases h) (aa_)))))
  (fun a=>rfl)
  (aa_)
  (fun k=>by (repeat intro _);show _=_;kernel_rfl)
noncomputable def iw_ (k:Nat):aK_ K TyK:=sm cod (Int) [.bo, .bo] [.c (.l true .item), .c (.i .i64)] [] (fA_) k [.c (.i .i64)] [] (fun r=>(r,())) (fun v1=>v1) true
noncomputable abbrev oj_:List (Nat×Cut K TyK (Int)):=[(2,ct cod [0,1,5] [.c (.l true .item), .c (.i .i64), .c (.i .i64)] [] bG_)]
theorem mZ_ (k:Nat):SummOk Tryz.prog cod 115 (iw_ k):=ar_ codOk Tryz.f115 (fun k=>ap_ [(113,aT_ k)]) oj_ false [.tmp 4] 0 [] aq_ Tryz.func115 (by kernel_rfl) (by kernel_rfl) (by kernel_rfl) (by kernel_rfl)
  (fun k=>Known.of ct_ cv_ codOk (all_cons (aS_ k) (aa_)))
  (fun k=>QuietOk.of (all_cons (fun h r=>⟨rfl,rfl⟩) (aa_)))
  (fun a=>rfl)
  (all_cons (an_ codOk (by kernel_rfl) (by (repeat intro _);show _=_;kernel_rfl) (fun k=>by (repeat intro _);show _=_;kernel_rfl)) (aa_))
  (fun k=>by (repeat intro _);show _=_;kernel_rfl)
noncomputable def iq_ (k:Nat):aK_ K TyK:=sm cod (Int) [.bo, .bo] [.c (.l true .held), .c (.i .i64)] [] (fx_) k [.c (.i .i64)] [] (fun r=>(r,())) (fun v1=>v1) true
noncomputable abbrev oc_:List (Nat×Cut K TyK (Int)):=[(2,ct cod [0,1,5] [.c (.l true .held), .c (.i .i64), .c (.i .i64)] [] bA_)]
theorem nd_ (k:Nat):SummOk Tryz.prog cod 116 (iq_ k):=ar_ codOk Tryz.f116 (fun k=>ap_ [(113,aT_ k)]) oc_ false [.tmp 4] 0 [] aq_ Tryz.func116 (by kernel_rfl) (by kernel_rfl) (by kernel_rfl) (by kernel_rfl)
  (fun k=>Known.of ct_ cv_ codOk (all_cons (aS_ k) (aa_)))
  (fun k=>QuietOk.of (all_cons (fun h r=>⟨rfl,rfl⟩) (aa_)))
  (fun a=>rfl)
  (all_cons (an_ codOk (by kernel_rfl) (by (repeat intro _);show _=_;kernel_rfl) (fun k=>by (repeat intro _);show _=_;kernel_rfl)) (aa_))
  (fun k=>by (repeat intro _);show _=_;kernel_rfl)
noncomputable def g7_ (k:Nat):aK_ K TyK:=sm cod (Int) [.bo, .bo] [.c (.l true .str), .c (.i .i64)] [] (eq_) k [.c (.i .i64)] [] (fun r=>(r,())) (fun v1=>v1) true
noncomputable abbrev mt_:List (Nat×Cut K TyK (Int)):=[(2,ct cod [0,1,5] [.c (.l true .str), .c (.i .i64), .c (.i .i64)] [] bh_)]
theorem kB_ (k:Nat):SummOk Tryz.prog cod 117 (g7_ k):=ar_ codOk Tryz.f117 (fun k=>ap_ [(113,aT_ k)]) mt_ false [.tmp 4] 0 [] aq_ Tryz.func117 (by kernel_rfl) (by kernel_rfl) (by kernel_rfl) (by kernel_rfl)
  (fun k=>Known.of ct_ cv_ codOk (all_cons (aS_ k) (aa_)))
  (fun k=>QuietOk.of (all_cons (fun h r=>⟨rfl,rfl⟩) (aa_)))
  (fun a=>rfl)
  (all_cons (an_ codOk (by kernel_rfl) (by (repeat intro _);show _=_;kernel_rfl) (fun k=>by (repeat intro _);show _=_;kernel_rfl)) (aa_))
  (fun k=>by (repeat intro _);show _=_;kernel_rfl)
noncomputable def i4_ (k:Nat):aK_ K TyK:=sm cod (Int) [.bo, .bo] [.c (.l true .xend), .c (.i .i64)] [] (gd_) k [.c (.i .i64)] [] (fun r=>(r,())) (fun v1=>v1) true
noncomputable abbrev pa_:List (Nat×Cut K TyK (Int)):=[(2,ct cod [0,1,5] [.c (.l true .xend), .c (.i .i64), .c (.i .i64)] [] b3_)]
theorem nY_ (k:Nat):SummOk Tryz.prog cod 70 (i4_ k):=ar_ codOk Tryz.f70 (fun k=>ap_ [(115,iw_ k),(116,iq_ k),(113,aT_ k),(117,g7_ k)]) pa_ false [.tmp 4] 0 [] aq_ Tryz.func70 (by kernel_rfl) (by kernel_rfl) (by kernel_rfl) (by kernel_rfl)
  (fun k=>Known.of ct_ cv_ codOk (all_cons (mZ_ k) (all_cons (nd_ k) (all_cons (aS_ k) (all_cons (kB_ k) (aa_))))))
  (fun k=>QuietOk.of (all_cons (fun h r=>⟨rfl,rfl⟩) (all_cons (fun h r=>⟨rfl,rfl⟩) (all_cons (fun h r=>⟨rfl,rfl⟩) (all_cons (fun h r=>⟨rfl,rfl⟩) (aa_))))))
  (fun a=>rfl)
  (all_cons (an_ codOk (by kernel_rfl) (by (repeat intro _);show _=_;kernel_rfl) (fun k=>by (repeat intro _);show _=_;kernel_rfl)) (aa_))
  (fun k=>by (repeat intro _);show _=_;kernel_rfl)
noncomputable def g9_ (k:Nat):aK_ K TyK:=sm cod (Int) [.bo, .bo] [.c (.l true .parcel), .c (.i .i64)] [] (ev_) k [.c (.i .i64)] [] (fun r=>(r,())) (fun v1=>v1) true
noncomputable abbrev mf_:List (Nat×Cut K TyK (Int)):=[(2,ct cod [0,1,5] [.c (.l true .parcel), .c (.i .i64), .c (.i .i64)] [] bk_)]
theorem k6_ (k:Nat):SummOk Tryz.prog cod 71 (g9_ k):=ar_ codOk Tryz.f71 (fun k=>ap_ [(113,aT_ k)]) mf_ false [.tmp 4] 0 [] aq_ Tryz.func71 (by kernel_rfl) (by kernel_rfl) (by kernel_rfl) (by kernel_rfl)
  (fun k=>Known.of ct_ cv_ codOk (all_cons (aS_ k) (aa_)))
  (fun k=>QuietOk.of (all_cons (fun h r=>⟨rfl,rfl⟩) (aa_)))
  (fun a=>rfl)
  (all_cons (an_ codOk (by kernel_rfl) (by (repeat intro _);show _=_;kernel_rfl) (fun k=>by (repeat intro _);show _=_;kernel_rfl)) (aa_))
  (fun k=>by (repeat intro _);show _=_;kernel_rfl)
noncomputable def gZ_ (k:Nat):aK_ K TyK:=sm cod (Int) [.bo, .bo] [.c (.l true .record), .c (.i .i64)] [] (dl_) k [.c (.i .i64)] [] (fun r=>(r,())) (fun v1=>v1) true
noncomputable abbrev lw_:List (Nat×Cut K TyK (Int)):=[(2,ct cod [0,1,5] [.c (.l true .record), .c (.i .i64), .c (.i .i64)] [] bl_)]
theorem kX_ (k:Nat):SummOk Tryz.prog cod 72 (gZ_ k):=ar_ codOk Tryz.f72 (fun k=>ap_ [(113,aT_ k)]) lw_ false [.tmp 4] 0 [] aq_ Tryz.func72 (by kernel_rfl) (by kernel_rfl) (by kernel_rfl) (by kernel_rfl)
  (fun k=>Known.of ct_ cv_ codOk (all_cons (aS_ k) (aa_)))
  (fun k=>QuietOk.of (all_cons (fun h r=>⟨rfl,rfl⟩) (aa_)))
  (fun a=>rfl)
  (all_cons (an_ codOk (by kernel_rfl) (by (repeat intro _);show _=_;kernel_rfl) (fun k=>by (repeat intro _);show _=_;kernel_rfl)) (aa_))
  (fun k=>by (repeat intro _);show _=_;kernel_rfl)
noncomputable def iy_ (k:Nat):aK_ K TyK:=sm cod (Int) [.bo, .bo] [.g [.s, .i .i64, .l true .xend, .l true .parcel, .s, .l true .record, .l true .record], .c (.i .i64)] [] (fun k v1 v2 v3 v4 v5 v6 v7 v8=>ea_ k (⟨v1,v2,v3,v4,v5,v6,v7⟩:ae_) v8) k [.c (.i .i64)] [] (fun r=>(r,())) (fun v1=>v1) true
theorem mP_ (k:Nat):SummOk Tryz.prog cod 23 (iy_ k):=ar_ codOk Tryz.f23 (fun k=>ap_ [(70,i4_ k),(71,g9_ k),(72,gZ_ k)]) [] false [.tmp 4] 0 [] aq_ Tryz.func23 (by kernel_rfl) (by kernel_rfl) (by kernel_rfl) (by kernel_rfl)
  (fun k=>Known.of ct_ cv_ codOk (all_cons (nY_ k) (all_cons (k6_ k) (all_cons (kX_ k) (aa_)))))
  (fun k=>QuietOk.of (all_cons (fun h r=>⟨rfl,rfl⟩) (all_cons (fun h r=>⟨rfl,rfl⟩) (all_cons (fun h r=>⟨rfl,rfl⟩) (aa_)))))
  (fun a=>rfl)
  (aa_)
  (fun k=>by (repeat intro _);show _=_;kernel_rfl)
noncomputable def l4_ (k:Nat):aK_ K TyK:=sm cod (Bool) [.pe, .pe, .pe] [.g [.s, .i .i64, .l false .end, .l false .parcel, .s, .l false .record, .l false .record], .c (.i .i64), .c (.i .i64)] [] (fun k v1 v2 v3 v4 v5 v6 v7 v8 v9=>fP_ k (⟨v1,v2,v3,v4,v5,v6,v7⟩:ae_) v8 v9) k [.c (.b)] [] (fun r=>(r,())) (fun v1=>v1) true
theorem ok_laws_FnExactCalm (k:Nat):SummOk Tryz.prog cod 4 (l4_ k):=ar_ codOk Tryz.f4 (fun k=>ap_ [(17,kg_ k),(19,j1_ k),(18,qJ_ k),(20,qj_ k),(21,kw_ k),(22,in_ k),(23,iy_ k)]) [] false [.tmp 6] 0 [] aq_ Tryz.func4 (by kernel_rfl) (by kernel_rfl) (by kernel_rfl) (by kernel_rfl)
  (fun k=>Known.of ct_ cv_ codOk (all_cons (qt_ k) (all_cons (qz_ k) (all_cons (uq_ k) (all_cons (tN_ k) (all_cons (pi_ k) (all_cons (mz_ k) (all_cons (mP_ k) (aa_)))))))))
  (fun k=>QuietOk.of (all_cons (fun h r=>⟨rfl,rfl⟩) (all_cons (fun h r=>by cases h) (all_cons (fun h r=>by cases h) (all_cons (fun h r=>by cases h) (all_cons (fun h r=>⟨rfl,rfl⟩) (all_cons (fun h r=>by cases h) (all_cons (fun h r=>⟨rfl,rfl⟩) (aa_)))))))))
  (fun a=>rfl)
  (aa_)
  (fun k=>by (repeat intro _);show _=_;kernel_rfl)
end Km.X
