/- A part of the proof of FnExactDo: each function does what its reading says. There is no condition. -/
import Derived.Test.YtgffmpjadffjkaaGreatKmSeat
import Derived.Test.YtgffmpjadffjkaaGreatKxDef2
namespace Km.X
open Go Km Go.Proofs
set_option linter.unusedVariables false
set_option maxRecDepth 100000
set_option maxHeartbeats 4000000
noncomputable def bM_ (k:Nat):aK_ K TyK:=sm cod (Bool) [.bo, .bo, .bo] [.c (.i .i64), .c (.i .i64), .c (.i .i64)] [] (aF_) k [.c (.b)] [] (fun r=>(r,())) (fun v1=>v1) true
theorem bB_ (k:Nat):SummOk Tryz.prog cod 28 (bM_ k):=aw_ codOk Tryz.f28 (fun k=>ap_ []) [] false [.tmp 6] 0 [] av_ Tryz.func28 (by kernel_rfl) (by kernel_rfl) (by kernel_rfl) (by kernel_rfl)
  (fun k=>Known.of tok eok codOk (aa_))
  (fun k=>QuietOk.of (aa_))
  (fun a=>rfl)
  (aa_)
  (fun k=>by (repeat intro _);show _=_;kernel_rfl)
noncomputable def ml_ (k:Nat):aK_ K TyK:=sm cod (Int) [.bo] [.c (.s)] [] (fg_) k [.c (.i .i64)] [] (fun r=>(r,())) (fun v1=>v1) true
noncomputable abbrev sO_:List (Nat×Cut K TyK (Int)):=[(3,ct cod [0,3,4] [.c (.s), .c (.i .i64), .c (.i .i64)] [] dx_)]
theorem rI_ (k:Nat):SummOk Tryz.prog cod 77 (ml_ k):=aw_ codOk Tryz.f77 (fun k=>ap_ []) sO_ false [.tmp 2] 0 [] av_ Tryz.func77 (by kernel_rfl) (by kernel_rfl) (by kernel_rfl) (by kernel_rfl)
  (fun k=>Known.of tok eok codOk (aa_))
  (fun k=>QuietOk.of (aa_))
  (fun a=>rfl)
  (all_cons (aq_ codOk (by kernel_rfl) (by (repeat intro _);show _=_;kernel_rfl) (fun k=>by (repeat intro _);show _=_;kernel_rfl)) (aa_))
  (fun k=>by (repeat intro _);show _=_;kernel_rfl)
noncomputable def kW_ (k:Nat):aK_ K TyK:=sm cod (Bool) [.bo] [.g [.i .i64, .i .i64, .i .i64, .i .i64, .i .i64, .i .i64, .i .i64, .b, .s]] [] (fun k v1 v2 v3 v4 v5 v6 v7 v8 v9=>fA_ k (⟨v1,v2,v3,v4,v5,v6,v7,v8,v9⟩:ad_)) k [.c (.b)] [] (fun r=>(r,())) (fun v1=>v1) true
theorem nt_ (k:Nat):SummOk Tryz.prog cod 118 (kW_ k):=aw_ codOk Tryz.f118 (fun k=>ap_ [(28,bM_ k)]) [] false [.tmp 2] 0 [] av_ Tryz.func118 (by kernel_rfl) (by kernel_rfl) (by kernel_rfl) (by kernel_rfl)
  (fun k=>Known.of tok eok codOk (all_cons (bB_ k) (aa_)))
  (fun k=>QuietOk.of (all_cons (fun h r=>⟨rfl,rfl⟩) (aa_)))
  (fun a=>rfl)
  (aa_)
  (fun k=>by (repeat intro _);show _=_;kernel_rfl)
noncomputable def iQ_ (k:Nat):aK_ K TyK:=sm cod (ByteArray) [.bo, .bo] [.c (.i .i64), .c (.i .i64)] [] (bQ_) k [.c (.s)] [] (fun r=>(r,())) (fun v1=>v1) true
noncomputable abbrev po_:List (Nat×Cut K TyK (ByteArray)):=[(3,ct cod [0,1,5,6] [.c (.i .i64), .c (.i .i64), .c (.s), .c (.i .i64)] [] cJ_)]
theorem oH_ (k:Nat):SummOk Tryz.prog cod 153 (iQ_ k):=aw_ codOk Tryz.f153 (fun k=>ap_ []) po_ false [.tmp 4] 0 [] av_ Tryz.func153 (by kernel_rfl) (by kernel_rfl) (by kernel_rfl) (by kernel_rfl)
  (fun k=>Known.of tok eok codOk (aa_))
  (fun k=>QuietOk.of (aa_))
  (fun a=>rfl)
  (all_cons (aq_ codOk (by kernel_rfl) (by (repeat intro _);show _=_;kernel_rfl) (fun k=>by (repeat intro _);show _=_;kernel_rfl)) (aa_))
  (fun k=>by (repeat intro _);show _=_;kernel_rfl)
noncomputable def lT_ (k:Nat):aK_ K TyK:=sm cod (ByteArray) [.bo] [.g [.i .i64, .i .i64, .i .i64, .i .i64, .i .i64, .i .i64, .i .i64, .b, .s]] [] (fun k v1 v2 v3 v4 v5 v6 v7 v8 v9=>gn_ k (⟨v1,v2,v3,v4,v5,v6,v7,v8,v9⟩:ad_)) k [.c (.s)] [] (fun r=>(r,())) (fun v1=>v1) true
noncomputable abbrev tl_:List (Nat×Cut K TyK (ByteArray)):=[(7,ct cod [1,3,4] [.c (.r 0 0), .c (.s), .c (.i .i64)] [.x [.i .i64, .i .i64, .i .i64, .i .i64, .i .i64, .i .i64, .i .i64, .b, .s]] ej_)]
theorem ri_ (k:Nat):SummOk Tryz.prog cod 120 (lT_ k):=aw_ codOk Tryz.f120 (fun k=>ap_ [(153,iQ_ k)]) tl_ false [.tmp 2] 0 [] av_ Tryz.func120 (by kernel_rfl) (by kernel_rfl) (by kernel_rfl) (by kernel_rfl)
  (fun k=>Known.of tok eok codOk (all_cons (oH_ k) (aa_)))
  (fun k=>QuietOk.of (all_cons (fun h r=>⟨rfl,rfl⟩) (aa_)))
  (fun a=>rfl)
  (all_cons (aq_ codOk (by kernel_rfl) (by (repeat intro _);show _=_;kernel_rfl) (fun k=>by (repeat intro _);show _=_;kernel_rfl)) (aa_))
  (fun k=>by (repeat intro _);show _=_;kernel_rfl)
noncomputable def sg_ (k:Nat):aK_ K TyK:=sm cod (ByteArray) [.bo, .bo, .bo] [.c (.s), .c (.s), .c (.i .i64)] [] (o2_) k [.c (.s)] [] (fun r=>(r,())) (fun v1=>v1) true
noncomputable abbrev xP_:List (Nat×Cut K TyK (ByteArray)):=[(6,ct cod [2,7,8,9] [.c (.i .i64), .c (.s), .c (.i .u64), .c (.i .i64)] [] e7_),
  (11,ct cod [2,8,10,11] [.c (.i .i64), .c (.i .u64), .c (.s), .c (.i .i64)] [] eF_)]
theorem vM_ (k:Nat):SummOk Tryz.prog cod 119 (sg_ k):=aw_ codOk Tryz.f119 (fun k=>ap_ [(28,bM_ k)]) xP_ false [.tmp 6] 0 [] av_ Tryz.func119 (by kernel_rfl) (by kernel_rfl) (by kernel_rfl) (by kernel_rfl)
  (fun k=>Known.of tok eok codOk (all_cons (bB_ k) (aa_)))
  (fun k=>QuietOk.of (all_cons (fun h r=>⟨rfl,rfl⟩) (aa_)))
  (fun a=>rfl)
  (all_cons (aq_ codOk (by kernel_rfl) (by (repeat intro _);show _=_;kernel_rfl) (fun k=>by (repeat intro _);show _=_;kernel_rfl)) (all_cons (aq_ codOk (by kernel_rfl) (by (repeat intro _);show _=_;kernel_rfl) (fun k=>by (repeat intro _);show _=_;kernel_rfl)) (aa_)))
  (fun k=>by (repeat intro _);show _=_;kernel_rfl)
noncomputable def e9_ (k:Nat):aK_ K TyK:=sm cod (ByteArray) [.bo, .bo, .bo] [.g [.i .i64, .i .i64, .i .i64, .i .i64, .i .i64, .i .i64, .i .i64, .b, .s], .c (.s), .c (.i .i64)] [] (fun k v1 v2 v3 v4 v5 v6 v7 v8 v9 v10 v11=>c6_ k (⟨v1,v2,v3,v4,v5,v6,v7,v8,v9⟩:ad_) v10 v11) k [.c (.s)] [] (fun r=>(r,())) (fun v1=>v1) true
theorem gF_ (k:Nat):SummOk Tryz.prog cod 78 (e9_ k):=aw_ codOk Tryz.f78 (fun k=>ap_ [(118,kW_ k),(28,bM_ k),(120,lT_ k),(119,sg_ k)]) [] false [.tmp 6] 0 [] av_ Tryz.func78 (by kernel_rfl) (by kernel_rfl) (by kernel_rfl) (by kernel_rfl)
  (fun k=>Known.of tok eok codOk (all_cons (nt_ k) (all_cons (bB_ k) (all_cons (ri_ k) (all_cons (vM_ k) (aa_))))))
  (fun k=>QuietOk.of (all_cons (fun h r=>⟨rfl,rfl⟩) (all_cons (fun h r=>⟨rfl,rfl⟩) (all_cons (fun h r=>⟨rfl,rfl⟩) (all_cons (fun h r=>⟨rfl,rfl⟩) (aa_))))))
  (fun a=>rfl)
  (aa_)
  (fun k=>by (repeat intro _);show _=_;kernel_rfl)
noncomputable def hq_ (k:Nat):aK_ K TyK:=sm cod (ad_×Bool) [.bo, .bo, .bo] [.c (.s), .c (.s), .c (.i .i64)] [] (eY_) k [.g [.i .i64, .i .i64, .i .i64, .i .i64, .i .i64, .i .i64, .i .i64, .b, .s], .c (.b)] [] (fun r=>(r.1.Kind,r.1.From,r.1.Mine,r.1.Yours,r.1.Next,r.1.Mask,r.1.Seq,r.1.Last,r.1.Part,r.2,())) (fun v1 v2 v3 v4 v5 v6 v7 v8 v9 v10=>((⟨v1,v2,v3,v4,v5,v6,v7,v8,v9⟩:ad_),v10)) true
noncomputable abbrev mW_:List (Nat×Cut K TyK (ad_×Bool)):=[(11,ct cod [0,1,2,6,9] [.c (.s), .c (.s), .c (.i .i64), .c (.r 0 0), .c (.r 1 0)] [.x [.i .i64, .i .i64, .i .i64, .i .i64, .i .i64, .i .i64, .i .i64, .b, .s], .x [.i .i64, .i .i64, .i .i64, .i .i64, .i .i64, .i .i64, .i .i64, .b, .s]] cD_)]
theorem mt_ (k:Nat):SummOk Tryz.prog cod 33 (hq_ k):=aw_ codOk Tryz.f33 (fun k=>ap_ [(28,bM_ k),(77,ml_ k),(78,e9_ k)]) mW_ false [.cell 6 75, .tmp 7] 0 [] av_ Tryz.func33 (by kernel_rfl) (by kernel_rfl) (by kernel_rfl) (by kernel_rfl)
  (fun k=>Known.of tok eok codOk (all_cons (bB_ k) (all_cons (rI_ k) (all_cons (gF_ k) (aa_)))))
  (fun k=>QuietOk.of (all_cons (fun h r=>⟨rfl,rfl⟩) (all_cons (fun h r=>⟨rfl,rfl⟩) (all_cons (fun h r=>⟨rfl,rfl⟩) (aa_)))))
  (fun a=>rfl)
  (all_cons (aq_ codOk (by kernel_rfl) (by (repeat intro _);show _=_;kernel_rfl) (fun k=>by (repeat intro _);show _=_;kernel_rfl)) (aa_))
  (fun k=>by (repeat intro _);show _=_;kernel_rfl)
noncomputable def fB_ (k:Nat):aK_ K TyK:=sm cod (Bool) [.bo, .bo, .bo] [.c (.i .i64), .c (.i .i64), .c (.i .i64)] [] (aX_) k [.c (.b)] [] (fun r=>(r,())) (fun v1=>v1) true
theorem fh_ (k:Nat):SummOk Tryz.prog cod 80 (fB_ k):=aw_ codOk Tryz.f80 (fun k=>ap_ []) [] false [.tmp 6] 0 [] av_ Tryz.func80 (by kernel_rfl) (by kernel_rfl) (by kernel_rfl) (by kernel_rfl)
  (fun k=>Known.of cj_ ci_ codOk (aa_))
  (fun k=>QuietOk.of (aa_))
  (fun a=>rfl)
  (aa_)
  (fun k=>by (repeat intro _);show _=_;kernel_rfl)
noncomputable def dv_ (k:Nat):aK_ K TyK:=sm cod (Bool) [.bo] [.g [.i .i64, .l true .item]] [] (fun k v1 v2=>bf_ k (⟨v1,v2⟩:al_)) k [.c (.b)] [] (fun r=>(r,())) (fun v1=>v1) true
noncomputable abbrev oB_:List (Nat×Cut K TyK (Bool)):=[(4,ct cod [25,26,27] [.c (.l true .item), .c (.i .i64), .c (.i .i64)] [] bv_)]
theorem dZ_ (k:Nat):SummOk Tryz.prog cod 121 (dv_ k):=aw_ codOk Tryz.f121 (fun k=>ap_ [(80,fB_ k)]) oB_ false [.tmp 2] 0 [] av_ Tryz.func121 (by kernel_rfl) (by kernel_rfl) (by kernel_rfl) (by kernel_rfl)
  (fun k=>Known.of cj_ ci_ codOk (all_cons (fh_ k) (aa_)))
  (fun k=>QuietOk.of (all_cons (fun h r=>⟨rfl,rfl⟩) (aa_)))
  (fun a=>rfl)
  (all_cons (aq_ codOk (by kernel_rfl) (by (repeat intro _);show _=_;kernel_rfl) (fun k=>by (repeat intro _);show _=_;kernel_rfl)) (aa_))
  (fun k=>by (repeat intro _);show _=_;kernel_rfl)
noncomputable def k2_ (k:Nat):aK_ K TyK:=sm cod (Bool) [.bo, .bo] [.g [.i .i64, .l true .held, .s, .l true .str], .g [.s, .b]] [] (fun k v1 v2 v3 v4 v5 v6=>gk_ k (⟨v1,v2,v3,v4⟩:ak_) (⟨v5,v6⟩:aE_)) k [.c (.b)] [] (fun r=>(r,())) (fun v1=>v1) true
theorem nI_ (k:Nat):SummOk Tryz.prog cod 154 (k2_ k):=aw_ codOk Tryz.f154 (fun k=>ap_ []) [] false [.tmp 4] 0 [] av_ Tryz.func154 (by kernel_rfl) (by kernel_rfl) (by kernel_rfl) (by kernel_rfl)
  (fun k=>Known.of cj_ ci_ codOk (aa_))
  (fun k=>QuietOk.of (aa_))
  (fun a=>rfl)
  (aa_)
  (fun k=>by (repeat intro _);show _=_;kernel_rfl)
noncomputable def dt_ (k:Nat):aK_ K TyK:=sm cod (Bool) [.bo] [.g [.i .i64, .l true .held, .s, .l true .str]] [] (fun k v1 v2 v3 v4=>bU_ k (⟨v1,v2,v3,v4⟩:ak_)) k [.c (.b)] [] (fun r=>(r,())) (fun v1=>v1) true
noncomputable abbrev oj_:List (Nat×Cut K TyK (Bool)):=[(4,ct cod [1,30,31,32] [.c (.r 0 0), .c (.l true .held), .c (.i .i64), .c (.i .i64)] [.x [.i .i64, .l true .held, .s, .l true .str]] aQ_),
  (12,ct cod [88,89,90] [.c (.l true .str), .c (.i .i64), .c (.i .i64)] [] b2_)]
theorem d2_ (k:Nat):SummOk Tryz.prog cod 122 (dt_ k):=aw_ codOk Tryz.f122 (fun k=>ap_ [(80,fB_ k),(154,k2_ k)]) oj_ false [.tmp 2] 0 [] av_ Tryz.func122 (by kernel_rfl) (by kernel_rfl) (by kernel_rfl) (by kernel_rfl)
  (fun k=>Known.of cj_ ci_ codOk (all_cons (fh_ k) (all_cons (nI_ k) (aa_))))
  (fun k=>QuietOk.of (all_cons (fun h r=>⟨rfl,rfl⟩) (all_cons (fun h r=>⟨rfl,rfl⟩) (aa_))))
  (fun a=>rfl)
  (all_cons (aq_ codOk (by kernel_rfl) (by (repeat intro _);show _=_;kernel_rfl) (fun k=>by (repeat intro _);show _=_;kernel_rfl)) (all_cons (aq_ codOk (by kernel_rfl) (by (repeat intro _);show _=_;kernel_rfl) (fun k=>by (repeat intro _);show _=_;kernel_rfl)) (aa_)))
  (fun k=>by (repeat intro _);show _=_;kernel_rfl)
noncomputable def mu_ (k:Nat):aK_ K TyK:=sm cod (Bool) [.bo] [.g [.i .i64, .l true .item]] [] (fun k v1 v2=>ic_ k (⟨v1,v2⟩:al_)) k [.c (.b)] [] (fun r=>(r,())) (fun v1=>v1) true
theorem q6_ (k:Nat):SummOk Tryz.prog cod 123 (mu_ k):=aw_ codOk Tryz.f123 (fun k=>ap_ []) [] false [.tmp 2] 0 [] av_ Tryz.func123 (by kernel_rfl) (by kernel_rfl) (by kernel_rfl) (by kernel_rfl)
  (fun k=>Known.of cj_ ci_ codOk (aa_))
  (fun k=>QuietOk.of (aa_))
  (fun a=>rfl)
  (aa_)
  (fun k=>by (repeat intro _);show _=_;kernel_rfl)
noncomputable def lV_ (k:Nat):aK_ K TyK:=sm cod (Bool) [.bo] [.g [.i .i64, .l true .held, .s, .l true .str]] [] (fun k v1 v2 v3 v4=>h2_ k (⟨v1,v2,v3,v4⟩:ak_)) k [.c (.b)] [] (fun r=>(r,())) (fun v1=>v1) true
theorem rG_ (k:Nat):SummOk Tryz.prog cod 124 (lV_ k):=aw_ codOk Tryz.f124 (fun k=>ap_ []) [] false [.tmp 2] 0 [] av_ Tryz.func124 (by kernel_rfl) (by kernel_rfl) (by kernel_rfl) (by kernel_rfl)
  (fun k=>Known.of cj_ ci_ codOk (aa_))
  (fun k=>QuietOk.of (aa_))
  (fun a=>rfl)
  (aa_)
  (fun k=>by (repeat intro _);show _=_;kernel_rfl)
noncomputable def b0_ (k:Nat):aK_ K TyK:=sm cod (Bool) [.bo] [.g [.i .i64, .b, .i .i64, .i .i64, .i .i64, .b, .i .i64, .l true .item, .i .i64, .l true .held, .s, .l true .str]] [] (fun k v1 v2 v3 v4 v5 v6 v7 v8 v9 v10 v11 v12=>bV_ k (⟨v1,v2,v3,v4,v5,v6,(⟨v7,v8⟩:al_),(⟨v9,v10,v11,v12⟩:ak_)⟩:an_)) k [.c (.b)] [] (fun r=>(r,())) (fun v1=>v1) true
theorem ce_ (k:Nat):SummOk Tryz.prog cod 79 (b0_ k):=aw_ codOk Tryz.f79 (fun k=>ap_ [(80,fB_ k),(121,dv_ k),(122,dt_ k),(123,mu_ k),(124,lV_ k)]) [] false [.tmp 2] 0 [] av_ Tryz.func79 (by kernel_rfl) (by kernel_rfl) (by kernel_rfl) (by kernel_rfl)
  (fun k=>Known.of cj_ ci_ codOk (all_cons (fh_ k) (all_cons (dZ_ k) (all_cons (d2_ k) (all_cons (q6_ k) (all_cons (rG_ k) (aa_)))))))
  (fun k=>QuietOk.of (all_cons (fun h r=>⟨rfl,rfl⟩) (all_cons (fun h r=>⟨rfl,rfl⟩) (all_cons (fun h r=>⟨rfl,rfl⟩) (all_cons (fun h r=>⟨rfl,rfl⟩) (all_cons (fun h r=>⟨rfl,rfl⟩) (aa_)))))))
  (fun a=>rfl)
  (aa_)
  (fun k=>by (repeat intro _);show _=_;kernel_rfl)
noncomputable def hE_ (k:Nat):aK_ K TyK:=sm cod (Bool) [.bo] [.g [.s, .i .i64, .l true .xend, .l true .parcel, .s, .l true .record, .l true .record]] [] (fun k v1 v2 v3 v4 v5 v6 v7=>e2_ k (⟨v1,v2,v3,v4,v5,v6,v7⟩:ae_)) k [.c (.b)] [] (fun r=>(r,())) (fun v1=>v1) true
noncomputable abbrev mM_:List (Nat×Cut K TyK (Bool)):=[(4,ct cod [1,48,49,50] [.c (.r 0 0), .c (.l true .xend), .c (.i .i64), .c (.i .i64)] [.x [.s, .i .i64, .l true .xend, .l true .parcel, .s, .l true .record, .l true .record]] b5_),
  (10,ct cod [1,67,68,69] [.c (.r 0 0), .c (.l true .parcel), .c (.i .i64), .c (.i .i64)] [.x [.s, .i .i64, .l true .xend, .l true .parcel, .s, .l true .record, .l true .record]] a4_),
  (16,ct cod [98,99,100] [.c (.o 0), .c (.i .i64), .c (.i .i64)] [.l .lrecord] a5_),
  (19,ct cod [98,99,100,104,105,106] [.c (.o 0), .c (.i .i64), .c (.i .i64), .c (.l true .record), .c (.i .i64), .c (.i .i64)] [.l .lrecord] a6_)]
theorem lX_ (k:Nat):SummOk Tryz.prog cod 34 (hE_ k):=aw_ codOk Tryz.f34 (fun k=>ap_ [(79,b0_ k),(80,fB_ k)]) mM_ false [.tmp 2] 0 [] av_ Tryz.func34 (by kernel_rfl) (by kernel_rfl) (by kernel_rfl) (by kernel_rfl)
  (fun k=>Known.of cj_ ci_ codOk (all_cons (ce_ k) (all_cons (fh_ k) (aa_))))
  (fun k=>QuietOk.of (all_cons (fun h r=>⟨rfl,rfl⟩) (all_cons (fun h r=>⟨rfl,rfl⟩) (aa_))))
  (fun a=>rfl)
  (all_cons (aq_ codOk (by kernel_rfl) (by (repeat intro _);show _=_;kernel_rfl) (fun k=>by (repeat intro _);show _=_;kernel_rfl)) (all_cons (aq_ codOk (by kernel_rfl) (by (repeat intro _);show _=_;kernel_rfl) (fun k=>by (repeat intro _);show _=_;kernel_rfl)) (all_cons (aq_ codOk (by kernel_rfl) (by (repeat intro _);show _=_;kernel_rfl) (fun k=>by (repeat intro _);show _=_;kernel_rfl)) (all_cons (aq_ codOk (by kernel_rfl) (by (repeat intro _);show _=_;kernel_rfl) (fun k=>by (repeat intro _);show _=_;kernel_rfl)) (aa_)))))
  (fun k=>by (repeat intro _);show _=_;kernel_rfl)
noncomputable def dV_ (k:Nat):aK_ K TyK:=sm cod (al_) [.bo] [.g [.i .i64, .l true .item]] [] (fun k v1 v2=>d1_ k (⟨v1,v2⟩:al_)) k [.g [.i .i64, .o 0]] [.l .item] (fun r=>(r.Base,(),r.Items,())) (fun v1 v2=>(⟨v1,v2⟩:al_)) false
theorem eu_ (k:Nat):SummOk Tryz.prog cod 125 (dV_ k):=aw_ codOk Tryz.f125 (fun k=>ap_ []) [] false [.cell 2 59] 0 [] av_ Tryz.func125 (by kernel_rfl) (by kernel_rfl) (by kernel_rfl) (by kernel_rfl)
  (fun k=>Known.of cj_ ci_ codOk (aa_))
  (fun k=>QuietOk.of (aa_))
  (fun a=>rfl)
  (aa_)
  (fun k=>by (repeat intro _);show _=_;kernel_rfl)
noncomputable def e3_ (k:Nat):aK_ K TyK:=sm cod (ak_) [.bo] [.g [.i .i64, .l true .held, .s, .l true .str]] [] (fun k v1 v2 v3 v4=>eQ_ k (⟨v1,v2,v3,v4⟩:ak_)) k [.g [.i .i64, .o 0, .s, .o 1]] [.l .held, .l .str] (fun r=>(r.Next,(),r.Open,(),r.Held,r.Ready,())) (fun v1 v2 v3 v4=>(⟨v1,v3,v2,v4⟩:ak_)) false
theorem fL_ (k:Nat):SummOk Tryz.prog cod 126 (e3_ k):=aw_ codOk Tryz.f126 (fun k=>ap_ []) [] false [.cell 2 63] 0 [] av_ Tryz.func126 (by kernel_rfl) (by kernel_rfl) (by kernel_rfl) (by kernel_rfl)
  (fun k=>Known.of cj_ ci_ codOk (aa_))
  (fun k=>QuietOk.of (aa_))
  (fun a=>rfl)
  (aa_)
  (fun k=>by (repeat intro _);show _=_;kernel_rfl)
noncomputable def cX_ (k:Nat):aK_ K TyK:=sm cod (an_) [.bo] [.g [.i .i64, .b, .i .i64, .i .i64, .i .i64, .b, .i .i64, .l true .item, .i .i64, .l true .held, .s, .l true .str]] [] (fun k v1 v2 v3 v4 v5 v6 v7 v8 v9 v10 v11 v12=>cm_ k (⟨v1,v2,v3,v4,v5,v6,(⟨v7,v8⟩:al_),(⟨v9,v10,v11,v12⟩:ak_)⟩:an_)) k [.g [.i .i64, .b, .i .i64, .i .i64, .i .i64, .b, .i .i64, .o 0, .i .i64, .o 1, .s, .o 2]] [.l .item, .l .held, .l .str] (fun r=>(r.Number,r.Up,r.Life,r.Peer,r.Since,r.Owes,r.Send.Base,(),r.Take.Next,(),r.Take.Open,(),r.Send.Items,r.Take.Held,r.Take.Ready,())) (fun v1 v2 v3 v4 v5 v6 v7 v8 v9 v10 v11 v12=>(⟨v1,v2,v3,v4,v5,v6,(⟨v7,v10⟩:al_),(⟨v8,v11,v9,v12⟩:ak_)⟩:an_)) false
theorem da_ (k:Nat):SummOk Tryz.prog cod 81 (cX_ k):=aw_ codOk Tryz.f81 (fun k=>ap_ [(125,dV_ k),(126,e3_ k)]) [] false [.cell 2 65] 0 [] av_ Tryz.func81 (by kernel_rfl) (by kernel_rfl) (by kernel_rfl) (by kernel_rfl)
  (fun k=>Known.of cj_ ci_ codOk (all_cons (eu_ k) (all_cons (fL_ k) (aa_))))
  (fun k=>QuietOk.of (all_cons (fun h r=>by cases h) (all_cons (fun h r=>by cases h) (aa_))))
  (fun a=>rfl)
  (aa_)
  (fun k=>by (repeat intro _);show _=_;kernel_rfl)
noncomputable def dH_ (k:Nat):aK_ K TyK:=sm cod (ae_) [.bo] [.g [.s, .i .i64, .l true .xend, .l true .parcel, .s, .l true .record, .l true .record]] [] (fun k v1 v2 v3 v4 v5 v6 v7=>fR_ k (⟨v1,v2,v3,v4,v5,v6,v7⟩:ae_)) k [.g [.s, .i .i64, .w 0, .o 1, .s, .o 2, .o 3]] [.w .xend, .l .parcel, .l .record, .l .record] (fun r=>(r.Key,r.Width,(),(),r.Forged,(),(),r.Ends,r.Flight,r.Given,r.Taken,())) (fun v1 v2 v3 v4 v5 v6 v7=>(⟨v1,v2,v4,v5,v3,v6,v7⟩:ae_)) false
noncomputable def dI_ (k:Nat):aK_ K TyK:=sm cod (ae_) [.bo] [.g [.s, .i .i64, .l true .xend, .l true .parcel, .s, .l true .record, .l true .record]] [] (fun k v1 v2 v3 v4 v5 v6 v7=>dG_ k (⟨v1,v2,v3,v4,v5,v6,v7⟩:ae_)) k [.g [.s, .i .i64, .w 0, .o 1, .s, .o 2, .o 3]] [.w .xend, .l .parcel, .l .record, .l .record] (fun r=>(r.Key,r.Width,(),(),r.Forged,(),(),r.Ends,r.Flight,r.Given,r.Taken,())) (fun v1 v2 v3 v4 v5 v6 v7=>(⟨v1,v2,v4,v5,v3,v6,v7⟩:ae_)) false
noncomputable abbrev mn_:List (Nat×Cut K TyK (ae_)):=[(3,ct cod [1,2,10,11] [.c (.r 0 0), .c (.r 1 0), .c (.i .i64), .c (.i .i64)] [.x [.s, .i .i64, .w 2, .l true .parcel, .s, .l true .record, .l true .record], .x [.s, .i .i64, .w 3, .o 4, .s, .o 5, .o 6], .q .xend, .w .xend, .l .parcel, .l .record, .l .record] cE_)]
theorem ib_ (k:Nat):SummOk Tryz.prog cod 35 (dH_ k):=aw_ codOk Tryz.f35 (fun k=>ap_ [(81,cX_ k)]) mn_ false [.cell 2 29] 0 [] av_ Tryz.func35 (by kernel_rfl) (by kernel_rfl) (by kernel_rfl) (by kernel_rfl)
  (fun k=>Known.of cj_ ci_ codOk (all_cons (da_ k) (aa_)))
  (fun k=>QuietOk.of (all_cons (fun h r=>by cases h) (aa_)))
  (fun a=>rfl)
  (all_cons (aq_ codOk (by kernel_rfl) (by (repeat intro _);show _=_;kernel_rfl) (fun k=>by (repeat intro _);show _=_;kernel_rfl)) (aa_))
  (fun k=>by (repeat intro _);show _=_;kernel_rfl)
theorem kS_ (k:Nat):SummOk Tryz.prog cod 35 (dI_ k):=(show dH_ k=dI_ k by unfold dH_ dI_;rw [ln_])▸ib_ k
noncomputable def jw_ (k:Nat):aK_ K TyK:=sm cod (al_×List Int) [.bo] [.g [.i .i64, .l true .item]] [] (fun k v1 v2=>f7_ k (⟨v1,v2⟩:al_)) k [.g [.i .i64, .o 0], .c (.o 1)] [.l .item, .l .int] (fun r=>(r.1.Base,(),(),r.1.Items,r.2,())) (fun v1 v2 v3=>((⟨v1,v2⟩:al_),v3)) false
noncomputable abbrev qy_:List (Nat×Cut K TyK (al_×List Int)):=[(6,ct cod [2,4,5,6] [.c (.r 0 0), .c (.r 1 0), .c (.o 2), .c (.i .i64)] [.x [.i .i64, .o 3], .x [.i .i64, .o 4], .l .int, .l .item, .l .item] cK_),
  (7,ct cod [2,4,5,6] [.c (.r 0 0), .c (.r 1 0), .c (.o 2), .c (.i .i64)] [.x [.i .i64, .o 3], .x [.i .i64, .o 4], .l .int, .l .item, .l .item] b8_)]
theorem oh_ (k:Nat):SummOk Tryz.prog cod 127 (jw_ k):=aw_ codOk Tryz.f127 (fun k=>ap_ [(121,dv_ k),(125,dV_ k)]) qy_ false [.cell 2 59, .tmp 3] 0 [] av_ Tryz.func127 (by kernel_rfl) (by kernel_rfl) (by kernel_rfl) (by kernel_rfl)
  (fun k=>Known.of cj_ ci_ codOk (all_cons (dZ_ k) (all_cons (eu_ k) (aa_))))
  (fun k=>QuietOk.of (all_cons (fun h r=>⟨rfl,rfl⟩) (all_cons (fun h r=>by cases h) (aa_))))
  (fun a=>rfl)
  (all_cons (aq_ codOk (by kernel_rfl) (by (repeat intro _);show _=_;kernel_rfl) (fun k=>by (repeat intro _);show _=_;kernel_rfl)) (all_cons (aq_ codOk (by kernel_rfl) (by (repeat intro _);show _=_;kernel_rfl) (fun k=>by (repeat intro _);show _=_;kernel_rfl)) (aa_)))
  (fun k=>by (repeat intro _);show _=_;kernel_rfl)
noncomputable def jE_ (k:Nat):aK_ K TyK:=sm cod (Int×Int) [.bo] [.g [.i .i64, .l true .held, .s, .l true .str]] [] (fun k v1 v2 v3 v4=>dY_ k (⟨v1,v2,v3,v4⟩:ak_)) k [.c (.i .i64), .c (.i .i64)] [] (fun r=>(r.1,r.2,())) (fun v1 v2=>(v1,v2)) true
noncomputable abbrev pI_:List (Nat×Cut K TyK (Int×Int)):=[(5,ct cod [1,4,11,12,13] [.c (.r 0 0), .c (.i .i64), .c (.l true .held), .c (.i .i64), .c (.i .i64)] [.x [.i .i64, .l true .held, .s, .l true .str]] cL_)]
theorem ol_ (k:Nat):SummOk Tryz.prog cod 128 (jE_ k):=aw_ codOk Tryz.f128 (fun k=>ap_ [(122,dt_ k)]) pI_ false [.tmp 2, .tmp 3] 0 [] av_ Tryz.func128 (by kernel_rfl) (by kernel_rfl) (by kernel_rfl) (by kernel_rfl)
  (fun k=>Known.of cj_ ci_ codOk (all_cons (d2_ k) (aa_)))
  (fun k=>QuietOk.of (all_cons (fun h r=>⟨rfl,rfl⟩) (aa_)))
  (fun a=>rfl)
  (all_cons (aq_ codOk (by kernel_rfl) (by (repeat intro _);show _=_;kernel_rfl) (fun k=>by (repeat intro _);show _=_;kernel_rfl)) (aa_))
  (fun k=>by (repeat intro _);show _=_;kernel_rfl)
noncomputable def kj_ (k:Nat):aK_ K TyK:=sm cod (aC_) [.bo] [.g [.i .i64, .b, .i .i64, .i .i64, .i .i64, .b, .i .i64, .l true .item, .i .i64, .l true .held, .s, .l true .str]] [] (fun k v1 v2 v3 v4 v5 v6 v7 v8 v9 v10 v11 v12=>gH_ k (⟨v1,v2,v3,v4,v5,v6,(⟨v7,v8⟩:al_),(⟨v9,v10,v11,v12⟩:ak_)⟩:an_)) k [.g [.i .i64, .i .i64, .b, .i .i64, .i .i64, .i .i64, .b, .i .i64, .o 0, .i .i64, .o 1, .s, .o 2, .o 3, .s]] [.l .item, .l .held, .l .str, .l .packet] (fun r=>(r.Code,r.End.Number,r.End.Up,r.End.Life,r.End.Peer,r.End.Since,r.End.Owes,r.End.Send.Base,(),r.End.Take.Next,(),r.End.Take.Open,(),(),r.Text,r.End.Send.Items,r.End.Take.Held,r.End.Take.Ready,r.Out,())) (fun v1 v2 v3 v4 v5 v6 v7 v8 v9 v10 v11 v12 v13 v14 v15=>(⟨v1,(⟨v2,v3,v4,v5,v6,v7,(⟨v8,v12⟩:al_),(⟨v9,v13,v10,v14⟩:ak_)⟩:an_),v15,v11⟩:aC_)) false
noncomputable abbrev rC_:List (Nat×Cut K TyK (aC_)):=[(9,ct cod [2,3,4] [.c (.r 0 0), .c (.r 1 0), .c (.r 1 1)] [.x [.i .i64, .i .i64, .b, .i .i64, .i .i64, .i .i64, .b, .i .i64, .o 2, .i .i64, .o 3, .s, .o 4, .o 5, .s], .x [.i .i64, .i .i64, .b, .i .i64, .i .i64, .i .i64, .b, .i .i64, .o 6, .i .i64, .o 7, .s, .o 8, .o 9, .s], .l .item, .l .held, .l .str, .l .packet, .l .item, .l .held, .l .str, .l .packet] dW_),
  (13,ct cod [2,3,4,53,54,55] [.c (.r 0 0), .c (.r 1 0), .c (.r 1 1), .c (.o 2), .c (.i .i64), .c (.i .i64)] [.x [.i .i64, .i .i64, .b, .i .i64, .i .i64, .i .i64, .b, .i .i64, .o 3, .i .i64, .o 4, .s, .o 5, .o 6, .s], .x [.i .i64, .i .i64, .b, .i .i64, .i .i64, .i .i64, .b, .i .i64, .o 7, .i .i64, .o 8, .s, .o 9, .o 10, .s], .l .int, .l .item, .l .held, .l .str, .l .packet, .l .item, .l .held, .l .str, .l .packet] cM_),
  (18,ct cod [2,3,4] [.c (.r 0 0), .c (.r 1 0), .c (.r 1 1)] [.x [.i .i64, .i .i64, .b, .i .i64, .i .i64, .i .i64, .b, .i .i64, .o 2, .i .i64, .o 3, .s, .o 4, .o 5, .s], .x [.i .i64, .i .i64, .b, .i .i64, .i .i64, .i .i64, .b, .i .i64, .o 6, .i .i64, .o 7, .s, .o 8, .o 9, .s], .l .item, .l .held, .l .str, .l .packet, .l .item, .l .held, .l .str, .l .packet] dq_),
  (22,ct cod [2,3] [.c (.r 0 0), .c (.r 1 0)] [.x [.i .i64, .i .i64, .b, .i .i64, .i .i64, .i .i64, .b, .i .i64, .o 2, .i .i64, .o 3, .s, .o 4, .o 5, .s], .x [.i .i64, .i .i64, .b, .i .i64, .i .i64, .i .i64, .b, .i .i64, .o 6, .i .i64, .o 7, .s, .o 8, .o 9, .s], .l .item, .l .held, .l .str, .l .packet, .l .item, .l .held, .l .str, .l .packet] cb_)]
theorem qg_ (k:Nat):SummOk Tryz.prog cod 82 (kj_ k):=aw_ codOk Tryz.f82 (fun k=>ap_ [(79,b0_ k),(81,cX_ k),(127,jw_ k),(128,jE_ k)]) rC_ false [.cell 2 84] 0 [] av_ Tryz.func82 (by kernel_rfl) (by kernel_rfl) (by kernel_rfl) (by kernel_rfl)
  (fun k=>Known.of cj_ ci_ codOk (all_cons (ce_ k) (all_cons (da_ k) (all_cons (oh_ k) (all_cons (ol_ k) (aa_))))))
  (fun k=>QuietOk.of (all_cons (fun h r=>⟨rfl,rfl⟩) (all_cons (fun h r=>by cases h) (all_cons (fun h r=>by cases h) (all_cons (fun h r=>⟨rfl,rfl⟩) (aa_))))))
  (fun a=>rfl)
  (all_cons (aq_ codOk (by kernel_rfl) (by (repeat intro _);show _=_;kernel_rfl) (fun k=>by (repeat intro _);show _=_;kernel_rfl)) (all_cons (aq_ codOk (by kernel_rfl) (by (repeat intro _);show _=_;kernel_rfl) (fun k=>by (repeat intro _);show _=_;kernel_rfl)) (all_cons (aq_ codOk (by kernel_rfl) (by (repeat intro _);show _=_;kernel_rfl) (fun k=>by (repeat intro _);show _=_;kernel_rfl)) (all_cons (aq_ codOk (by kernel_rfl) (by (repeat intro _);show _=_;kernel_rfl) (fun k=>by (repeat intro _);show _=_;kernel_rfl)) (aa_)))))
  (fun k=>by (repeat intro _);show _=_;kernel_rfl)
noncomputable def dJ_ (k:Nat):aK_ K TyK:=sm cod (Bool) [.bo] [.g [.i .i64, .i .i64, .i .i64, .i .i64, .i .i64, .i .i64, .i .i64, .b, .s]] [] (fun k v1 v2 v3 v4 v5 v6 v7 v8 v9=>a8_ k (⟨v1,v2,v3,v4,v5,v6,v7,v8,v9⟩:ad_)) k [.c (.b)] [] (fun r=>(r,())) (fun v1=>v1) true
theorem eA_ (k:Nat):SummOk Tryz.prog cod 129 (dJ_ k):=aw_ codOk Tryz.f129 (fun k=>ap_ [(80,fB_ k)]) [] false [.tmp 2] 0 [] av_ Tryz.func129 (by kernel_rfl) (by kernel_rfl) (by kernel_rfl) (by kernel_rfl)
  (fun k=>Known.of cj_ ci_ codOk (all_cons (fh_ k) (aa_)))
  (fun k=>QuietOk.of (all_cons (fun h r=>⟨rfl,rfl⟩) (aa_)))
  (fun a=>rfl)
  (aa_)
  (fun k=>by (repeat intro _);show _=_;kernel_rfl)
noncomputable def t6_ (k:Nat):aK_ K TyK:=sm cod (ByteArray) [.bo, .bo] [.c (.i .i64), .c (.i .i64)] [] (gu_) k [.c (.s)] [] (fun r=>(r,())) (fun v1=>v1) true
noncomputable abbrev Ap_:List (Nat×Cut K TyK (ByteArray)):=[(3,ct cod [0,5,6] [.c (.i .i64), .c (.o 0), .c (.i .i64)] [.l .byte] gj_)]
theorem xB_ (k:Nat):SummOk Tryz.prog cod 130 (t6_ k):=aw_ codOk Tryz.f130 (fun k=>ap_ []) Ap_ false [.tmp 4] 0 [] av_ Tryz.func130 (by kernel_rfl) (by kernel_rfl) (by kernel_rfl) (by kernel_rfl)
  (fun k=>Known.of cj_ ci_ codOk (aa_))
  (fun k=>QuietOk.of (aa_))
  (fun a=>rfl)
  (all_cons (aq_ codOk (by kernel_rfl) (by (repeat intro _);show _=_;kernel_rfl) (fun k=>by (repeat intro _);show _=_;kernel_rfl)) (aa_))
  (fun k=>by (repeat intro _);show _=_;kernel_rfl)
noncomputable def rZ_ (k:Nat):aK_ K TyK:=sm cod (ByteArray) [.bo, .bo, .bo] [.c (.s), .c (.s), .c (.i .i64)] [] (o6_) k [.c (.s)] [] (fun r=>(r,())) (fun v1=>v1) true
noncomputable abbrev x9_:List (Nat×Cut K TyK (ByteArray)):=[(6,ct cod [2,7,8,9] [.c (.i .i64), .c (.i .u64), .c (.s), .c (.i .i64)] [] fj_),
  (11,ct cod [2,7,10,11] [.c (.i .i64), .c (.i .u64), .c (.z 0 0), .c (.i .i64)] [.l .byte] eI_)]
theorem vA_ (k:Nat):SummOk Tryz.prog cod 131 (rZ_ k):=aw_ codOk Tryz.f131 (fun k=>ap_ []) x9_ false [.tmp 6] 0 [] av_ Tryz.func131 (by kernel_rfl) (by kernel_rfl) (by kernel_rfl) (by kernel_rfl)
  (fun k=>Known.of cj_ ci_ codOk (aa_))
  (fun k=>QuietOk.of (aa_))
  (fun a=>rfl)
  (all_cons (aq_ codOk (by kernel_rfl) (by (repeat intro _);show _=_;kernel_rfl) (fun k=>by (repeat intro _);show _=_;kernel_rfl)) (all_cons (aq_ codOk (by kernel_rfl) (by (repeat intro _);show _=_;kernel_rfl) (fun k=>by (repeat intro _);show _=_;kernel_rfl)) (aa_)))
  (fun k=>by (repeat intro _);show _=_;kernel_rfl)
noncomputable def fb_ (k:Nat):aK_ K TyK:=sm cod (ByteArray) [.bo, .bo, .bo] [.g [.i .i64, .i .i64, .i .i64, .i .i64, .i .i64, .i .i64, .i .i64, .b, .s], .c (.s), .c (.i .i64)] [] (fun k v1 v2 v3 v4 v5 v6 v7 v8 v9 v10 v11=>c2_ k (⟨v1,v2,v3,v4,v5,v6,v7,v8,v9⟩:ad_) v10 v11) k [.c (.s)] [] (fun r=>(r,())) (fun v1=>v1) true
noncomputable abbrev nm_:List (Nat×Cut K TyK (ByteArray)):=[(10,ct cod [1,2,7] [.c (.s), .c (.i .i64), .c (.s)] [] cC_),
  (9,ct cod [1,2,3,7,8] [.c (.s), .c (.i .i64), .c (.r 0 0), .c (.s), .c (.i .i64)] [.x [.i .i64, .i .i64, .i .i64, .i .i64, .i .i64, .i .i64, .i .i64, .b, .s]] cT_)]
theorem gV_ (k:Nat):SummOk Tryz.prog cod 83 (fb_ k):=aw_ codOk Tryz.f83 (fun k=>ap_ [(129,dJ_ k),(130,t6_ k),(131,rZ_ k)]) nm_ false [.tmp 6] 0 [] av_ Tryz.func83 (by kernel_rfl) (by kernel_rfl) (by kernel_rfl) (by kernel_rfl)
  (fun k=>Known.of cj_ ci_ codOk (all_cons (eA_ k) (all_cons (xB_ k) (all_cons (vA_ k) (aa_)))))
  (fun k=>QuietOk.of (all_cons (fun h r=>⟨rfl,rfl⟩) (all_cons (fun h r=>⟨rfl,rfl⟩) (all_cons (fun h r=>⟨rfl,rfl⟩) (aa_)))))
  (fun a=>rfl)
  (all_cons (aq_ codOk (by kernel_rfl) (by (repeat intro _);show _=_;kernel_rfl) (fun k=>by (repeat intro _);show _=_;kernel_rfl)) (all_cons (aq_ codOk (by kernel_rfl) (by (repeat intro _);show _=_;kernel_rfl) (fun k=>by (repeat intro _);show _=_;kernel_rfl)) (aa_)))
  (fun k=>by (repeat intro _);show _=_;kernel_rfl)
noncomputable def hz_ (k:Nat):aK_ K TyK:=sm cod (ae_) [.mv] [.c (.r 0 0)] [.x [.s, .i .i64, .w 1, .o 2, .s, .o 3, .o 4], .w .xend, .l .parcel, .l .record, .l .record] (fun k v1 v2 v3 v4 v5 v6 v7=>eX_ k (⟨v1,v2,v4,v5,v3,v6,v7⟩:ae_)) k [] [.x [.s, .i .i64, .w 5, .o 6, .s, .o 7, .o 8], .d, .d, .d, .d, .w .xend, .l .parcel, .l .record, .l .record] (fun r=>(r.Key,r.Width,(),(),r.Forged,(),(),r.Ends,r.Flight,r.Given,r.Taken,())) (fun v1 v2 v3 v4 v5 v6 v7=>(⟨v1,v2,v4,v5,v3,v6,v7⟩:ae_)) false
noncomputable abbrev nj_:List (Nat×Cut K TyK (ae_)):=[(1,ct cod [0,11,12] [.c (.r 0 0), .c (.i .i64), .c (.i .i64)] [.x [.s, .i .i64, .w 5, .o 6, .s, .o 7, .o 8], .d, .d, .d, .d, .w .xend, .l .parcel, .l .record, .l .record] be_),
  (6,ct cod [0,2,11,12,32,33,34] [.c (.r 0 0), .c (.i .i64), .c (.i .i64), .c (.i .i64), .c (.o 5), .c (.i .i64), .c (.i .i64)] [.x [.s, .i .i64, .w 6, .o 7, .s, .o 8, .o 9], .d, .d, .d, .d, .l .packet, .w .xend, .l .parcel, .l .record, .l .record] b3_),
  (11,ct cod [0,2,11,12,32,33,34] [.c (.r 0 0), .c (.i .i64), .c (.i .i64), .c (.i .i64), .c (.o 5), .c (.i .i64), .c (.i .i64)] [.x [.s, .i .i64, .w 6, .o 7, .s, .o 8, .o 9], .d, .d, .d, .d, .l .packet, .w .xend, .l .parcel, .l .record, .l .record] cA_)]
theorem l6_ (k:Nat):SummOk Tryz.prog cod 36 (hz_ k):=aw_ codOk Tryz.f36 (fun k=>ap_ [(82,kj_ k),(83,fb_ k)]) nj_ false [] 5 [false,true,true,true,true] av_ Tryz.func36 (by kernel_rfl) (by kernel_rfl) (by kernel_rfl) (by kernel_rfl)
  (fun k=>Known.of cj_ ci_ codOk (all_cons (qg_ k) (all_cons (gV_ k) (aa_))))
  (fun k=>QuietOk.of (all_cons (fun h r=>by cases h) (all_cons (fun h r=>⟨rfl,rfl⟩) (aa_))))
  (fun a=>rfl)
  (all_cons (aq_ codOk (by kernel_rfl) (by (repeat intro _);show _=_;kernel_rfl) (fun k=>by (repeat intro _);show _=_;kernel_rfl)) (all_cons (aq_ codOk (by kernel_rfl) (by (repeat intro _);show _=_;kernel_rfl) (fun k=>by (repeat intro _);show _=_;kernel_rfl)) (all_cons (aq_ codOk (by kernel_rfl) (by (repeat intro _);show _=_;kernel_rfl) (fun k=>by (repeat intro _);show _=_;kernel_rfl)) (aa_))))
  (fun k=>by (repeat intro _);show _=_;kernel_rfl)
noncomputable def si_ (k:Nat):aK_ K TyK:=sm cod (Int) [.bo] [.c (.s)] [] (jN_) k [.c (.i .i64)] [] (fun r=>(r,())) (fun v1=>v1) true
noncomputable abbrev xI_:List (Nat×Cut K TyK (Int)):=[(3,ct cod [0,3,4] [.c (.s), .c (.i .i64), .c (.i .i64)] [] fc_)]
theorem wv_ (k:Nat):SummOk Tryz.prog cod 132 (si_ k):=aw_ codOk Tryz.f132 (fun k=>ap_ []) xI_ false [.tmp 2] 0 [] av_ Tryz.func132 (by kernel_rfl) (by kernel_rfl) (by kernel_rfl) (by kernel_rfl)
  (fun k=>Known.of cj_ ci_ codOk (aa_))
  (fun k=>QuietOk.of (aa_))
  (fun a=>rfl)
  (all_cons (aq_ codOk (by kernel_rfl) (by (repeat intro _);show _=_;kernel_rfl) (fun k=>by (repeat intro _);show _=_;kernel_rfl)) (aa_))
  (fun k=>by (repeat intro _);show _=_;kernel_rfl)
noncomputable def hr_ (k:Nat):aK_ K TyK:=sm cod (ad_×Bool) [.bo, .bo, .bo] [.c (.s), .c (.s), .c (.i .i64)] [] (eP_) k [.g [.i .i64, .i .i64, .i .i64, .i .i64, .i .i64, .i .i64, .i .i64, .b, .s], .c (.b)] [] (fun r=>(r.1.Kind,r.1.From,r.1.Mine,r.1.Yours,r.1.Next,r.1.Mask,r.1.Seq,r.1.Last,r.1.Part,r.2,())) (fun v1 v2 v3 v4 v5 v6 v7 v8 v9 v10=>((⟨v1,v2,v3,v4,v5,v6,v7,v8,v9⟩:ad_),v10)) true
noncomputable abbrev mL_:List (Nat×Cut K TyK (ad_×Bool)):=[(10,ct cod [0,1,2,6,9] [.c (.s), .c (.s), .c (.i .i64), .c (.r 0 0), .c (.r 1 0)] [.x [.i .i64, .i .i64, .i .i64, .i .i64, .i .i64, .i .i64, .i .i64, .b, .s], .x [.i .i64, .i .i64, .i .i64, .i .i64, .i .i64, .i .i64, .i .i64, .b, .s]] bn_)]
theorem lW_ (k:Nat):SummOk Tryz.prog cod 84 (hr_ k):=aw_ codOk Tryz.f84 (fun k=>ap_ [(132,si_ k),(129,dJ_ k),(83,fb_ k)]) mL_ false [.cell 6 75, .tmp 7] 0 [] av_ Tryz.func84 (by kernel_rfl) (by kernel_rfl) (by kernel_rfl) (by kernel_rfl)
  (fun k=>Known.of cj_ ci_ codOk (all_cons (wv_ k) (all_cons (eA_ k) (all_cons (gV_ k) (aa_)))))
  (fun k=>QuietOk.of (all_cons (fun h r=>⟨rfl,rfl⟩) (all_cons (fun h r=>⟨rfl,rfl⟩) (all_cons (fun h r=>⟨rfl,rfl⟩) (aa_)))))
  (fun a=>rfl)
  (all_cons (aq_ codOk (by kernel_rfl) (by (repeat intro _);show _=_;kernel_rfl) (fun k=>by (repeat intro _);show _=_;kernel_rfl)) (aa_))
  (fun k=>by (repeat intro _);show _=_;kernel_rfl)
noncomputable def ja_ (k:Nat):aK_ K TyK:=sm cod (al_) [.bo, .bo, .bo] [.g [.i .i64, .l true .item], .c (.i .i64), .c (.i .i64)] [] (fun k v1 v2 v3 v4=>gh_ k (⟨v1,v2⟩:al_) v3 v4) k [.g [.i .i64, .o 0]] [.l .item] (fun r=>(r.Base,(),r.Items,())) (fun v1 v2=>(⟨v1,v2⟩:al_)) false
noncomputable abbrev qG_:List (Nat×Cut K TyK (al_)):=[(5,ct cod [1,2,6,7,8] [.c (.i .i64), .c (.i .i64), .c (.r 0 0), .c (.r 1 0), .c (.i .i64)] [.x [.i .i64, .o 2], .x [.i .i64, .o 3], .l .item, .l .item] cO_),
  (12,ct cod [2,6,7,9] [.c (.i .i64), .c (.r 0 0), .c (.r 1 0), .c (.i .i64)] [.x [.i .i64, .o 2], .x [.i .i64, .o 3], .l .item, .l .item] bt_),
  (13,ct cod [2,6,7,9] [.c (.i .i64), .c (.r 0 0), .c (.r 1 0), .c (.i .i64)] [.x [.i .i64, .o 2], .x [.i .i64, .o 3], .l .item, .l .item] cx_)]
theorem oy_ (k:Nat):SummOk Tryz.prog cod 133 (ja_ k):=aw_ codOk Tryz.f133 (fun k=>ap_ [(121,dv_ k),(125,dV_ k),(80,fB_ k)]) qG_ false [.cell 6 59] 0 [] av_ Tryz.func133 (by kernel_rfl) (by kernel_rfl) (by kernel_rfl) (by kernel_rfl)
  (fun k=>Known.of cj_ ci_ codOk (all_cons (dZ_ k) (all_cons (eu_ k) (all_cons (fh_ k) (aa_)))))
  (fun k=>QuietOk.of (all_cons (fun h r=>⟨rfl,rfl⟩) (all_cons (fun h r=>by cases h) (all_cons (fun h r=>⟨rfl,rfl⟩) (aa_)))))
  (fun a=>rfl)
  (all_cons (aq_ codOk (by kernel_rfl) (by (repeat intro _);show _=_;kernel_rfl) (fun k=>by (repeat intro _);show _=_;kernel_rfl)) (all_cons (aq_ codOk (by kernel_rfl) (by (repeat intro _);show _=_;kernel_rfl) (fun k=>by (repeat intro _);show _=_;kernel_rfl)) (all_cons (aq_ codOk (by kernel_rfl) (by (repeat intro _);show _=_;kernel_rfl) (fun k=>by (repeat intro _);show _=_;kernel_rfl)) (aa_))))
  (fun k=>by (repeat intro _);show _=_;kernel_rfl)
noncomputable def kT_ (k:Nat):aK_ K TyK:=sm cod (ak_) [.mv] [.g [.i .i64, .o 0, .s, .o 1]] [.l .held, .l .str] (fun k v1 v2 v3 v4=>eS_ k (⟨v1,v3,v2,v4⟩:ak_)) k [.g [.i .i64, .o 2, .s, .o 3]] [.d, .d, .l .held, .l .str] (fun r=>(r.Next,(),r.Open,(),r.Held,r.Ready,())) (fun v1 v2 v3 v4=>(⟨v1,v3,v2,v4⟩:ak_)) false
noncomputable abbrev vE_:List (Nat×Cut K TyK (ak_)):=[(1,ct cod [1,2] [.c (.r 2 0), .c (.r 3 0)] [.d, .d, .x [.i .i64, .o 4, .s, .o 5], .x [.i .i64, .o 6, .s, .o 7], .l .held, .l .str, .l .held, .l .str] eE_)]
theorem nH_ (k:Nat):SummOk Tryz.prog cod 155 (kT_ k):=aw_ codOk Tryz.f155 (fun k=>ap_ [(154,k2_ k)]) vE_ false [.cell 2 63] 2 [true,true] av_ Tryz.func155 (by kernel_rfl) (by kernel_rfl) (by kernel_rfl) (by kernel_rfl)
  (fun k=>Known.of cj_ ci_ codOk (all_cons (nI_ k) (aa_)))
  (fun k=>QuietOk.of (all_cons (fun h r=>⟨rfl,rfl⟩) (aa_)))
  (fun a=>rfl)
  (all_cons (aq_ codOk (by kernel_rfl) (by (repeat intro _);show _=_;kernel_rfl) (fun k=>by (repeat intro _);show _=_;kernel_rfl)) (aa_))
  (fun k=>by (repeat intro _);show _=_;kernel_rfl)
noncomputable def jh_ (k:Nat):aK_ K TyK:=sm cod (ak_) [.bo, .bo, .bo] [.g [.i .i64, .l true .held, .s, .l true .str], .c (.i .i64), .g [.s, .b]] [] (fun k v1 v2 v3 v4 v5 v6 v7=>gi_ k (⟨v1,v2,v3,v4⟩:ak_) v5 (⟨v6,v7⟩:aE_)) k [.g [.i .i64, .o 0, .s, .o 1]] [.l .held, .l .str] (fun r=>(r.Next,(),r.Open,(),r.Held,r.Ready,())) (fun v1 v2 v3 v4=>(⟨v1,v3,v2,v4⟩:ak_)) false
noncomputable abbrev pg_:List (Nat×Cut K TyK (ak_)):=[(7,ct cod [1,5,6,7,8] [.c (.i .i64), .c (.r 0 0), .c (.r 1 0), .c (.r 2 0), .c (.i .i64)] [.x [.s, .b], .x [.i .i64, .o 3, .s, .o 4], .x [.i .i64, .o 5, .s, .o 6], .l .held, .l .str, .l .held, .l .str] cQ_)]
theorem oa_ (k:Nat):SummOk Tryz.prog cod 134 (jh_ k):=aw_ codOk Tryz.f134 (fun k=>ap_ [(122,dt_ k),(126,e3_ k),(80,fB_ k),(155,kT_ k)]) pg_ false [.cell 6 63] 0 [] av_ Tryz.func134 (by kernel_rfl) (by kernel_rfl) (by kernel_rfl) (by kernel_rfl)
  (fun k=>Known.of cj_ ci_ codOk (all_cons (d2_ k) (all_cons (fL_ k) (all_cons (fh_ k) (all_cons (nH_ k) (aa_))))))
  (fun k=>QuietOk.of (all_cons (fun h r=>⟨rfl,rfl⟩) (all_cons (fun h r=>by cases h) (all_cons (fun h r=>⟨rfl,rfl⟩) (all_cons (fun h r=>by cases h) (aa_))))))
  (fun a=>rfl)
  (all_cons (aq_ codOk (by kernel_rfl) (by (repeat intro _);show _=_;kernel_rfl) (fun k=>by (repeat intro _);show _=_;kernel_rfl)) (aa_))
  (fun k=>by (repeat intro _);show _=_;kernel_rfl)
noncomputable def jX_ (k:Nat):aK_ K TyK:=sm cod (aC_) [.bo, .bo] [.g [.i .i64, .b, .i .i64, .i .i64, .i .i64, .b, .i .i64, .l true .item, .i .i64, .l true .held, .s, .l true .str], .g [.i .i64, .i .i64, .i .i64, .i .i64, .i .i64, .i .i64, .i .i64, .b, .s]] [] (fun k v1 v2 v3 v4 v5 v6 v7 v8 v9 v10 v11 v12 v13 v14 v15 v16 v17 v18 v19 v20 v21=>gN_ k (⟨v1,v2,v3,v4,v5,v6,(⟨v7,v8⟩:al_),(⟨v9,v10,v11,v12⟩:ak_)⟩:an_) (⟨v13,v14,v15,v16,v17,v18,v19,v20,v21⟩:ad_)) k [.g [.i .i64, .i .i64, .b, .i .i64, .i .i64, .i .i64, .b, .i .i64, .o 0, .i .i64, .o 1, .s, .o 2, .o 3, .s]] [.l .item, .l .held, .l .str, .l .packet] (fun r=>(r.Code,r.End.Number,r.End.Up,r.End.Life,r.End.Peer,r.End.Since,r.End.Owes,r.End.Send.Base,(),r.End.Take.Next,(),r.End.Take.Open,(),(),r.Text,r.End.Send.Items,r.End.Take.Held,r.End.Take.Ready,r.Out,())) (fun v1 v2 v3 v4 v5 v6 v7 v8 v9 v10 v11 v12 v13 v14 v15=>(⟨v1,(⟨v2,v3,v4,v5,v6,v7,(⟨v8,v12⟩:al_),(⟨v9,v13,v10,v14⟩:ak_)⟩:an_),v15,v11⟩:aC_)) false
noncomputable abbrev rr_:List (Nat×Cut K TyK (aC_)):=[(9,ct cod [3,4,5,6] [.c (.r 0 0), .c (.r 1 0), .c (.r 2 0), .c (.r 2 1)] [.x [.i .i64, .i .i64, .i .i64, .i .i64, .i .i64, .i .i64, .i .i64, .b, .s], .x [.i .i64, .i .i64, .b, .i .i64, .i .i64, .i .i64, .b, .i .i64, .o 3, .i .i64, .o 4, .s, .o 5, .o 6, .s], .x [.i .i64, .i .i64, .b, .i .i64, .i .i64, .i .i64, .b, .i .i64, .o 7, .i .i64, .o 8, .s, .o 9, .o 10, .s], .l .item, .l .held, .l .str, .l .packet, .l .item, .l .held, .l .str, .l .packet] dP_),
  (16,ct cod [4,5] [.c (.r 0 0), .c (.r 1 0)] [.x [.i .i64, .i .i64, .b, .i .i64, .i .i64, .i .i64, .b, .i .i64, .o 2, .i .i64, .o 3, .s, .o 4, .o 5, .s], .x [.i .i64, .i .i64, .b, .i .i64, .i .i64, .i .i64, .b, .i .i64, .o 6, .i .i64, .o 7, .s, .o 8, .o 9, .s], .l .item, .l .held, .l .str, .l .packet, .l .item, .l .held, .l .str, .l .packet] do_)]
theorem p3_ (k:Nat):SummOk Tryz.prog cod 85 (jX_ k):=aw_ codOk Tryz.f85 (fun k=>ap_ [(79,b0_ k),(81,cX_ k),(129,dJ_ k),(133,ja_ k),(134,jh_ k)]) rr_ false [.cell 4 84] 0 [] av_ Tryz.func85 (by kernel_rfl) (by kernel_rfl) (by kernel_rfl) (by kernel_rfl)
  (fun k=>Known.of cj_ ci_ codOk (all_cons (ce_ k) (all_cons (da_ k) (all_cons (eA_ k) (all_cons (oy_ k) (all_cons (oa_ k) (aa_)))))))
  (fun k=>QuietOk.of (all_cons (fun h r=>⟨rfl,rfl⟩) (all_cons (fun h r=>by cases h) (all_cons (fun h r=>⟨rfl,rfl⟩) (all_cons (fun h r=>by cases h) (all_cons (fun h r=>by cases h) (aa_)))))))
  (fun a=>rfl)
  (all_cons (aq_ codOk (by kernel_rfl) (by (repeat intro _);show _=_;kernel_rfl) (fun k=>by (repeat intro _);show _=_;kernel_rfl)) (all_cons (aq_ codOk (by kernel_rfl) (by (repeat intro _);show _=_;kernel_rfl) (fun k=>by (repeat intro _);show _=_;kernel_rfl)) (aa_)))
  (fun k=>by (repeat intro _);show _=_;kernel_rfl)
noncomputable def hd_ (k:Nat):aK_ K TyK:=sm cod (ae_) [.mv, .mv] [.c (.r 0 0), .g [.i .i64, .s, .s]] [.x [.s, .i .i64, .w 1, .o 2, .s, .o 3, .o 4], .w .xend, .l .parcel, .l .record, .l .record] (fun k v1 v2 v3 v4 v5 v6 v7 v8 v9 v10=>eo_ k (⟨v4,v5,v7,v8,v6,v9,v10⟩:ae_) (⟨v1,v2,v3⟩:ac_)) k [] [.x [.s, .i .i64, .w 5, .o 6, .s, .o 7, .o 8], .d, .d, .d, .d, .w .xend, .l .parcel, .l .record, .l .record] (fun r=>(r.Key,r.Width,(),(),r.Forged,(),(),r.Ends,r.Flight,r.Given,r.Taken,())) (fun v1 v2 v3 v4 v5 v6 v7=>(⟨v1,v2,v4,v5,v3,v6,v7⟩:ae_)) false
noncomputable abbrev mp_:List (Nat×Cut K TyK (ae_)):=[(5,ct cod [0,3,4] [.c (.r 0 0), .c (.r 5 0), .c (.r 6 0)] [.x [.s, .i .i64, .w 7, .o 8, .s, .o 9, .o 10], .d, .d, .d, .d, .x [.i .i64, .s, .s], .x [.i .i64, .i .i64, .i .i64, .i .i64, .i .i64, .i .i64, .i .i64, .b, .s], .w .xend, .l .parcel, .l .record, .l .record] bH_)]
theorem lk_ (k:Nat):SummOk Tryz.prog cod 37 (hd_ k):=aw_ codOk Tryz.f37 (fun k=>ap_ [(84,hr_ k),(85,jX_ k)]) mp_ false [] 5 [false,true,true,true,true] av_ Tryz.func37 (by kernel_rfl) (by kernel_rfl) (by kernel_rfl) (by kernel_rfl)
  (fun k=>Known.of cj_ ci_ codOk (all_cons (lW_ k) (all_cons (p3_ k) (aa_))))
  (fun k=>QuietOk.of (all_cons (fun h r=>⟨rfl,rfl⟩) (all_cons (fun h r=>by cases h) (aa_))))
  (fun a=>rfl)
  (all_cons (aq_ codOk (by kernel_rfl) (by (repeat intro _);show _=_;kernel_rfl) (fun k=>by (repeat intro _);show _=_;kernel_rfl)) (aa_))
  (fun k=>by (repeat intro _);show _=_;kernel_rfl)
noncomputable def kC_ (k:Nat):aK_ K TyK:=sm cod (an_) [.bo] [.g [.i .i64, .b, .i .i64, .i .i64, .i .i64, .b, .i .i64, .l true .item, .i .i64, .l true .held, .s, .l true .str]] [] (fun k v1 v2 v3 v4 v5 v6 v7 v8 v9 v10 v11 v12=>gS_ k (⟨v1,v2,v3,v4,v5,v6,(⟨v7,v8⟩:al_),(⟨v9,v10,v11,v12⟩:ak_)⟩:an_)) k [.g [.i .i64, .b, .i .i64, .i .i64, .i .i64, .b, .i .i64, .o 0, .i .i64, .o 1, .s, .o 2]] [.l .item, .l .held, .l .str] (fun r=>(r.Number,r.Up,r.Life,r.Peer,r.Since,r.Owes,r.Send.Base,(),r.Take.Next,(),r.Take.Open,(),r.Send.Items,r.Take.Held,r.Take.Ready,())) (fun v1 v2 v3 v4 v5 v6 v7 v8 v9 v10 v11 v12=>(⟨v1,v2,v3,v4,v5,v6,(⟨v7,v10⟩:al_),(⟨v8,v11,v9,v12⟩:ak_)⟩:an_)) false
theorem qm_ (k:Nat):SummOk Tryz.prog cod 38 (kC_ k):=aw_ codOk Tryz.f38 (fun k=>ap_ [(79,b0_ k)]) [] false [.cell 2 65] 0 [] av_ Tryz.func38 (by kernel_rfl) (by kernel_rfl) (by kernel_rfl) (by kernel_rfl)
  (fun k=>Known.of cj_ ci_ codOk (all_cons (ce_ k) (aa_)))
  (fun k=>QuietOk.of (all_cons (fun h r=>⟨rfl,rfl⟩) (aa_)))
  (fun a=>rfl)
  (aa_)
  (fun k=>by (repeat intro _);show _=_;kernel_rfl)
noncomputable def kp_ (k:Nat):aK_ K TyK:=sm cod (an_) [.bo] [.g [.i .i64, .b, .i .i64, .i .i64, .i .i64, .b, .i .i64, .l true .item, .i .i64, .l true .held, .s, .l true .str]] [] (fun k v1 v2 v3 v4 v5 v6 v7 v8 v9 v10 v11 v12=>gM_ k (⟨v1,v2,v3,v4,v5,v6,(⟨v7,v8⟩:al_),(⟨v9,v10,v11,v12⟩:ak_)⟩:an_)) k [.g [.i .i64, .b, .i .i64, .i .i64, .i .i64, .b, .i .i64, .o 0, .i .i64, .o 1, .s, .o 2]] [.l .item, .l .held, .l .str] (fun r=>(r.Number,r.Up,r.Life,r.Peer,r.Since,r.Owes,r.Send.Base,(),r.Take.Next,(),r.Take.Open,(),r.Send.Items,r.Take.Held,r.Take.Ready,())) (fun v1 v2 v3 v4 v5 v6 v7 v8 v9 v10 v11 v12=>(⟨v1,v2,v3,v4,v5,v6,(⟨v7,v10⟩:al_),(⟨v8,v11,v9,v12⟩:ak_)⟩:an_)) false
theorem q1_ (k:Nat):SummOk Tryz.prog cod 39 (kp_ k):=aw_ codOk Tryz.f39 (fun k=>ap_ [(79,b0_ k),(81,cX_ k)]) [] false [.cell 2 65] 0 [] av_ Tryz.func39 (by kernel_rfl) (by kernel_rfl) (by kernel_rfl) (by kernel_rfl)
  (fun k=>Known.of cj_ ci_ codOk (all_cons (ce_ k) (all_cons (da_ k) (aa_))))
  (fun k=>QuietOk.of (all_cons (fun h r=>⟨rfl,rfl⟩) (all_cons (fun h r=>by cases h) (aa_))))
  (fun a=>rfl)
  (aa_)
  (fun k=>by (repeat intro _);show _=_;kernel_rfl)
noncomputable def fe_ (k:Nat):aK_ K TyK:=sm cod (Bool×ae_) [.mv] [.c (.r 0 0)] [.x [.s, .i .i64, .w 1, .o 2, .s, .o 3, .o 4], .w .xend, .l .parcel, .l .record, .l .record] (fun k v1 v2 v3 v4 v5 v6 v7=>dU_ k (⟨v1,v2,v4,v5,v3,v6,v7⟩:ae_)) k [.c (.b)] [.x [.s, .i .i64, .w 5, .o 6, .s, .o 7, .o 8], .d, .d, .d, .d, .w .xend, .l .parcel, .l .record, .l .record] (fun r=>(r.1,r.2.Key,r.2.Width,(),(),r.2.Forged,(),(),r.2.Ends,r.2.Flight,r.2.Given,r.2.Taken,())) (fun v1 v2 v3 v4 v5 v6 v7 v8=>(v1,(⟨v2,v3,v5,v6,v4,v7,v8⟩:ae_))) false
theorem g2_ (k:Nat):SummOk Tryz.prog cod 40 (fe_ k):=aw_ codOk Tryz.f40 (fun k=>ap_ []) [] false [.tmp 2] 5 [false,true,true,true,true] av_ Tryz.func40 (by kernel_rfl) (by kernel_rfl) (by kernel_rfl) (by kernel_rfl)
  (fun k=>Known.of cj_ ci_ codOk (aa_))
  (fun k=>QuietOk.of (aa_))
  (fun a=>rfl)
  (aa_)
  (fun k=>by (repeat intro _);show _=_;kernel_rfl)
noncomputable def ss_ (k:Nat):aK_ K TyK:=sm cod (List aE_) [.bo] [.c (.s)] [] (mi_) k [.c (.o 0)] [.l .part] (fun r=>((),r,())) (fun v1=>v1) false
noncomputable abbrev ym_:List (Nat×Cut K TyK (List aE_)):=[(4,ct cod [0,3] [.c (.s), .c (.o 0)] [.l .part] gl_)]
theorem wy_ (k:Nat):SummOk Tryz.prog cod 135 (ss_ k):=aw_ codOk Tryz.f135 (fun k=>ap_ []) ym_ false [.tmp 2] 0 [] av_ Tryz.func135 (by kernel_rfl) (by kernel_rfl) (by kernel_rfl) (by kernel_rfl)
  (fun k=>Known.of cj_ ci_ codOk (aa_))
  (fun k=>QuietOk.of (aa_))
  (fun a=>rfl)
  (all_cons (aq_ codOk (by kernel_rfl) (by (repeat intro _);show _=_;kernel_rfl) (fun k=>by (repeat intro _);show _=_;kernel_rfl)) (aa_))
  (fun k=>by (repeat intro _);show _=_;kernel_rfl)
noncomputable def jD_ (k:Nat):aK_ K TyK:=sm cod (al_×Int) [.bo, .bo] [.g [.i .i64, .l true .item], .c (.s)] [] (fun k v1 v2 v3=>ga_ k (⟨v1,v2⟩:al_) v3) k [.g [.i .i64, .o 0], .c (.i .i64)] [.l .item] (fun r=>(r.1.Base,(),r.2,r.1.Items,())) (fun v1 v2 v3=>((⟨v1,v3⟩:al_),v2)) false
noncomputable abbrev pb_:List (Nat×Cut K TyK (al_×Int)):=[(9,ct cod [4,8,40,41,42] [.c (.r 0 0), .c (.r 1 0), .c (.o 2), .c (.i .i64), .c (.i .i64)] [.x [.i .i64, .o 3], .x [.i .i64, .o 4], .l .part, .l .item, .l .item] cP_)]
theorem od_ (k:Nat):SummOk Tryz.prog cod 86 (jD_ k):=aw_ codOk Tryz.f86 (fun k=>ap_ [(121,dv_ k),(135,ss_ k),(125,dV_ k)]) pb_ false [.cell 4 59, .tmp 5] 0 [] av_ Tryz.func86 (by kernel_rfl) (by kernel_rfl) (by kernel_rfl) (by kernel_rfl)
  (fun k=>Known.of cj_ ci_ codOk (all_cons (dZ_ k) (all_cons (wy_ k) (all_cons (eu_ k) (aa_)))))
  (fun k=>QuietOk.of (all_cons (fun h r=>⟨rfl,rfl⟩) (all_cons (fun h r=>by cases h) (all_cons (fun h r=>by cases h) (aa_)))))
  (fun a=>rfl)
  (all_cons (aq_ codOk (by kernel_rfl) (by (repeat intro _);show _=_;kernel_rfl) (fun k=>by (repeat intro _);show _=_;kernel_rfl)) (aa_))
  (fun k=>by (repeat intro _);show _=_;kernel_rfl)
noncomputable def jZ_ (k:Nat):aK_ K TyK:=sm cod (aC_) [.bo, .bo] [.g [.i .i64, .b, .i .i64, .i .i64, .i .i64, .b, .i .i64, .l true .item, .i .i64, .l true .held, .s, .l true .str], .c (.s)] [] (fun k v1 v2 v3 v4 v5 v6 v7 v8 v9 v10 v11 v12 v13=>fz_ k (⟨v1,v2,v3,v4,v5,v6,(⟨v7,v8⟩:al_),(⟨v9,v10,v11,v12⟩:ak_)⟩:an_) v13) k [.g [.i .i64, .i .i64, .b, .i .i64, .i .i64, .i .i64, .b, .i .i64, .o 0, .i .i64, .o 1, .s, .o 2, .o 3, .s]] [.l .item, .l .held, .l .str, .l .packet] (fun r=>(r.Code,r.End.Number,r.End.Up,r.End.Life,r.End.Peer,r.End.Since,r.End.Owes,r.End.Send.Base,(),r.End.Take.Next,(),r.End.Take.Open,(),(),r.Text,r.End.Send.Items,r.End.Take.Held,r.End.Take.Ready,r.Out,())) (fun v1 v2 v3 v4 v5 v6 v7 v8 v9 v10 v11 v12 v13 v14 v15=>(⟨v1,(⟨v2,v3,v4,v5,v6,v7,(⟨v8,v12⟩:al_),(⟨v9,v13,v10,v14⟩:ak_)⟩:an_),v15,v11⟩:aC_)) false
theorem pr_ (k:Nat):SummOk Tryz.prog cod 41 (jZ_ k):=aw_ codOk Tryz.f41 (fun k=>ap_ [(79,b0_ k),(86,jD_ k),(81,cX_ k)]) [] false [.cell 4 84] 0 [] av_ Tryz.func41 (by kernel_rfl) (by kernel_rfl) (by kernel_rfl) (by kernel_rfl)
  (fun k=>Known.of cj_ ci_ codOk (all_cons (ce_ k) (all_cons (od_ k) (all_cons (da_ k) (aa_)))))
  (fun k=>QuietOk.of (all_cons (fun h r=>⟨rfl,rfl⟩) (all_cons (fun h r=>by cases h) (all_cons (fun h r=>by cases h) (aa_)))))
  (fun a=>rfl)
  (aa_)
  (fun k=>by (repeat intro _);show _=_;kernel_rfl)
noncomputable def iP_ (k:Nat):aK_ K TyK:=sm cod (ak_×ByteArray×Bool) [.bo] [.g [.i .i64, .l true .held, .s, .l true .str]] [] (fun k v1 v2 v3 v4=>f9_ k (⟨v1,v2,v3,v4⟩:ak_)) k [.g [.i .i64, .o 0, .s, .o 1], .c (.s), .c (.b)] [.l .held, .l .str] (fun r=>(r.1.Next,(),r.1.Open,(),r.2.1,r.2.2,r.1.Held,r.1.Ready,())) (fun v1 v2 v3 v4 v5 v6=>((⟨v1,v5,v2,v6⟩:ak_),v3,v4)) false
theorem oo_ (k:Nat):SummOk Tryz.prog cod 136 (iP_ k):=aw_ codOk Tryz.f136 (fun k=>ap_ [(122,dt_ k),(126,e3_ k),(155,kT_ k)]) [] false [.cell 2 63, .tmp 3, .tmp 4] 0 [] av_ Tryz.func136 (by kernel_rfl) (by kernel_rfl) (by kernel_rfl) (by kernel_rfl)
  (fun k=>Known.of cj_ ci_ codOk (all_cons (d2_ k) (all_cons (fL_ k) (all_cons (nH_ k) (aa_)))))
  (fun k=>QuietOk.of (all_cons (fun h r=>⟨rfl,rfl⟩) (all_cons (fun h r=>by cases h) (all_cons (fun h r=>by cases h) (aa_)))))
  (fun a=>rfl)
  (aa_)
  (fun k=>by (repeat intro _);show _=_;kernel_rfl)
noncomputable def kx_ (k:Nat):aK_ K TyK:=sm cod (aC_) [.bo] [.g [.i .i64, .b, .i .i64, .i .i64, .i .i64, .b, .i .i64, .l true .item, .i .i64, .l true .held, .s, .l true .str]] [] (fun k v1 v2 v3 v4 v5 v6 v7 v8 v9 v10 v11 v12=>hf_ k (⟨v1,v2,v3,v4,v5,v6,(⟨v7,v8⟩:al_),(⟨v9,v10,v11,v12⟩:ak_)⟩:an_)) k [.g [.i .i64, .i .i64, .b, .i .i64, .i .i64, .i .i64, .b, .i .i64, .o 0, .i .i64, .o 1, .s, .o 2, .o 3, .s]] [.l .item, .l .held, .l .str, .l .packet] (fun r=>(r.Code,r.End.Number,r.End.Up,r.End.Life,r.End.Peer,r.End.Since,r.End.Owes,r.End.Send.Base,(),r.End.Take.Next,(),r.End.Take.Open,(),(),r.Text,r.End.Send.Items,r.End.Take.Held,r.End.Take.Ready,r.Out,())) (fun v1 v2 v3 v4 v5 v6 v7 v8 v9 v10 v11 v12 v13 v14 v15=>(⟨v1,(⟨v2,v3,v4,v5,v6,v7,(⟨v8,v12⟩:al_),(⟨v9,v13,v10,v14⟩:ak_)⟩:an_),v15,v11⟩:aC_)) false
theorem qe_ (k:Nat):SummOk Tryz.prog cod 87 (kx_ k):=aw_ codOk Tryz.f87 (fun k=>ap_ [(79,b0_ k),(136,iP_ k),(81,cX_ k)]) [] false [.cell 2 84] 0 [] av_ Tryz.func87 (by kernel_rfl) (by kernel_rfl) (by kernel_rfl) (by kernel_rfl)
  (fun k=>Known.of cj_ ci_ codOk (all_cons (ce_ k) (all_cons (oo_ k) (all_cons (da_ k) (aa_)))))
  (fun k=>QuietOk.of (all_cons (fun h r=>⟨rfl,rfl⟩) (all_cons (fun h r=>by cases h) (all_cons (fun h r=>by cases h) (aa_)))))
  (fun a=>rfl)
  (aa_)
  (fun k=>by (repeat intro _);show _=_;kernel_rfl)
noncomputable def hH_ (k:Nat):aK_ K TyK:=sm cod (ae_) [.mv, .mv] [.c (.r 0 0), .c (.i .i64)] [.x [.s, .i .i64, .w 1, .o 2, .s, .o 3, .o 4], .w .xend, .l .parcel, .l .record, .l .record] (fun k v1 v2 v3 v4 v5 v6 v7 v8=>e4_ k (⟨v2,v3,v5,v6,v4,v7,v8⟩:ae_) v1) k [] [.x [.s, .i .i64, .w 5, .o 6, .s, .o 7, .o 8], .d, .d, .d, .d, .w .xend, .l .parcel, .l .record, .l .record] (fun r=>(r.Key,r.Width,(),(),r.Forged,(),(),r.Ends,r.Flight,r.Given,r.Taken,())) (fun v1 v2 v3 v4 v5 v6 v7=>(⟨v1,v2,v4,v5,v3,v6,v7⟩:ae_)) false
theorem l8_ (k:Nat):SummOk Tryz.prog cod 42 (hH_ k):=aw_ codOk Tryz.f42 (fun k=>ap_ [(40,fe_ k),(87,kx_ k)]) [] false [] 5 [false,true,true,true,true] av_ Tryz.func42 (by kernel_rfl) (by kernel_rfl) (by kernel_rfl) (by kernel_rfl)
  (fun k=>Known.of cj_ ci_ codOk (all_cons (g2_ k) (all_cons (qe_ k) (aa_))))
  (fun k=>QuietOk.of (all_cons (fun h r=>by cases h) (all_cons (fun h r=>by cases h) (aa_))))
  (fun a=>rfl)
  (aa_)
  (fun k=>by (repeat intro _);show _=_;kernel_rfl)
noncomputable def uV_ (k:Nat):aK_ K TyK:=sm cod (ae_) [.bo, .bo] [.g [.s, .i .i64, .l true .xend, .l true .parcel, .s, .l true .record, .l true .record], .g [.i .i64, .i .i64, .i .i64, .i .i64, .s]] [] (fun k v1 v2 v3 v4 v5 v6 v7 v8 v9 v10 v11 v12=>bI_ k (⟨v1,v2,v3,v4,v5,v6,v7⟩:ae_) (⟨v8,v9,v10,v11,v12⟩:bu_)) k [.g [.s, .i .i64, .w 0, .o 1, .s, .o 2, .o 3]] [.w .xend, .l .parcel, .l .record, .l .record] (fun r=>(r.Key,r.Width,(),(),r.Forged,(),(),r.Ends,r.Flight,r.Given,r.Taken,())) (fun v1 v2 v3 v4 v5 v6 v7=>(⟨v1,v2,v4,v5,v3,v6,v7⟩:ae_)) false
noncomputable abbrev zP_:List (Nat×Cut K TyK (ae_)):=[(5,ct cod [3,4,5,6] [.c (.r 0 0), .c (.r 1 0), .c (.r 2 0), .c (.b)] [.x [.i .i64, .i .i64, .i .i64, .i .i64, .s], .x [.s, .i .i64, .w 3, .o 4, .s, .o 5, .o 6], .x [.s, .i .i64, .w 7, .o 8, .s, .o 9, .o 10], .w .xend, .l .parcel, .l .record, .l .record, .w .xend, .l .parcel, .l .record, .l .record] ht_),
  (6,ct cod [3,4,5,6,7] [.c (.r 0 0), .c (.r 1 0), .c (.r 2 0), .c (.b), .c (.b)] [.x [.i .i64, .i .i64, .i .i64, .i .i64, .s], .x [.s, .i .i64, .w 3, .o 4, .s, .o 5, .o 6], .x [.s, .i .i64, .w 7, .o 8, .s, .o 9, .o 10], .w .xend, .l .parcel, .l .record, .l .record, .w .xend, .l .parcel, .l .record, .l .record] hx_),
  (45,ct cod [4,5] [.c (.r 0 0), .c (.r 1 0)] [.x [.s, .i .i64, .w 2, .o 3, .s, .o 4, .o 5], .x [.s, .i .i64, .w 6, .o 7, .s, .o 8, .o 9], .w .xend, .l .parcel, .l .record, .l .record, .w .xend, .l .parcel, .l .record, .l .record] au_),
  (11,ct cod [3,4,5,7] [.c (.r 0 0), .c (.r 1 0), .c (.r 2 0), .c (.b)] [.x [.i .i64, .i .i64, .i .i64, .i .i64, .s], .x [.s, .i .i64, .w 3, .o 4, .s, .o 5, .o 6], .x [.s, .i .i64, .w 7, .o 8, .s, .o 9, .o 10], .w .xend, .l .parcel, .l .record, .l .record, .w .xend, .l .parcel, .l .record, .l .record] gt_),
  (16,ct cod [3,4,5,6,7,37] [.c (.r 0 0), .c (.r 1 0), .c (.r 2 0), .c (.b), .c (.b), .c (.i .i64)] [.x [.i .i64, .i .i64, .i .i64, .i .i64, .s], .x [.s, .i .i64, .w 3, .o 4, .s, .o 5, .o 6], .x [.s, .i .i64, .w 7, .o 8, .s, .o 9, .o 10], .w .xend, .l .parcel, .l .record, .l .record, .w .xend, .l .parcel, .l .record, .l .record] ig_)]
theorem ys_ (k:Nat):SummOk Tryz.prog cod 11 (uV_ k):=aw_ codOk Tryz.f11 (fun k=>ap_ [(34,hE_ k),(35,dI_ k),(36,hz_ k),(37,hd_ k),(38,kC_ k),(39,kp_ k),(40,fe_ k),(41,jZ_ k),(42,hH_ k)]) zP_ false [.cell 4 29] 0 [] av_ Tryz.func11 (by kernel_rfl) (by kernel_rfl) (by kernel_rfl) (by kernel_rfl)
  (fun k=>Known.of cj_ ci_ codOk (all_cons (lX_ k) (all_cons (kS_ k) (all_cons (l6_ k) (all_cons (lk_ k) (all_cons (qm_ k) (all_cons (q1_ k) (all_cons (g2_ k) (all_cons (pr_ k) (all_cons (l8_ k) (aa_)))))))))))
  (fun k=>QuietOk.of (all_cons (fun h r=>⟨rfl,rfl⟩) (all_cons (fun h r=>by cases h) (all_cons (fun h r=>by cases h) (all_cons (fun h r=>by cases h) (all_cons (fun h r=>by cases h) (all_cons (fun h r=>by cases h) (all_cons (fun h r=>by cases h) (all_cons (fun h r=>by cases h) (all_cons (fun h r=>by cases h) (aa_)))))))))))
  (fun a=>rfl)
  (all_cons (aq_ codOk (by kernel_rfl) (by (repeat intro _);show _=_;kernel_rfl) (fun k=>by (repeat intro _);show _=_;kernel_rfl)) (all_cons (aq_ codOk (by kernel_rfl) (by (repeat intro _);show _=_;kernel_rfl) (fun k=>by (repeat intro _);show _=_;kernel_rfl)) (all_cons (aq_ codOk (by kernel_rfl) (by (repeat intro _);show _=_;kernel_rfl) (fun k=>by (repeat intro _);show _=_;kernel_rfl)) (all_cons (aq_ codOk (by kernel_rfl) (by (repeat intro _);show _=_;kernel_rfl) (fun k=>by (repeat intro _);show _=_;kernel_rfl)) (all_cons (aq_ codOk (by kernel_rfl) (by (repeat intro _);show _=_;kernel_rfl) (fun k=>by (repeat intro _);show _=_;kernel_rfl)) (aa_))))))
  (fun k=>by (repeat intro _);show _=_;kernel_rfl)
noncomputable def dr_ (k:Nat):aK_ K TyK:=sm cod (Bool) [.bo] [.g [.i .i64, .l true .item]] [] (fun k v1 v2=>bx_ k (⟨v1,v2⟩:al_)) k [.c (.b)] [] (fun r=>(r,())) (fun v1=>v1) true
noncomputable abbrev on_:List (Nat×Cut K TyK (Bool)):=[(4,ct cod [1,3] [.c (.r 0 0), .c (.i .i64)] [.x [.i .i64, .l true .item]] aS_)]
theorem d4_ (k:Nat):SummOk Tryz.prog cod 92 (dr_ k):=aw_ codOk Tryz.f92 (fun k=>ap_ [(28,bM_ k)]) on_ false [.tmp 2] 0 [] av_ Tryz.func92 (by kernel_rfl) (by kernel_rfl) (by kernel_rfl) (by kernel_rfl)
  (fun k=>Known.of tok eok codOk (all_cons (bB_ k) (aa_)))
  (fun k=>QuietOk.of (all_cons (fun h r=>⟨rfl,rfl⟩) (aa_)))
  (fun a=>rfl)
  (all_cons (aq_ codOk (by kernel_rfl) (by (repeat intro _);show _=_;kernel_rfl) (fun k=>by (repeat intro _);show _=_;kernel_rfl)) (aa_))
  (fun k=>by (repeat intro _);show _=_;kernel_rfl)
noncomputable def hX_ (k:Nat):aK_ K TyK:=sm cod (Bool) [.bo, .bo] [.g [.i .i64, .l true .held, .s, .l true .str], .c (.i .i64)] [] (fun k v1 v2 v3 v4 v5=>gp_ k (⟨v1,v2,v3,v4⟩:ak_) v5) k [.c (.b)] [] (fun r=>(r,())) (fun v1=>v1) true
theorem ko_ (k:Nat):SummOk Tryz.prog cod 139 (hX_ k):=aw_ codOk Tryz.f139 (fun k=>ap_ [(28,bM_ k)]) [] false [.tmp 4] 0 [] av_ Tryz.func139 (by kernel_rfl) (by kernel_rfl) (by kernel_rfl) (by kernel_rfl)
  (fun k=>Known.of tok eok codOk (all_cons (bB_ k) (aa_)))
  (fun k=>QuietOk.of (all_cons (fun h r=>⟨rfl,rfl⟩) (aa_)))
  (fun a=>rfl)
  (aa_)
  (fun k=>by (repeat intro _);show _=_;kernel_rfl)
noncomputable def jl_ (k:Nat):aK_ K TyK:=sm cod (Bool) [.bo, .bo] [.g [.i .i64, .l true .held, .s, .l true .str], .g [.s, .b]] [] (fun k v1 v2 v3 v4 v5 v6=>eG_ k (⟨v1,v2,v3,v4⟩:ak_) (⟨v5,v6⟩:aE_)) k [.c (.b)] [] (fun r=>(r,())) (fun v1=>v1) true
theorem l5_ (k:Nat):SummOk Tryz.prog cod 140 (jl_ k):=aw_ codOk Tryz.f140 (fun k=>ap_ []) [] false [.tmp 4] 0 [] av_ Tryz.func140 (by kernel_rfl) (by kernel_rfl) (by kernel_rfl) (by kernel_rfl)
  (fun k=>Known.of tok eok codOk (aa_))
  (fun k=>QuietOk.of (aa_))
  (fun a=>rfl)
  (aa_)
  (fun k=>by (repeat intro _);show _=_;kernel_rfl)
noncomputable def ds_ (k:Nat):aK_ K TyK:=sm cod (Bool) [.bo] [.g [.i .i64, .l true .held, .s, .l true .str]] [] (fun k v1 v2 v3 v4=>cW_ k (⟨v1,v2,v3,v4⟩:ak_)) k [.c (.b)] [] (fun r=>(r,())) (fun v1=>v1) true
noncomputable abbrev oF_:List (Nat×Cut K TyK (Bool)):=[(4,ct cod [1,3] [.c (.r 0 0), .c (.i .i64)] [.x [.i .i64, .l true .held, .s, .l true .str]] cv_),
  (9,ct cod [1,4] [.c (.r 0 0), .c (.i .i64)] [.x [.i .i64, .l true .held, .s, .l true .str]] aR_)]
theorem d5_ (k:Nat):SummOk Tryz.prog cod 93 (ds_ k):=aw_ codOk Tryz.f93 (fun k=>ap_ [(28,bM_ k),(139,hX_ k),(140,jl_ k)]) oF_ false [.tmp 2] 0 [] av_ Tryz.func93 (by kernel_rfl) (by kernel_rfl) (by kernel_rfl) (by kernel_rfl)
  (fun k=>Known.of tok eok codOk (all_cons (bB_ k) (all_cons (ko_ k) (all_cons (l5_ k) (aa_)))))
  (fun k=>QuietOk.of (all_cons (fun h r=>⟨rfl,rfl⟩) (all_cons (fun h r=>⟨rfl,rfl⟩) (all_cons (fun h r=>⟨rfl,rfl⟩) (aa_)))))
  (fun a=>rfl)
  (all_cons (aq_ codOk (by kernel_rfl) (by (repeat intro _);show _=_;kernel_rfl) (fun k=>by (repeat intro _);show _=_;kernel_rfl)) (all_cons (aq_ codOk (by kernel_rfl) (by (repeat intro _);show _=_;kernel_rfl) (fun k=>by (repeat intro _);show _=_;kernel_rfl)) (aa_)))
  (fun k=>by (repeat intro _);show _=_;kernel_rfl)
noncomputable def iN_ (k:Nat):aK_ K TyK:=sm cod (Bool) [.bo] [.g [.i .i64, .l true .item]] [] (fun k v1 v2=>f6_ k (⟨v1,v2⟩:al_)) k [.c (.b)] [] (fun r=>(r,())) (fun v1=>v1) true
theorem n8_ (k:Nat):SummOk Tryz.prog cod 94 (iN_ k):=aw_ codOk Tryz.f94 (fun k=>ap_ []) [] false [.tmp 2] 0 [] av_ Tryz.func94 (by kernel_rfl) (by kernel_rfl) (by kernel_rfl) (by kernel_rfl)
  (fun k=>Known.of tok eok codOk (aa_))
  (fun k=>QuietOk.of (aa_))
  (fun a=>rfl)
  (aa_)
  (fun k=>by (repeat intro _);show _=_;kernel_rfl)
noncomputable def i1_ (k:Nat):aK_ K TyK:=sm cod (Bool) [.bo] [.g [.i .i64, .l true .held, .s, .l true .str]] [] (fun k v1 v2 v3 v4=>gc_ k (⟨v1,v2,v3,v4⟩:ak_)) k [.c (.b)] [] (fun r=>(r,())) (fun v1=>v1) true
theorem n5_ (k:Nat):SummOk Tryz.prog cod 95 (i1_ k):=aw_ codOk Tryz.f95 (fun k=>ap_ []) [] false [.tmp 2] 0 [] av_ Tryz.func95 (by kernel_rfl) (by kernel_rfl) (by kernel_rfl) (by kernel_rfl)
  (fun k=>Known.of tok eok codOk (aa_))
  (fun k=>QuietOk.of (aa_))
  (fun a=>rfl)
  (aa_)
  (fun k=>by (repeat intro _);show _=_;kernel_rfl)
noncomputable def bY_ (k:Nat):aK_ K TyK:=sm cod (Bool) [.bo] [.g [.i .i64, .b, .i .i64, .i .i64, .i .i64, .b, .i .i64, .l true .item, .i .i64, .l true .held, .s, .l true .str]] [] (fun k v1 v2 v3 v4 v5 v6 v7 v8 v9 v10 v11 v12=>bS_ k (⟨v1,v2,v3,v4,v5,v6,(⟨v7,v8⟩:al_),(⟨v9,v10,v11,v12⟩:ak_)⟩:an_)) k [.c (.b)] [] (fun r=>(r,())) (fun v1=>v1) true
theorem cd_ (k:Nat):SummOk Tryz.prog cod 47 (bY_ k):=aw_ codOk Tryz.f47 (fun k=>ap_ [(28,bM_ k),(92,dr_ k),(93,ds_ k),(94,iN_ k),(95,i1_ k)]) [] false [.tmp 2] 0 [] av_ Tryz.func47 (by kernel_rfl) (by kernel_rfl) (by kernel_rfl) (by kernel_rfl)
  (fun k=>Known.of tok eok codOk (all_cons (bB_ k) (all_cons (d4_ k) (all_cons (d5_ k) (all_cons (n8_ k) (all_cons (n5_ k) (aa_)))))))
  (fun k=>QuietOk.of (all_cons (fun h r=>⟨rfl,rfl⟩) (all_cons (fun h r=>⟨rfl,rfl⟩) (all_cons (fun h r=>⟨rfl,rfl⟩) (all_cons (fun h r=>⟨rfl,rfl⟩) (all_cons (fun h r=>⟨rfl,rfl⟩) (aa_)))))))
  (fun a=>rfl)
  (aa_)
  (fun k=>by (repeat intro _);show _=_;kernel_rfl)
noncomputable def he_ (k:Nat):aK_ K TyK:=sm cod (Bool) [.bo] [.c (.l true .record)] [] (et_) k [.c (.b)] [] (fun r=>(r,())) (fun v1=>v1) true
noncomputable abbrev ls_:List (Nat×Cut K TyK (Bool)):=[(2,ct cod [0,3] [.c (.l true .record), .c (.i .i64)] [] bE_)]
theorem lj_ (k:Nat):SummOk Tryz.prog cod 48 (he_ k):=aw_ codOk Tryz.f48 (fun k=>ap_ [(28,bM_ k)]) ls_ false [.tmp 2] 0 [] av_ Tryz.func48 (by kernel_rfl) (by kernel_rfl) (by kernel_rfl) (by kernel_rfl)
  (fun k=>Known.of tok eok codOk (all_cons (bB_ k) (aa_)))
  (fun k=>QuietOk.of (all_cons (fun h r=>⟨rfl,rfl⟩) (aa_)))
  (fun a=>rfl)
  (all_cons (aq_ codOk (by kernel_rfl) (by (repeat intro _);show _=_;kernel_rfl) (fun k=>by (repeat intro _);show _=_;kernel_rfl)) (aa_))
  (fun k=>by (repeat intro _);show _=_;kernel_rfl)
noncomputable def hA_ (k:Nat):aK_ K TyK:=sm cod (Bool) [.bo] [.g [.s, .i .i64, .l true .end, .l true .parcel, .s, .l true .record, .l true .record]] [] (fun k v1 v2 v3 v4 v5 v6 v7=>eL_ k (⟨v1,v2,v3,v4,v5,v6,v7⟩:ae_)) k [.c (.b)] [] (fun r=>(r,())) (fun v1=>v1) true
noncomputable abbrev mH_:List (Nat×Cut K TyK (Bool)):=[(4,ct cod [1,3] [.c (.r 0 0), .c (.i .i64)] [.x [.s, .i .i64, .l true .end, .l true .parcel, .s, .l true .record, .l true .record]] b4_),
  (9,ct cod [1,4] [.c (.r 0 0), .c (.i .i64)] [.x [.s, .i .i64, .l true .end, .l true .parcel, .s, .l true .record, .l true .record]] b6_)]
theorem lQ_ (k:Nat):SummOk Tryz.prog cod 14 (hA_ k):=aw_ codOk Tryz.f14 (fun k=>ap_ [(28,bM_ k),(47,bY_ k),(48,he_ k)]) mH_ false [.tmp 2] 0 [] av_ Tryz.func14 (by kernel_rfl) (by kernel_rfl) (by kernel_rfl) (by kernel_rfl)
  (fun k=>Known.of tok eok codOk (all_cons (bB_ k) (all_cons (cd_ k) (all_cons (lj_ k) (aa_)))))
  (fun k=>QuietOk.of (all_cons (fun h r=>⟨rfl,rfl⟩) (all_cons (fun h r=>⟨rfl,rfl⟩) (all_cons (fun h r=>⟨rfl,rfl⟩) (aa_)))))
  (fun a=>rfl)
  (all_cons (aq_ codOk (by kernel_rfl) (by (repeat intro _);show _=_;kernel_rfl) (fun k=>by (repeat intro _);show _=_;kernel_rfl)) (all_cons (aq_ codOk (by kernel_rfl) (by (repeat intro _);show _=_;kernel_rfl) (fun k=>by (repeat intro _);show _=_;kernel_rfl)) (aa_)))
  (fun k=>by (repeat intro _);show _=_;kernel_rfl)
noncomputable def eT_ (k:Nat):aK_ K TyK:=sm cod (al_) [.bo] [.g [.i .i64, .l true .item]] [] (fun k v1 v2=>eC_ k (⟨v1,v2⟩:al_)) k [.g [.i .i64, .o 0]] [.l .item] (fun r=>(r.Base,(),r.Items,())) (fun v1 v2=>(⟨v1,v2⟩:al_)) false
theorem ft_ (k:Nat):SummOk Tryz.prog cod 137 (eT_ k):=aw_ codOk Tryz.f137 (fun k=>ap_ []) [] false [.cell 2 59] 0 [] av_ Tryz.func137 (by kernel_rfl) (by kernel_rfl) (by kernel_rfl) (by kernel_rfl)
  (fun k=>Known.of tok eok codOk (aa_))
  (fun k=>QuietOk.of (aa_))
  (fun a=>rfl)
  (aa_)
  (fun k=>by (repeat intro _);show _=_;kernel_rfl)
noncomputable def f2_ (k:Nat):aK_ K TyK:=sm cod (ak_) [.bo] [.g [.i .i64, .l true .held, .s, .l true .str]] [] (fun k v1 v2 v3 v4=>fa_ k (⟨v1,v2,v3,v4⟩:ak_)) k [.g [.i .i64, .o 0, .s, .o 1]] [.l .held, .l .str] (fun r=>(r.Next,(),r.Open,(),r.Held,r.Ready,())) (fun v1 v2 v3 v4=>(⟨v1,v3,v2,v4⟩:ak_)) false
theorem hk_ (k:Nat):SummOk Tryz.prog cod 138 (f2_ k):=aw_ codOk Tryz.f138 (fun k=>ap_ []) [] false [.cell 2 63] 0 [] av_ Tryz.func138 (by kernel_rfl) (by kernel_rfl) (by kernel_rfl) (by kernel_rfl)
  (fun k=>Known.of tok eok codOk (aa_))
  (fun k=>QuietOk.of (aa_))
  (fun a=>rfl)
  (aa_)
  (fun k=>by (repeat intro _);show _=_;kernel_rfl)
noncomputable def di_ (k:Nat):aK_ K TyK:=sm cod (an_) [.bo] [.g [.i .i64, .b, .i .i64, .i .i64, .i .i64, .b, .i .i64, .l true .item, .i .i64, .l true .held, .s, .l true .str]] [] (fun k v1 v2 v3 v4 v5 v6 v7 v8 v9 v10 v11 v12=>cV_ k (⟨v1,v2,v3,v4,v5,v6,(⟨v7,v8⟩:al_),(⟨v9,v10,v11,v12⟩:ak_)⟩:an_)) k [.g [.i .i64, .b, .i .i64, .i .i64, .i .i64, .b, .i .i64, .o 0, .i .i64, .o 1, .s, .o 2]] [.l .item, .l .held, .l .str] (fun r=>(r.Number,r.Up,r.Life,r.Peer,r.Since,r.Owes,r.Send.Base,(),r.Take.Next,(),r.Take.Open,(),r.Send.Items,r.Take.Held,r.Take.Ready,())) (fun v1 v2 v3 v4 v5 v6 v7 v8 v9 v10 v11 v12=>(⟨v1,v2,v3,v4,v5,v6,(⟨v7,v10⟩:al_),(⟨v8,v11,v9,v12⟩:ak_)⟩:an_)) false
theorem dB_ (k:Nat):SummOk Tryz.prog cod 88 (di_ k):=aw_ codOk Tryz.f88 (fun k=>ap_ [(137,eT_ k),(138,f2_ k)]) [] false [.cell 2 65] 0 [] av_ Tryz.func88 (by kernel_rfl) (by kernel_rfl) (by kernel_rfl) (by kernel_rfl)
  (fun k=>Known.of tok eok codOk (all_cons (ft_ k) (all_cons (hk_ k) (aa_))))
  (fun k=>QuietOk.of (all_cons (fun h r=>by cases h) (all_cons (fun h r=>by cases h) (aa_))))
  (fun a=>rfl)
  (aa_)
  (fun k=>by (repeat intro _);show _=_;kernel_rfl)
noncomputable def lL_ (k:Nat):aK_ K TyK:=sm cod (ae_) [.bo] [.g [.s, .i .i64, .l true .end, .l true .parcel, .s, .l true .record, .l true .record]] [] (fun k v1 v2 v3 v4 v5 v6 v7=>gr_ k (⟨v1,v2,v3,v4,v5,v6,v7⟩:ae_)) k [.g [.s, .i .i64, .o 0, .o 1, .s, .o 2, .o 3]] [.l .end, .l .parcel, .l .record, .l .record] (fun r=>(r.Key,r.Width,(),(),r.Forged,(),(),r.Ends,r.Flight,r.Given,r.Taken,())) (fun v1 v2 v3 v4 v5 v6 v7=>(⟨v1,v2,v4,v5,v3,v6,v7⟩:ae_)) false
noncomputable abbrev ts_:List (Nat×Cut K TyK (ae_)):=[(4,ct cod [1,2,3,4] [.c (.r 0 0), .c (.r 1 0), .c (.r 2 0), .c (.i .i64)] [.x [.s, .i .i64, .l true .end, .l true .parcel, .s, .l true .record, .l true .record], .x [.s, .i .i64, .o 3, .o 4, .s, .o 5, .o 6], .x [.s, .i .i64, .o 7, .l true .parcel, .s, .l true .record, .l true .record], .l .end, .l .parcel, .l .record, .l .record, .l .end] dE_)]
theorem rH_ (k:Nat):SummOk Tryz.prog cod 43 (lL_ k):=aw_ codOk Tryz.f43 (fun k=>ap_ [(88,di_ k)]) ts_ false [.cell 2 29] 0 [] av_ Tryz.func43 (by kernel_rfl) (by kernel_rfl) (by kernel_rfl) (by kernel_rfl)
  (fun k=>Known.of tok eok codOk (all_cons (dB_ k) (aa_)))
  (fun k=>QuietOk.of (all_cons (fun h r=>by cases h) (aa_)))
  (fun a=>rfl)
  (all_cons (aq_ codOk (by kernel_rfl) (by (repeat intro _);show _=_;kernel_rfl) (fun k=>by (repeat intro _);show _=_;kernel_rfl)) (aa_))
  (fun k=>by (repeat intro _);show _=_;kernel_rfl)
noncomputable def ji_ (k:Nat):aK_ K TyK:=sm cod (al_×List Int) [.bo] [.g [.i .i64, .l true .item]] [] (fun k v1 v2=>f5_ k (⟨v1,v2⟩:al_)) k [.g [.i .i64, .o 0], .c (.o 1)] [.l .item, .l .int] (fun r=>(r.1.Base,(),(),r.1.Items,r.2,())) (fun v1 v2 v3=>((⟨v1,v2⟩:al_),v3)) false
noncomputable abbrev px_:List (Nat×Cut K TyK (al_×List Int)):=[(6,ct cod [1,2,4,5,6] [.c (.r 0 0), .c (.r 1 0), .c (.o 2), .c (.r 3 0), .c (.i .i64)] [.x [.i .i64, .l true .item], .x [.i .i64, .o 4], .l .int, .x [.i .i64, .o 5], .l .item, .l .item] cH_),
  (7,ct cod [1,2,4,5,6] [.c (.r 0 0), .c (.r 1 0), .c (.o 2), .c (.r 3 0), .c (.i .i64)] [.x [.i .i64, .l true .item], .x [.i .i64, .o 4], .l .int, .x [.i .i64, .o 5], .l .item, .l .item] cf_)]
theorem oe_ (k:Nat):SummOk Tryz.prog cod 143 (ji_ k):=aw_ codOk Tryz.f143 (fun k=>ap_ [(92,dr_ k),(137,eT_ k)]) px_ false [.cell 2 59, .tmp 3] 0 [] av_ Tryz.func143 (by kernel_rfl) (by kernel_rfl) (by kernel_rfl) (by kernel_rfl)
  (fun k=>Known.of tok eok codOk (all_cons (d4_ k) (all_cons (ft_ k) (aa_))))
  (fun k=>QuietOk.of (all_cons (fun h r=>⟨rfl,rfl⟩) (all_cons (fun h r=>by cases h) (aa_))))
  (fun a=>rfl)
  (all_cons (aq_ codOk (by kernel_rfl) (by (repeat intro _);show _=_;kernel_rfl) (fun k=>by (repeat intro _);show _=_;kernel_rfl)) (all_cons (aq_ codOk (by kernel_rfl) (by (repeat intro _);show _=_;kernel_rfl) (fun k=>by (repeat intro _);show _=_;kernel_rfl)) (aa_)))
  (fun k=>by (repeat intro _);show _=_;kernel_rfl)
noncomputable def iZ_ (k:Nat):aK_ K TyK:=sm cod (Int×Int) [.bo] [.g [.i .i64, .l true .held, .s, .l true .str]] [] (fun k v1 v2 v3 v4=>dX_ k (⟨v1,v2,v3,v4⟩:ak_)) k [.c (.i .i64), .c (.i .i64)] [] (fun r=>(r.1,r.2,())) (fun v1 v2=>(v1,v2)) true
noncomputable abbrev qX_:List (Nat×Cut K TyK (Int×Int)):=[(5,ct cod [1,4,5] [.c (.r 0 0), .c (.i .i64), .c (.i .i64)] [.x [.i .i64, .l true .held, .s, .l true .str]] ca_),
  (9,ct cod [1,4,5,6,7] [.c (.r 0 0), .c (.i .i64), .c (.i .i64), .c (.i .i64), .c (.i .i64)] [.x [.i .i64, .l true .held, .s, .l true .str]] cN_)]
theorem oR_ (k:Nat):SummOk Tryz.prog cod 144 (iZ_ k):=aw_ codOk Tryz.f144 (fun k=>ap_ [(93,ds_ k)]) qX_ false [.tmp 2, .tmp 3] 0 [] av_ Tryz.func144 (by kernel_rfl) (by kernel_rfl) (by kernel_rfl) (by kernel_rfl)
  (fun k=>Known.of tok eok codOk (all_cons (d5_ k) (aa_)))
  (fun k=>QuietOk.of (all_cons (fun h r=>⟨rfl,rfl⟩) (aa_)))
  (fun a=>rfl)
  (all_cons (aq_ codOk (by kernel_rfl) (by (repeat intro _);show _=_;kernel_rfl) (fun k=>by (repeat intro _);show _=_;kernel_rfl)) (all_cons (aq_ codOk (by kernel_rfl) (by (repeat intro _);show _=_;kernel_rfl) (fun k=>by (repeat intro _);show _=_;kernel_rfl)) (aa_)))
  (fun k=>by (repeat intro _);show _=_;kernel_rfl)
noncomputable def kc_ (k:Nat):aK_ K TyK:=sm cod (aC_) [.bo] [.g [.i .i64, .b, .i .i64, .i .i64, .i .i64, .b, .i .i64, .l true .item, .i .i64, .l true .held, .s, .l true .str]] [] (fun k v1 v2 v3 v4 v5 v6 v7 v8 v9 v10 v11 v12=>gT_ k (⟨v1,v2,v3,v4,v5,v6,(⟨v7,v8⟩:al_),(⟨v9,v10,v11,v12⟩:ak_)⟩:an_)) k [.g [.i .i64, .i .i64, .b, .i .i64, .i .i64, .i .i64, .b, .i .i64, .o 0, .i .i64, .o 1, .s, .o 2, .o 3, .s]] [.l .item, .l .held, .l .str, .l .packet] (fun r=>(r.Code,r.End.Number,r.End.Up,r.End.Life,r.End.Peer,r.End.Since,r.End.Owes,r.End.Send.Base,(),r.End.Take.Next,(),r.End.Take.Open,(),(),r.Text,r.End.Send.Items,r.End.Take.Held,r.End.Take.Ready,r.Out,())) (fun v1 v2 v3 v4 v5 v6 v7 v8 v9 v10 v11 v12 v13 v14 v15=>(⟨v1,(⟨v2,v3,v4,v5,v6,v7,(⟨v8,v12⟩:al_),(⟨v9,v13,v10,v14⟩:ak_)⟩:an_),v15,v11⟩:aC_)) false
noncomputable abbrev rK_:List (Nat×Cut K TyK (aC_)):=[(9,ct cod [2,3,4] [.c (.r 0 0), .c (.r 1 0), .c (.o 2)] [.x [.i .i64, .i .i64, .b, .i .i64, .i .i64, .i .i64, .b, .i .i64, .o 3, .i .i64, .o 4, .s, .o 5, .o 6, .s], .x [.i .i64, .b, .i .i64, .i .i64, .i .i64, .b, .i .i64, .o 7, .i .i64, .o 8, .s, .o 9], .l .packet, .l .item, .l .held, .l .str, .l .packet, .l .item, .l .held, .l .str] dR_),
  (13,ct cod [2,3,4,5,6,7] [.c (.r 0 0), .c (.r 1 0), .c (.o 2), .c (.r 3 0), .c (.o 4), .c (.i .i64)] [.x [.i .i64, .i .i64, .b, .i .i64, .i .i64, .i .i64, .b, .i .i64, .o 5, .i .i64, .o 6, .s, .o 7, .o 8, .s], .x [.i .i64, .b, .i .i64, .i .i64, .i .i64, .b, .i .i64, .o 9, .i .i64, .o 10, .s, .o 11], .l .packet, .x [.i .i64, .o 9], .l .int, .l .item, .l .held, .l .str, .l .packet, .l .item, .l .held, .l .str] cR_),
  (17,ct cod [2,3,4] [.c (.r 0 0), .c (.r 1 0), .c (.o 2)] [.x [.i .i64, .i .i64, .b, .i .i64, .i .i64, .i .i64, .b, .i .i64, .o 3, .i .i64, .o 4, .s, .o 5, .o 6, .s], .x [.i .i64, .b, .i .i64, .i .i64, .i .i64, .b, .i .i64, .o 7, .i .i64, .o 8, .s, .o 9], .l .packet, .l .item, .l .held, .l .str, .l .packet, .l .item, .l .held, .l .str] dw_),
  (22,ct cod [2,3,4] [.c (.r 0 0), .c (.r 1 0), .c (.o 2)] [.x [.i .i64, .i .i64, .b, .i .i64, .i .i64, .i .i64, .b, .i .i64, .o 3, .i .i64, .o 4, .s, .o 5, .o 6, .s], .x [.i .i64, .b, .i .i64, .i .i64, .i .i64, .b, .i .i64, .o 7, .i .i64, .o 8, .s, .o 9], .l .packet, .l .item, .l .held, .l .str, .l .packet, .l .item, .l .held, .l .str] b9_)]
theorem qb_ (k:Nat):SummOk Tryz.prog cod 99 (kc_ k):=aw_ codOk Tryz.f99 (fun k=>ap_ [(47,bY_ k),(88,di_ k),(143,ji_ k),(144,iZ_ k)]) rK_ false [.cell 2 84] 0 [] av_ Tryz.func99 (by kernel_rfl) (by kernel_rfl) (by kernel_rfl) (by kernel_rfl)
  (fun k=>Known.of tok eok codOk (all_cons (cd_ k) (all_cons (dB_ k) (all_cons (oe_ k) (all_cons (oR_ k) (aa_))))))
  (fun k=>QuietOk.of (all_cons (fun h r=>⟨rfl,rfl⟩) (all_cons (fun h r=>by cases h) (all_cons (fun h r=>by cases h) (all_cons (fun h r=>⟨rfl,rfl⟩) (aa_))))))
  (fun a=>rfl)
  (all_cons (aq_ codOk (by kernel_rfl) (by (repeat intro _);show _=_;kernel_rfl) (fun k=>by (repeat intro _);show _=_;kernel_rfl)) (all_cons (aq_ codOk (by kernel_rfl) (by (repeat intro _);show _=_;kernel_rfl) (fun k=>by (repeat intro _);show _=_;kernel_rfl)) (all_cons (aq_ codOk (by kernel_rfl) (by (repeat intro _);show _=_;kernel_rfl) (fun k=>by (repeat intro _);show _=_;kernel_rfl)) (all_cons (aq_ codOk (by kernel_rfl) (by (repeat intro _);show _=_;kernel_rfl) (fun k=>by (repeat intro _);show _=_;kernel_rfl)) (aa_)))))
  (fun k=>by (repeat intro _);show _=_;kernel_rfl)
noncomputable def mk_ (k:Nat):aK_ K TyK:=sm cod (ae_) [.mv] [.g [.s, .i .i64, .o 0, .o 1, .s, .o 2, .o 3]] [.l .end, .l .parcel, .l .record, .l .record] (fun k v1 v2 v3 v4 v5 v6 v7=>h9_ k (⟨v1,v2,v4,v5,v3,v6,v7⟩:ae_)) k [.g [.s, .i .i64, .o 4, .o 5, .s, .o 6, .o 7]] [.d, .d, .d, .d, .l .end, .l .parcel, .l .record, .l .record] (fun r=>(r.Key,r.Width,(),(),r.Forged,(),(),r.Ends,r.Flight,r.Given,r.Taken,())) (fun v1 v2 v3 v4 v5 v6 v7=>(⟨v1,v2,v4,v5,v3,v6,v7⟩:ae_)) false
noncomputable abbrev ti_:List (Nat×Cut K TyK (ae_)):=[(2,ct cod [1,2,3] [.c (.r 4 0), .c (.r 5 0), .c (.i .i64)] [.d, .d, .d, .d, .x [.s, .i .i64, .o 6, .o 7, .s, .o 8, .o 9], .x [.s, .i .i64, .o 10, .o 11, .s, .o 12, .o 13], .l .end, .l .parcel, .l .record, .l .record, .l .end, .l .parcel, .l .record, .l .record] bR_),
  (7,ct cod [1,2,3,4,5] [.c (.r 4 0), .c (.r 5 0), .c (.i .i64), .c (.r 6 0), .c (.i .i64)] [.d, .d, .d, .d, .x [.s, .i .i64, .o 7, .o 8, .s, .o 9, .o 10], .x [.s, .i .i64, .o 11, .o 12, .s, .o 13, .o 14], .x [.i .i64, .i .i64, .b, .i .i64, .i .i64, .i .i64, .b, .i .i64, .o 15, .i .i64, .o 16, .s, .o 17, .o 18, .s], .l .end, .l .parcel, .l .record, .l .record, .l .end, .l .parcel, .l .record, .l .record, .d, .d, .d, .l .packet] dF_)]
theorem ru_ (k:Nat):SummOk Tryz.prog cod 56 (mk_ k):=aw_ codOk Tryz.f56 (fun k=>ap_ [(99,kc_ k),(78,e9_ k)]) ti_ false [.cell 2 29] 4 [true,true,true,true] av_ Tryz.func56 (by kernel_rfl) (by kernel_rfl) (by kernel_rfl) (by kernel_rfl)
  (fun k=>Known.of tok eok codOk (all_cons (qb_ k) (all_cons (gF_ k) (aa_))))
  (fun k=>QuietOk.of (all_cons (fun h r=>by cases h) (all_cons (fun h r=>⟨rfl,rfl⟩) (aa_))))
  (fun a=>rfl)
  (all_cons (aq_ codOk (by kernel_rfl) (by (repeat intro _);show _=_;kernel_rfl) (fun k=>by (repeat intro _);show _=_;kernel_rfl)) (all_cons (aq_ codOk (by kernel_rfl) (by (repeat intro _);show _=_;kernel_rfl) (fun k=>by (repeat intro _);show _=_;kernel_rfl)) (aa_)))
  (fun k=>by (repeat intro _);show _=_;kernel_rfl)
noncomputable def fM_ (k:Nat):aK_ K TyK:=sm cod (List ac_) [.bo, .bo] [.c (.l true .parcel), .c (.i .i64)] [] (ee_) k [.c (.o 0)] [.l .parcel] (fun r=>((),r,())) (fun v1=>v1) false
theorem hv_ (k:Nat):SummOk Tryz.prog cod 59 (fM_ k):=aw_ codOk Tryz.f59 (fun k=>ap_ []) [] false [.tmp 4] 0 [] av_ Tryz.func59 (by kernel_rfl) (by kernel_rfl) (by kernel_rfl) (by kernel_rfl)
  (fun k=>Known.of tok eok codOk (aa_))
  (fun k=>QuietOk.of (aa_))
  (fun a=>rfl)
  (aa_)
  (fun k=>by (repeat intro _);show _=_;kernel_rfl)
noncomputable def j0_ (k:Nat):aK_ K TyK:=sm cod (Int) [.bo] [.g [.i .i64, .l true .item]] [] (fun k v1 v2=>nr_ k (⟨v1,v2⟩:al_)) k [.c (.i .i64)] [] (fun r=>(r,())) (fun v1=>v1) true
noncomputable abbrev q9_:List (Nat×Cut K TyK (Int)):=[(2,ct cod [1,3] [.c (.r 0 0), .c (.i .i64)] [.x [.i .i64, .l true .item]] c5_)]
theorem pv_ (k:Nat):SummOk Tryz.prog cod 159 (j0_ k):=aw_ codOk Tryz.f159 (fun k=>ap_ []) q9_ false [.tmp 2] 0 [] av_ Tryz.func159 (by kernel_rfl) (by kernel_rfl) (by kernel_rfl) (by kernel_rfl)
  (fun k=>Known.of tok eok codOk (aa_))
  (fun k=>QuietOk.of (aa_))
  (fun a=>rfl)
  (all_cons (aq_ codOk (by kernel_rfl) (by (repeat intro _);show _=_;kernel_rfl) (fun k=>by (repeat intro _);show _=_;kernel_rfl)) (aa_))
  (fun k=>by (repeat intro _);show _=_;kernel_rfl)
noncomputable def jA_ (k:Nat):aK_ K TyK:=sm cod (al_) [.bo, .bo, .bo] [.g [.i .i64, .l true .item], .c (.i .i64), .c (.i .i64)] [] (fun k v1 v2 v3 v4=>fX_ k (⟨v1,v2⟩:al_) v3 v4) k [.g [.i .i64, .o 0]] [.l .item] (fun r=>(r.Base,(),r.Items,())) (fun v1 v2=>(⟨v1,v2⟩:al_)) false
noncomputable abbrev pm_:List (Nat×Cut K TyK (al_)):=[(9,ct cod [2,6,7,8] [.c (.i .i64), .c (.r 0 0), .c (.r 1 0), .c (.i .i64)] [.x [.i .i64, .o 2], .x [.i .i64, .o 3], .l .item, .l .item] bj_),
  (13,ct cod [2,6,7,8] [.c (.i .i64), .c (.r 0 0), .c (.r 1 0), .c (.i .i64)] [.x [.i .i64, .o 2], .x [.i .i64, .o 3], .l .item, .l .item] bd_)]
theorem n0_ (k:Nat):SummOk Tryz.prog cod 145 (jA_ k):=aw_ codOk Tryz.f145 (fun k=>ap_ [(92,dr_ k),(137,eT_ k),(159,j0_ k),(28,bM_ k)]) pm_ false [.cell 6 59] 0 [] av_ Tryz.func145 (by kernel_rfl) (by kernel_rfl) (by kernel_rfl) (by kernel_rfl)
  (fun k=>Known.of tok eok codOk (all_cons (d4_ k) (all_cons (ft_ k) (all_cons (pv_ k) (all_cons (bB_ k) (aa_))))))
  (fun k=>QuietOk.of (all_cons (fun h r=>⟨rfl,rfl⟩) (all_cons (fun h r=>by cases h) (all_cons (fun h r=>⟨rfl,rfl⟩) (all_cons (fun h r=>⟨rfl,rfl⟩) (aa_))))))
  (fun a=>rfl)
  (all_cons (aq_ codOk (by kernel_rfl) (by (repeat intro _);show _=_;kernel_rfl) (fun k=>by (repeat intro _);show _=_;kernel_rfl)) (all_cons (aq_ codOk (by kernel_rfl) (by (repeat intro _);show _=_;kernel_rfl) (fun k=>by (repeat intro _);show _=_;kernel_rfl)) (aa_)))
  (fun k=>by (repeat intro _);show _=_;kernel_rfl)
noncomputable def kL_ (k:Nat):aK_ K TyK:=sm cod (ak_) [.mv] [.g [.i .i64, .o 0, .s, .o 1]] [.l .held, .l .str] (fun k v1 v2 v3 v4=>jB_ k (⟨v1,v3,v2,v4⟩:ak_)) k [.g [.i .i64, .o 2, .s, .o 3]] [.d, .d, .l .held, .l .str] (fun r=>(r.Next,(),r.Open,(),r.Held,r.Ready,())) (fun v1 v2 v3 v4=>(⟨v1,v3,v2,v4⟩:ak_)) false
noncomputable abbrev wH_:List (Nat×Cut K TyK (ak_)):=[(1,ct cod [1,2] [.c (.r 2 0), .c (.r 3 0)] [.d, .d, .x [.i .i64, .o 4, .s, .o 5], .x [.i .i64, .o 6, .s, .o 7], .l .held, .l .str, .l .held, .l .str] cU_)]
theorem nz_ (k:Nat):SummOk Tryz.prog cod 160 (kL_ k):=aw_ codOk Tryz.f160 (fun k=>ap_ [(140,jl_ k)]) wH_ false [.cell 2 63] 2 [true,true] av_ Tryz.func160 (by kernel_rfl) (by kernel_rfl) (by kernel_rfl) (by kernel_rfl)
  (fun k=>Known.of tok eok codOk (all_cons (l5_ k) (aa_)))
  (fun k=>QuietOk.of (all_cons (fun h r=>⟨rfl,rfl⟩) (aa_)))
  (fun a=>rfl)
  (all_cons (aq_ codOk (by kernel_rfl) (by (repeat intro _);show _=_;kernel_rfl) (fun k=>by (repeat intro _);show _=_;kernel_rfl)) (aa_))
  (fun k=>by (repeat intro _);show _=_;kernel_rfl)
noncomputable def jv_ (k:Nat):aK_ K TyK:=sm cod (ak_) [.bo, .bo, .bo] [.g [.i .i64, .l true .held, .s, .l true .str], .c (.i .i64), .g [.s, .b]] [] (fun k v1 v2 v3 v4 v5 v6 v7=>fZ_ k (⟨v1,v2,v3,v4⟩:ak_) v5 (⟨v6,v7⟩:aE_)) k [.g [.i .i64, .o 0, .s, .o 1]] [.l .held, .l .str] (fun r=>(r.Next,(),r.Open,(),r.Held,r.Ready,())) (fun v1 v2 v3 v4=>(⟨v1,v3,v2,v4⟩:ak_)) false
noncomputable abbrev p5_:List (Nat×Cut K TyK (ak_)):=[(9,ct cod [1,3,5,6,7,8,9,10] [.c (.i .i64), .c (.r 0 0), .c (.r 1 0), .c (.r 2 0), .c (.r 3 0), .c (.o 4), .c (.b), .c (.i .i64)] [.x [.i .i64, .l true .held, .s, .l true .str], .x [.s, .b], .x [.i .i64, .o 5, .s, .o 6], .x [.i .i64, .o 7, .s, .o 8], .l .held, .l .held, .l .str, .l .held, .l .str] bi_),
  (16,ct cod [1,3,5,6,7,8,9,10] [.c (.i .i64), .c (.r 0 0), .c (.r 1 0), .c (.r 2 0), .c (.r 3 0), .c (.o 4), .c (.b), .c (.i .i64)] [.x [.i .i64, .l true .held, .s, .l true .str], .x [.s, .b], .x [.i .i64, .o 5, .s, .o 6], .x [.i .i64, .o 7, .s, .o 8], .l .held, .l .held, .l .str, .l .held, .l .str] bJ_),
  (19,ct cod [6,7,8] [.c (.r 0 0), .c (.r 1 0), .c (.o 2)] [.x [.i .i64, .o 3, .s, .o 4], .x [.i .i64, .o 5, .s, .o 6], .l .held, .l .held, .l .str, .l .held, .l .str] dc_)]
theorem ow_ (k:Nat):SummOk Tryz.prog cod 146 (jv_ k):=aw_ codOk Tryz.f146 (fun k=>ap_ [(93,ds_ k),(138,f2_ k),(139,hX_ k),(160,kL_ k)]) p5_ false [.cell 6 63] 0 [] av_ Tryz.func146 (by kernel_rfl) (by kernel_rfl) (by kernel_rfl) (by kernel_rfl)
  (fun k=>Known.of tok eok codOk (all_cons (d5_ k) (all_cons (hk_ k) (all_cons (ko_ k) (all_cons (nz_ k) (aa_))))))
  (fun k=>QuietOk.of (all_cons (fun h r=>⟨rfl,rfl⟩) (all_cons (fun h r=>by cases h) (all_cons (fun h r=>⟨rfl,rfl⟩) (all_cons (fun h r=>by cases h) (aa_))))))
  (fun a=>rfl)
  (all_cons (aq_ codOk (by kernel_rfl) (by (repeat intro _);show _=_;kernel_rfl) (fun k=>by (repeat intro _);show _=_;kernel_rfl)) (all_cons (aq_ codOk (by kernel_rfl) (by (repeat intro _);show _=_;kernel_rfl) (fun k=>by (repeat intro _);show _=_;kernel_rfl)) (all_cons (aq_ codOk (by kernel_rfl) (by (repeat intro _);show _=_;kernel_rfl) (fun k=>by (repeat intro _);show _=_;kernel_rfl)) (aa_))))
  (fun k=>by (repeat intro _);show _=_;kernel_rfl)
noncomputable def kq_ (k:Nat):aK_ K TyK:=sm cod (aC_) [.bo, .bo] [.g [.i .i64, .b, .i .i64, .i .i64, .i .i64, .b, .i .i64, .l true .item, .i .i64, .l true .held, .s, .l true .str], .g [.i .i64, .i .i64, .i .i64, .i .i64, .i .i64, .i .i64, .i .i64, .b, .s]] [] (fun k v1 v2 v3 v4 v5 v6 v7 v8 v9 v10 v11 v12 v13 v14 v15 v16 v17 v18 v19 v20 v21=>g0_ k (⟨v1,v2,v3,v4,v5,v6,(⟨v7,v8⟩:al_),(⟨v9,v10,v11,v12⟩:ak_)⟩:an_) (⟨v13,v14,v15,v16,v17,v18,v19,v20,v21⟩:ad_)) k [.g [.i .i64, .i .i64, .b, .i .i64, .i .i64, .i .i64, .b, .i .i64, .o 0, .i .i64, .o 1, .s, .o 2, .o 3, .s]] [.l .item, .l .held, .l .str, .l .packet] (fun r=>(r.Code,r.End.Number,r.End.Up,r.End.Life,r.End.Peer,r.End.Since,r.End.Owes,r.End.Send.Base,(),r.End.Take.Next,(),r.End.Take.Open,(),(),r.Text,r.End.Send.Items,r.End.Take.Held,r.End.Take.Ready,r.Out,())) (fun v1 v2 v3 v4 v5 v6 v7 v8 v9 v10 v11 v12 v13 v14 v15=>(⟨v1,(⟨v2,v3,v4,v5,v6,v7,(⟨v8,v12⟩:al_),(⟨v9,v13,v10,v14⟩:ak_)⟩:an_),v15,v11⟩:aC_)) false
noncomputable abbrev rU_:List (Nat×Cut K TyK (aC_)):=[(11,ct cod [3,4,5] [.c (.r 0 0), .c (.r 1 0), .c (.r 2 0)] [.x [.i .i64, .i .i64, .i .i64, .i .i64, .i .i64, .i .i64, .i .i64, .b, .s], .x [.i .i64, .i .i64, .b, .i .i64, .i .i64, .i .i64, .b, .i .i64, .o 3, .i .i64, .o 4, .s, .o 5, .o 6, .s], .x [.i .i64, .b, .i .i64, .i .i64, .i .i64, .b, .i .i64, .o 7, .i .i64, .o 8, .s, .o 9], .l .item, .l .held, .l .str, .l .packet, .l .item, .l .held, .l .str] dp_)]
theorem pp_ (k:Nat):SummOk Tryz.prog cod 100 (kq_ k):=aw_ codOk Tryz.f100 (fun k=>ap_ [(47,bY_ k),(88,di_ k),(118,kW_ k),(145,jA_ k),(146,jv_ k)]) rU_ false [.cell 4 84] 0 [] av_ Tryz.func100 (by kernel_rfl) (by kernel_rfl) (by kernel_rfl) (by kernel_rfl)
  (fun k=>Known.of tok eok codOk (all_cons (cd_ k) (all_cons (dB_ k) (all_cons (nt_ k) (all_cons (n0_ k) (all_cons (ow_ k) (aa_)))))))
  (fun k=>QuietOk.of (all_cons (fun h r=>⟨rfl,rfl⟩) (all_cons (fun h r=>by cases h) (all_cons (fun h r=>⟨rfl,rfl⟩) (all_cons (fun h r=>by cases h) (all_cons (fun h r=>by cases h) (aa_)))))))
  (fun a=>rfl)
  (all_cons (aq_ codOk (by kernel_rfl) (by (repeat intro _);show _=_;kernel_rfl) (fun k=>by (repeat intro _);show _=_;kernel_rfl)) (aa_))
  (fun k=>by (repeat intro _);show _=_;kernel_rfl)
noncomputable def j5_ (k:Nat):aK_ K TyK:=sm cod (ae_) [.mv, .mv] [.g [.s, .i .i64, .o 0, .o 1, .s, .o 2, .o 3], .c (.i .i64)] [.l .end, .l .parcel, .l .record, .l .record] (fun k v1 v2 v3 v4 v5 v6 v7 v8=>gC_ k (⟨v1,v2,v5,v6,v3,v7,v8⟩:ae_) v4) k [.g [.s, .i .i64, .o 4, .o 5, .s, .o 6, .o 7]] [.d, .d, .d, .d, .l .end, .l .parcel, .l .record, .l .record] (fun r=>(r.Key,r.Width,(),(),r.Forged,(),(),r.Ends,r.Flight,r.Given,r.Taken,())) (fun v1 v2 v3 v4 v5 v6 v7=>(⟨v1,v2,v4,v5,v3,v6,v7⟩:ae_)) false
noncomputable abbrev rJ_:List (Nat×Cut K TyK (ae_)):=[(8,ct cod [2,4,5,6] [.c (.r 4 0), .c (.r 5 0), .c (.r 6 0), .c (.r 7 0)] [.d, .d, .d, .d, .x [.s, .i .i64, .o 8, .o 9, .s, .o 10, .o 11], .x [.s, .i .i64, .o 12, .o 13, .s, .o 14, .o 15], .x [.i .i64, .s, .s], .x [.i .i64, .i .i64, .i .i64, .i .i64, .i .i64, .i .i64, .i .i64, .b, .s], .l .end, .l .parcel, .l .record, .l .record, .l .end, .l .parcel, .l .record, .l .record] c4_)]
theorem pH_ (k:Nat):SummOk Tryz.prog cod 58 (j5_ k):=aw_ codOk Tryz.f58 (fun k=>ap_ [(59,fM_ k),(33,hq_ k),(100,kq_ k)]) rJ_ false [.cell 4 29] 4 [true,true,true,true] av_ Tryz.func58 (by kernel_rfl) (by kernel_rfl) (by kernel_rfl) (by kernel_rfl)
  (fun k=>Known.of tok eok codOk (all_cons (hv_ k) (all_cons (mt_ k) (all_cons (pp_ k) (aa_)))))
  (fun k=>QuietOk.of (all_cons (fun h r=>by cases h) (all_cons (fun h r=>⟨rfl,rfl⟩) (all_cons (fun h r=>by cases h) (aa_)))))
  (fun a=>rfl)
  (all_cons (aq_ codOk (by kernel_rfl) (by (repeat intro _);show _=_;kernel_rfl) (fun k=>by (repeat intro _);show _=_;kernel_rfl)) (aa_))
  (fun k=>by (repeat intro _);show _=_;kernel_rfl)
noncomputable def i7_ (k:Nat):aK_ K TyK:=sm cod (ae_) [.mv, .mv] [.g [.s, .i .i64, .o 0, .o 1, .s, .o 2, .o 3], .g [.i .i64, .i .i64, .i .i64, .i .i64, .s]] [.l .end, .l .parcel, .l .record, .l .record] (fun k v1 v2 v3 v4 v5 v6 v7 v8 v9 v10 v11 v12=>f0_ k (⟨v1,v2,v9,v10,v3,v11,v12⟩:ae_) (⟨v4,v5,v6,v7,v8⟩:bu_)) k [.g [.s, .i .i64, .o 4, .o 5, .s, .o 6, .o 7]] [.d, .d, .d, .d, .l .end, .l .parcel, .l .record, .l .record] (fun r=>(r.Key,r.Width,(),(),r.Forged,(),(),r.Ends,r.Flight,r.Given,r.Taken,())) (fun v1 v2 v3 v4 v5 v6 v7=>(⟨v1,v2,v4,v5,v3,v6,v7⟩:ae_)) false
noncomputable abbrev p6_:List (Nat×Cut K TyK (ae_)):=[(11,ct cod [2,4] [.c (.r 4 0), .c (.r 5 0)] [.d, .d, .d, .d, .x [.s, .i .i64, .o 6, .o 7, .s, .o 8, .o 9], .x [.s, .i .i64, .o 10, .o 11, .s, .o 12, .o 13], .l .end, .l .parcel, .l .record, .l .record, .l .end, .l .parcel, .l .record, .l .record] c7_),
  (22,ct cod [2,3,4,5] [.c (.r 4 0), .c (.r 5 0), .c (.r 6 0), .c (.r 7 0)] [.d, .d, .d, .d, .x [.s, .i .i64, .o 8, .o 9, .s, .o 10, .o 11], .x [.i .i64, .i .i64, .i .i64, .i .i64, .s], .x [.s, .i .i64, .o 12, .o 13, .s, .o 14, .o 15], .x [.i .i64, .s, .s], .l .end, .l .parcel, .l .record, .l .record, .l .end, .l .parcel, .l .record, .l .record] aP_)]
theorem n6_ (k:Nat):SummOk Tryz.prog cod 89 (i7_ k):=aw_ codOk Tryz.f89 (fun k=>ap_ [(58,j5_ k),(59,fM_ k)]) p6_ false [.cell 4 29] 4 [true,true,true,true] av_ Tryz.func89 (by kernel_rfl) (by kernel_rfl) (by kernel_rfl) (by kernel_rfl)
  (fun k=>Known.of tok eok codOk (all_cons (pH_ k) (all_cons (hv_ k) (aa_))))
  (fun k=>QuietOk.of (all_cons (fun h r=>by cases h) (all_cons (fun h r=>by cases h) (aa_))))
  (fun a=>rfl)
  (all_cons (aq_ codOk (by kernel_rfl) (by (repeat intro _);show _=_;kernel_rfl) (fun k=>by (repeat intro _);show _=_;kernel_rfl)) (all_cons (aq_ codOk (by kernel_rfl) (by (repeat intro _);show _=_;kernel_rfl) (fun k=>by (repeat intro _);show _=_;kernel_rfl)) (aa_)))
  (fun k=>by (repeat intro _);show _=_;kernel_rfl)
noncomputable def j3_ (k:Nat):aK_ K TyK:=sm cod (an_) [.bo] [.g [.i .i64, .b, .i .i64, .i .i64, .i .i64, .b, .i .i64, .l true .item, .i .i64, .l true .held, .s, .l true .str]] [] (fun k v1 v2 v3 v4 v5 v6 v7 v8 v9 v10 v11 v12=>g8_ k (⟨v1,v2,v3,v4,v5,v6,(⟨v7,v8⟩:al_),(⟨v9,v10,v11,v12⟩:ak_)⟩:an_)) k [.g [.i .i64, .b, .i .i64, .i .i64, .i .i64, .b, .i .i64, .o 0, .i .i64, .o 1, .s, .o 2]] [.l .item, .l .held, .l .str] (fun r=>(r.Number,r.Up,r.Life,r.Peer,r.Since,r.Owes,r.Send.Base,(),r.Take.Next,(),r.Take.Open,(),r.Send.Items,r.Take.Held,r.Take.Ready,())) (fun v1 v2 v3 v4 v5 v6 v7 v8 v9 v10 v11 v12=>(⟨v1,v2,v3,v4,v5,v6,(⟨v7,v10⟩:al_),(⟨v8,v11,v9,v12⟩:ak_)⟩:an_)) false
theorem qu_ (k:Nat):SummOk Tryz.prog cod 101 (j3_ k):=aw_ codOk Tryz.f101 (fun k=>ap_ [(47,bY_ k)]) [] false [.cell 2 65] 0 [] av_ Tryz.func101 (by kernel_rfl) (by kernel_rfl) (by kernel_rfl) (by kernel_rfl)
  (fun k=>Known.of tok eok codOk (all_cons (cd_ k) (aa_)))
  (fun k=>QuietOk.of (all_cons (fun h r=>⟨rfl,rfl⟩) (aa_)))
  (fun a=>rfl)
  (aa_)
  (fun k=>by (repeat intro _);show _=_;kernel_rfl)
noncomputable def ka_ (k:Nat):aK_ K TyK:=sm cod (an_) [.bo] [.g [.i .i64, .b, .i .i64, .i .i64, .i .i64, .b, .i .i64, .l true .item, .i .i64, .l true .held, .s, .l true .str]] [] (fun k v1 v2 v3 v4 v5 v6 v7 v8 v9 v10 v11 v12=>gZ_ k (⟨v1,v2,v3,v4,v5,v6,(⟨v7,v8⟩:al_),(⟨v9,v10,v11,v12⟩:ak_)⟩:an_)) k [.g [.i .i64, .b, .i .i64, .i .i64, .i .i64, .b, .i .i64, .o 0, .i .i64, .o 1, .s, .o 2]] [.l .item, .l .held, .l .str] (fun r=>(r.Number,r.Up,r.Life,r.Peer,r.Since,r.Owes,r.Send.Base,(),r.Take.Next,(),r.Take.Open,(),r.Send.Items,r.Take.Held,r.Take.Ready,())) (fun v1 v2 v3 v4 v5 v6 v7 v8 v9 v10 v11 v12=>(⟨v1,v2,v3,v4,v5,v6,(⟨v7,v10⟩:al_),(⟨v8,v11,v9,v12⟩:ak_)⟩:an_)) false
theorem pV_ (k:Nat):SummOk Tryz.prog cod 102 (ka_ k):=aw_ codOk Tryz.f102 (fun k=>ap_ [(47,bY_ k),(88,di_ k)]) [] false [.cell 2 65] 0 [] av_ Tryz.func102 (by kernel_rfl) (by kernel_rfl) (by kernel_rfl) (by kernel_rfl)
  (fun k=>Known.of tok eok codOk (all_cons (cd_ k) (all_cons (dB_ k) (aa_))))
  (fun k=>QuietOk.of (all_cons (fun h r=>⟨rfl,rfl⟩) (all_cons (fun h r=>by cases h) (aa_))))
  (fun a=>rfl)
  (aa_)
  (fun k=>by (repeat intro _);show _=_;kernel_rfl)
noncomputable def sq_ (k:Nat):aK_ K TyK:=sm cod (List aE_) [.bo] [.c (.s)] [] (jH_) k [.c (.o 0)] [.l .part] (fun r=>((),r,())) (fun v1=>v1) false
noncomputable abbrev xE_:List (Nat×Cut K TyK (List aE_)):=[(4,ct cod [0,3] [.c (.s), .c (.o 0)] [.l .part] eD_)]
theorem vR_ (k:Nat):SummOk Tryz.prog cod 161 (sq_ k):=aw_ codOk Tryz.f161 (fun k=>ap_ []) xE_ false [.tmp 2] 0 [] av_ Tryz.func161 (by kernel_rfl) (by kernel_rfl) (by kernel_rfl) (by kernel_rfl)
  (fun k=>Known.of tok eok codOk (aa_))
  (fun k=>QuietOk.of (aa_))
  (fun a=>rfl)
  (all_cons (aq_ codOk (by kernel_rfl) (by (repeat intro _);show _=_;kernel_rfl) (fun k=>by (repeat intro _);show _=_;kernel_rfl)) (aa_))
  (fun k=>by (repeat intro _);show _=_;kernel_rfl)
noncomputable def iS_ (k:Nat):aK_ K TyK:=sm cod (al_×Int) [.bo, .bo] [.g [.i .i64, .l true .item], .c (.s)] [] (fun k v1 v2 v3=>f4_ k (⟨v1,v2⟩:al_) v3) k [.g [.i .i64, .o 0], .c (.i .i64)] [.l .item] (fun r=>(r.1.Base,(),r.2,r.1.Items,())) (fun v1 v2 v3=>((⟨v1,v3⟩:al_),v2)) false
noncomputable abbrev qD_:List (Nat×Cut K TyK (al_×Int)):=[(9,ct cod [4,6,8,9] [.c (.r 0 0), .c (.o 1), .c (.r 2 0), .c (.i .i64)] [.x [.i .i64, .o 3], .l .part, .x [.i .i64, .o 4], .l .item, .l .item] cS_)]
theorem os_ (k:Nat):SummOk Tryz.prog cod 147 (iS_ k):=aw_ codOk Tryz.f147 (fun k=>ap_ [(92,dr_ k),(161,sq_ k),(137,eT_ k)]) qD_ false [.cell 4 59, .tmp 5] 0 [] av_ Tryz.func147 (by kernel_rfl) (by kernel_rfl) (by kernel_rfl) (by kernel_rfl)
  (fun k=>Known.of tok eok codOk (all_cons (d4_ k) (all_cons (vR_ k) (all_cons (ft_ k) (aa_)))))
  (fun k=>QuietOk.of (all_cons (fun h r=>⟨rfl,rfl⟩) (all_cons (fun h r=>by cases h) (all_cons (fun h r=>by cases h) (aa_)))))
  (fun a=>rfl)
  (all_cons (aq_ codOk (by kernel_rfl) (by (repeat intro _);show _=_;kernel_rfl) (fun k=>by (repeat intro _);show _=_;kernel_rfl)) (aa_))
  (fun k=>by (repeat intro _);show _=_;kernel_rfl)
noncomputable def ky_ (k:Nat):aK_ K TyK:=sm cod (aC_) [.bo, .bo] [.g [.i .i64, .b, .i .i64, .i .i64, .i .i64, .b, .i .i64, .l true .item, .i .i64, .l true .held, .s, .l true .str], .c (.s)] [] (fun k v1 v2 v3 v4 v5 v6 v7 v8 v9 v10 v11 v12 v13=>gJ_ k (⟨v1,v2,v3,v4,v5,v6,(⟨v7,v8⟩:al_),(⟨v9,v10,v11,v12⟩:ak_)⟩:an_) v13) k [.g [.i .i64, .i .i64, .b, .i .i64, .i .i64, .i .i64, .b, .i .i64, .o 0, .i .i64, .o 1, .s, .o 2, .o 3, .s]] [.l .item, .l .held, .l .str, .l .packet] (fun r=>(r.Code,r.End.Number,r.End.Up,r.End.Life,r.End.Peer,r.End.Since,r.End.Owes,r.End.Send.Base,(),r.End.Take.Next,(),r.End.Take.Open,(),(),r.Text,r.End.Send.Items,r.End.Take.Held,r.End.Take.Ready,r.Out,())) (fun v1 v2 v3 v4 v5 v6 v7 v8 v9 v10 v11 v12 v13 v14 v15=>(⟨v1,(⟨v2,v3,v4,v5,v6,v7,(⟨v8,v12⟩:al_),(⟨v9,v13,v10,v14⟩:ak_)⟩:an_),v15,v11⟩:aC_)) false
theorem ph_ (k:Nat):SummOk Tryz.prog cod 103 (ky_ k):=aw_ codOk Tryz.f103 (fun k=>ap_ [(47,bY_ k),(147,iS_ k),(88,di_ k)]) [] false [.cell 4 84] 0 [] av_ Tryz.func103 (by kernel_rfl) (by kernel_rfl) (by kernel_rfl) (by kernel_rfl)
  (fun k=>Known.of tok eok codOk (all_cons (cd_ k) (all_cons (os_ k) (all_cons (dB_ k) (aa_)))))
  (fun k=>QuietOk.of (all_cons (fun h r=>⟨rfl,rfl⟩) (all_cons (fun h r=>by cases h) (all_cons (fun h r=>by cases h) (aa_)))))
  (fun a=>rfl)
  (aa_)
  (fun k=>by (repeat intro _);show _=_;kernel_rfl)
noncomputable def i2_ (k:Nat):aK_ K TyK:=sm cod (ak_×ByteArray×Bool) [.bo] [.g [.i .i64, .l true .held, .s, .l true .str]] [] (fun k v1 v2 v3 v4=>fY_ k (⟨v1,v2,v3,v4⟩:ak_)) k [.g [.i .i64, .o 0, .s, .o 1], .c (.s), .c (.b)] [.l .held, .l .str] (fun r=>(r.1.Next,(),r.1.Open,(),r.2.1,r.2.2,r.1.Held,r.1.Ready,())) (fun v1 v2 v3 v4 v5 v6=>((⟨v1,v5,v2,v6⟩:ak_),v3,v4)) false
theorem oC_ (k:Nat):SummOk Tryz.prog cod 148 (i2_ k):=aw_ codOk Tryz.f148 (fun k=>ap_ [(93,ds_ k),(138,f2_ k),(160,kL_ k)]) [] false [.cell 2 63, .tmp 3, .tmp 4] 0 [] av_ Tryz.func148 (by kernel_rfl) (by kernel_rfl) (by kernel_rfl) (by kernel_rfl)
  (fun k=>Known.of tok eok codOk (all_cons (d5_ k) (all_cons (hk_ k) (all_cons (nz_ k) (aa_)))))
  (fun k=>QuietOk.of (all_cons (fun h r=>⟨rfl,rfl⟩) (all_cons (fun h r=>by cases h) (all_cons (fun h r=>by cases h) (aa_)))))
  (fun a=>rfl)
  (aa_)
  (fun k=>by (repeat intro _);show _=_;kernel_rfl)
noncomputable def j2_ (k:Nat):aK_ K TyK:=sm cod (aC_) [.bo] [.g [.i .i64, .b, .i .i64, .i .i64, .i .i64, .b, .i .i64, .l true .item, .i .i64, .l true .held, .s, .l true .str]] [] (fun k v1 v2 v3 v4 v5 v6 v7 v8 v9 v10 v11 v12=>gR_ k (⟨v1,v2,v3,v4,v5,v6,(⟨v7,v8⟩:al_),(⟨v9,v10,v11,v12⟩:ak_)⟩:an_)) k [.g [.i .i64, .i .i64, .b, .i .i64, .i .i64, .i .i64, .b, .i .i64, .o 0, .i .i64, .o 1, .s, .o 2, .o 3, .s]] [.l .item, .l .held, .l .str, .l .packet] (fun r=>(r.Code,r.End.Number,r.End.Up,r.End.Life,r.End.Peer,r.End.Since,r.End.Owes,r.End.Send.Base,(),r.End.Take.Next,(),r.End.Take.Open,(),(),r.Text,r.End.Send.Items,r.End.Take.Held,r.End.Take.Ready,r.Out,())) (fun v1 v2 v3 v4 v5 v6 v7 v8 v9 v10 v11 v12 v13 v14 v15=>(⟨v1,(⟨v2,v3,v4,v5,v6,v7,(⟨v8,v12⟩:al_),(⟨v9,v13,v10,v14⟩:ak_)⟩:an_),v15,v11⟩:aC_)) false
theorem pC_ (k:Nat):SummOk Tryz.prog cod 104 (j2_ k):=aw_ codOk Tryz.f104 (fun k=>ap_ [(47,bY_ k),(148,i2_ k),(88,di_ k)]) [] false [.cell 2 84] 0 [] av_ Tryz.func104 (by kernel_rfl) (by kernel_rfl) (by kernel_rfl) (by kernel_rfl)
  (fun k=>Known.of tok eok codOk (all_cons (cd_ k) (all_cons (oC_ k) (all_cons (dB_ k) (aa_)))))
  (fun k=>QuietOk.of (all_cons (fun h r=>⟨rfl,rfl⟩) (all_cons (fun h r=>by cases h) (all_cons (fun h r=>by cases h) (aa_)))))
  (fun a=>rfl)
  (aa_)
  (fun k=>by (repeat intro _);show _=_;kernel_rfl)
noncomputable def nD_ (k:Nat):aK_ K TyK:=sm cod (ae_) [.mv, .mv] [.g [.s, .i .i64, .o 0, .o 1, .s, .o 2, .o 3], .g [.i .i64, .i .i64, .i .i64, .i .i64, .s]] [.l .end, .l .parcel, .l .record, .l .record] (fun k v1 v2 v3 v4 v5 v6 v7 v8 v9 v10 v11 v12=>hB_ k (⟨v1,v2,v9,v10,v3,v11,v12⟩:ae_) (⟨v4,v5,v6,v7,v8⟩:bu_)) k [.g [.s, .i .i64, .o 4, .o 5, .s, .o 6, .o 7]] [.d, .d, .d, .d, .l .end, .l .parcel, .l .record, .l .record] (fun r=>(r.Key,r.Width,(),(),r.Forged,(),(),r.Ends,r.Flight,r.Given,r.Taken,())) (fun v1 v2 v3 v4 v5 v6 v7=>(⟨v1,v2,v4,v5,v3,v6,v7⟩:ae_)) false
noncomputable abbrev uf_:List (Nat×Cut K TyK (ae_)):=[(18,ct cod [2,4] [.c (.r 4 0), .c (.r 5 0)] [.d, .d, .d, .d, .x [.s, .i .i64, .o 6, .o 7, .s, .o 8, .o 9], .x [.s, .i .i64, .o 10, .o 11, .s, .o 12, .o 13], .l .end, .l .parcel, .l .record, .l .record, .l .end, .l .parcel, .l .record, .l .record] a9_)]
theorem ta_ (k:Nat):SummOk Tryz.prog cod 60 (nD_ k):=aw_ codOk Tryz.f60 (fun k=>ap_ [(101,j3_ k),(102,ka_ k),(103,ky_ k),(104,j2_ k)]) uf_ false [.cell 4 29] 4 [true,true,true,true] av_ Tryz.func60 (by kernel_rfl) (by kernel_rfl) (by kernel_rfl) (by kernel_rfl)
  (fun k=>Known.of tok eok codOk (all_cons (qu_ k) (all_cons (pV_ k) (all_cons (ph_ k) (all_cons (pC_ k) (aa_))))))
  (fun k=>QuietOk.of (all_cons (fun h r=>by cases h) (all_cons (fun h r=>by cases h) (all_cons (fun h r=>by cases h) (all_cons (fun h r=>by cases h) (aa_))))))
  (fun a=>rfl)
  (all_cons (aq_ codOk (by kernel_rfl) (by (repeat intro _);show _=_;kernel_rfl) (fun k=>by (repeat intro _);show _=_;kernel_rfl)) (aa_))
  (fun k=>by (repeat intro _);show _=_;kernel_rfl)
noncomputable def pL_ (k:Nat):aK_ K TyK:=sm cod (ae_) [.mv, .mv] [.g [.s, .i .i64, .o 0, .o 1, .s, .o 2, .o 3], .g [.i .i64, .i .i64, .i .i64, .i .i64, .s]] [.l .end, .l .parcel, .l .record, .l .record] (fun k v1 v2 v3 v4 v5 v6 v7 v8 v9 v10 v11 v12=>l2_ k (⟨v1,v2,v9,v10,v3,v11,v12⟩:ae_) (⟨v4,v5,v6,v7,v8⟩:bu_)) k [.g [.s, .i .i64, .o 4, .o 5, .s, .o 6, .o 7]] [.d, .d, .d, .d, .l .end, .l .parcel, .l .record, .l .record] (fun r=>(r.Key,r.Width,(),(),r.Forged,(),(),r.Ends,r.Flight,r.Given,r.Taken,())) (fun v1 v2 v3 v4 v5 v6 v7=>(⟨v1,v2,v4,v5,v3,v6,v7⟩:ae_)) false
theorem t1_ (k:Nat):SummOk Tryz.prog cod 44 (pL_ k):=aw_ codOk Tryz.f44 (fun k=>ap_ [(56,mk_ k),(28,bM_ k),(89,i7_ k),(60,nD_ k)]) [] false [.cell 4 29] 4 [true,true,true,true] av_ Tryz.func44 (by kernel_rfl) (by kernel_rfl) (by kernel_rfl) (by kernel_rfl)
  (fun k=>Known.of tok eok codOk (all_cons (ru_ k) (all_cons (bB_ k) (all_cons (n6_ k) (all_cons (ta_ k) (aa_))))))
  (fun k=>QuietOk.of (all_cons (fun h r=>by cases h) (all_cons (fun h r=>⟨rfl,rfl⟩) (all_cons (fun h r=>by cases h) (all_cons (fun h r=>by cases h) (aa_))))))
  (fun a=>rfl)
  (aa_)
  (fun k=>by (repeat intro _);show _=_;kernel_rfl)
noncomputable def uH_ (k:Nat):aK_ K TyK:=sm cod (ae_) [.gv, .bo] [.g [.s, .i .i64, .l true .end, .l true .parcel, .s, .l true .record, .l true .record], .g [.i .i64, .i .i64, .i .i64, .i .i64, .s]] [] (fun k v1 v2 v3 v4 v5 v6 v7 v8 v9 v10 v11 v12=>mY_ k (⟨v1,v2,v3,v4,v5,v6,v7⟩:ae_) (⟨v8,v9,v10,v11,v12⟩:bu_)) k [.g [.s, .i .i64, .o 0, .o 1, .s, .o 2, .o 3]] [.l .end, .l .parcel, .l .record, .l .record] (fun r=>(r.Key,r.Width,(),(),r.Forged,(),(),r.Ends,r.Flight,r.Given,r.Taken,())) (fun v1 v2 v3 v4 v5 v6 v7=>(⟨v1,v2,v4,v5,v3,v6,v7⟩:ae_)) false
theorem yv_ (k:Nat):SummOk Tryz.prog cod 12 (uH_ k):=aw_ codOk Tryz.f12 (fun k=>ap_ [(14,hA_ k),(43,lL_ k),(44,pL_ k)]) [] false [.cell 4 29] 0 [] av_ Tryz.func12 (by kernel_rfl) (by kernel_rfl) (by kernel_rfl) (by kernel_rfl)
  (fun k=>Known.of tok eok codOk (all_cons (lQ_ k) (all_cons (rH_ k) (all_cons (t1_ k) (aa_)))))
  (fun k=>QuietOk.of (all_cons (fun h r=>⟨rfl,rfl⟩) (all_cons (fun h r=>by cases h) (all_cons (fun h r=>by cases h) (aa_)))))
  (fun a=>rfl)
  (aa_)
  (fun k=>by (repeat intro _);show _=_;kernel_rfl)
noncomputable def ik_ (k:Nat):aK_ K TyK:=sm cod (Int) [.bo, .bo] [.g [.s, .b], .c (.i .i64)] [] (fun k v1 v2 v3=>gy_ k (⟨v1,v2⟩:aE_) v3) k [.c (.i .i64)] [] (fun r=>(r,())) (fun v1=>v1) true
theorem j1_ (k:Nat):SummOk Tryz.prog cod 174 (ik_ k):=aw_ codOk Tryz.f174 (fun k=>ap_ []) [] false [.tmp 4] 0 [] av_ Tryz.func174 (by kernel_rfl) (by kernel_rfl) (by kernel_rfl) (by kernel_rfl)
  (fun k=>Known.of cj_ ci_ codOk (aa_))
  (fun k=>QuietOk.of (aa_))
  (fun a=>rfl)
  (aa_)
  (fun k=>by (repeat intro _);show _=_;kernel_rfl)
noncomputable def lu_ (k:Nat):aK_ K TyK:=sm cod (Int) [.bo, .bo] [.g [.s, .b, .b, .i .i64], .c (.i .i64)] [] (fun k v1 v2 v3 v4 v5=>ii_ k (⟨(⟨v1,v2⟩:aE_),v3,v4⟩:ag_) v5) k [.c (.i .i64)] [] (fun r=>(r,())) (fun v1=>v1) true
theorem rB_ (k:Nat):SummOk Tryz.prog cod 168 (lu_ k):=aw_ codOk Tryz.f168 (fun k=>ap_ [(174,ik_ k)]) [] false [.tmp 4] 0 [] av_ Tryz.func168 (by kernel_rfl) (by kernel_rfl) (by kernel_rfl) (by kernel_rfl)
  (fun k=>Known.of cj_ ci_ codOk (all_cons (j1_ k) (aa_)))
  (fun k=>QuietOk.of (all_cons (fun h r=>⟨rfl,rfl⟩) (aa_)))
  (fun a=>rfl)
  (aa_)
  (fun k=>by (repeat intro _);show _=_;kernel_rfl)
noncomputable def kD_ (k:Nat):aK_ K TyK:=sm cod (Int) [.bo, .bo] [.c (.l true .item), .c (.i .i64)] [] (gE_) k [.c (.i .i64)] [] (fun r=>(r,())) (fun v1=>v1) true
noncomputable abbrev rx_:List (Nat×Cut K TyK (Int)):=[(5,ct cod [0,1,5] [.c (.l true .item), .c (.i .i64), .c (.i .i64)] [] dd_)]
theorem pZ_ (k:Nat):SummOk Tryz.prog cod 156 (kD_ k):=aw_ codOk Tryz.f156 (fun k=>ap_ [(168,lu_ k)]) rx_ false [.tmp 4] 0 [] av_ Tryz.func156 (by kernel_rfl) (by kernel_rfl) (by kernel_rfl) (by kernel_rfl)
  (fun k=>Known.of cj_ ci_ codOk (all_cons (rB_ k) (aa_)))
  (fun k=>QuietOk.of (all_cons (fun h r=>⟨rfl,rfl⟩) (aa_)))
  (fun a=>rfl)
  (all_cons (aq_ codOk (by kernel_rfl) (by (repeat intro _);show _=_;kernel_rfl) (fun k=>by (repeat intro _);show _=_;kernel_rfl)) (aa_))
  (fun k=>by (repeat intro _);show _=_;kernel_rfl)
noncomputable def ma_ (k:Nat):aK_ K TyK:=sm cod (Int) [.bo, .bo] [.g [.i .i64, .l true .item], .c (.i .i64)] [] (fun k v1 v2 v3=>h4_ k (⟨v1,v2⟩:al_) v3) k [.c (.i .i64)] [] (fun r=>(r,())) (fun v1=>v1) true
theorem rL_ (k:Nat):SummOk Tryz.prog cod 141 (ma_ k):=aw_ codOk Tryz.f141 (fun k=>ap_ [(156,kD_ k)]) [] false [.tmp 4] 0 [] av_ Tryz.func141 (by kernel_rfl) (by kernel_rfl) (by kernel_rfl) (by kernel_rfl)
  (fun k=>Known.of cj_ ci_ codOk (all_cons (pZ_ k) (aa_)))
  (fun k=>QuietOk.of (all_cons (fun h r=>⟨rfl,rfl⟩) (aa_)))
  (fun a=>rfl)
  (aa_)
  (fun k=>by (repeat intro _);show _=_;kernel_rfl)
noncomputable def mE_ (k:Nat):aK_ K TyK:=sm cod (Int) [.bo, .bo] [.g [.i .i64, .s, .b], .c (.i .i64)] [] (fun k v1 v2 v3 v4=>hT_ k (⟨v1,(⟨v2,v3⟩:aE_)⟩:ai_) v4) k [.c (.i .i64)] [] (fun r=>(r,())) (fun v1=>v1) true
theorem rs_ (k:Nat):SummOk Tryz.prog cod 169 (mE_ k):=aw_ codOk Tryz.f169 (fun k=>ap_ [(174,ik_ k)]) [] false [.tmp 4] 0 [] av_ Tryz.func169 (by kernel_rfl) (by kernel_rfl) (by kernel_rfl) (by kernel_rfl)
  (fun k=>Known.of cj_ ci_ codOk (all_cons (j1_ k) (aa_)))
  (fun k=>QuietOk.of (all_cons (fun h r=>⟨rfl,rfl⟩) (aa_)))
  (fun a=>rfl)
  (aa_)
  (fun k=>by (repeat intro _);show _=_;kernel_rfl)
noncomputable def kA_ (k:Nat):aK_ K TyK:=sm cod (Int) [.bo, .bo] [.c (.l true .held), .c (.i .i64)] [] (g3_) k [.c (.i .i64)] [] (fun r=>(r,())) (fun v1=>v1) true
noncomputable abbrev rp_:List (Nat×Cut K TyK (Int)):=[(5,ct cod [0,1,5] [.c (.l true .held), .c (.i .i64), .c (.i .i64)] [] db_)]
theorem p4_ (k:Nat):SummOk Tryz.prog cod 157 (kA_ k):=aw_ codOk Tryz.f157 (fun k=>ap_ [(169,mE_ k)]) rp_ false [.tmp 4] 0 [] av_ Tryz.func157 (by kernel_rfl) (by kernel_rfl) (by kernel_rfl) (by kernel_rfl)
  (fun k=>Known.of cj_ ci_ codOk (all_cons (rs_ k) (aa_)))
  (fun k=>QuietOk.of (all_cons (fun h r=>⟨rfl,rfl⟩) (aa_)))
  (fun a=>rfl)
  (all_cons (aq_ codOk (by kernel_rfl) (by (repeat intro _);show _=_;kernel_rfl) (fun k=>by (repeat intro _);show _=_;kernel_rfl)) (aa_))
  (fun k=>by (repeat intro _);show _=_;kernel_rfl)
noncomputable def iu_ (k:Nat):aK_ K TyK:=sm cod (Int) [.bo, .bo] [.c (.l true .str), .c (.i .i64)] [] (fu_) k [.c (.i .i64)] [] (fun r=>(r,())) (fun v1=>v1) true
noncomputable abbrev oE_:List (Nat×Cut K TyK (Int)):=[(5,ct cod [0,1,5] [.c (.l true .str), .c (.i .i64), .c (.i .i64)] [] cq_)]
theorem mF_ (k:Nat):SummOk Tryz.prog cod 158 (iu_ k):=aw_ codOk Tryz.f158 (fun k=>ap_ []) oE_ false [.tmp 4] 0 [] av_ Tryz.func158 (by kernel_rfl) (by kernel_rfl) (by kernel_rfl) (by kernel_rfl)
  (fun k=>Known.of cj_ ci_ codOk (aa_))
  (fun k=>QuietOk.of (aa_))
  (fun a=>rfl)
  (all_cons (aq_ codOk (by kernel_rfl) (by (repeat intro _);show _=_;kernel_rfl) (fun k=>by (repeat intro _);show _=_;kernel_rfl)) (aa_))
  (fun k=>by (repeat intro _);show _=_;kernel_rfl)
noncomputable def l1_ (k:Nat):aK_ K TyK:=sm cod (Int) [.bo, .bo] [.g [.i .i64, .l true .held, .s, .l true .str], .c (.i .i64)] [] (fun k v1 v2 v3 v4 v5=>h7_ k (⟨v1,v2,v3,v4⟩:ak_) v5) k [.c (.i .i64)] [] (fun r=>(r,())) (fun v1=>v1) true
theorem q7_ (k:Nat):SummOk Tryz.prog cod 142 (l1_ k):=aw_ codOk Tryz.f142 (fun k=>ap_ [(157,kA_ k),(158,iu_ k)]) [] false [.tmp 4] 0 [] av_ Tryz.func142 (by kernel_rfl) (by kernel_rfl) (by kernel_rfl) (by kernel_rfl)
  (fun k=>Known.of cj_ ci_ codOk (all_cons (p4_ k) (all_cons (mF_ k) (aa_))))
  (fun k=>QuietOk.of (all_cons (fun h r=>⟨rfl,rfl⟩) (all_cons (fun h r=>⟨rfl,rfl⟩) (aa_))))
  (fun a=>rfl)
  (aa_)
  (fun k=>by (repeat intro _);show _=_;kernel_rfl)
noncomputable def nq_ (k:Nat):aK_ K TyK:=sm cod (Int) [.bo, .bo] [.g [.i .i64, .b, .i .i64, .i .i64, .i .i64, .b, .i .i64, .l true .item, .i .i64, .l true .held, .s, .l true .str], .c (.i .i64)] [] (fun k v1 v2 v3 v4 v5 v6 v7 v8 v9 v10 v11 v12 v13=>jL_ k (⟨v1,v2,v3,v4,v5,v6,(⟨v7,v8⟩:al_),(⟨v9,v10,v11,v12⟩:ak_)⟩:an_) v13) k [.c (.i .i64)] [] (fun r=>(r,())) (fun v1=>v1) true
theorem s5_ (k:Nat):SummOk Tryz.prog cod 96 (nq_ k):=aw_ codOk Tryz.f96 (fun k=>ap_ [(141,ma_ k),(142,l1_ k)]) [] false [.tmp 4] 0 [] av_ Tryz.func96 (by kernel_rfl) (by kernel_rfl) (by kernel_rfl) (by kernel_rfl)
  (fun k=>Known.of cj_ ci_ codOk (all_cons (rL_ k) (all_cons (q7_ k) (aa_))))
  (fun k=>QuietOk.of (all_cons (fun h r=>⟨rfl,rfl⟩) (all_cons (fun h r=>⟨rfl,rfl⟩) (aa_))))
  (fun a=>rfl)
  (aa_)
  (fun k=>by (repeat intro _);show _=_;kernel_rfl)
noncomputable def mx_ (k:Nat):aK_ K TyK:=sm cod (Int) [.bo, .bo] [.c (.l true .end), .c (.i .i64)] [] (hV_) k [.c (.i .i64)] [] (fun r=>(r,())) (fun v1=>v1) true
noncomputable abbrev sG_:List (Nat×Cut K TyK (Int)):=[(5,ct cod [0,1,5] [.c (.l true .end), .c (.i .i64), .c (.i .i64)] [] dA_)]
theorem rD_ (k:Nat):SummOk Tryz.prog cod 53 (mx_ k):=aw_ codOk Tryz.f53 (fun k=>ap_ [(96,nq_ k)]) sG_ false [.tmp 4] 0 [] av_ Tryz.func53 (by kernel_rfl) (by kernel_rfl) (by kernel_rfl) (by kernel_rfl)
  (fun k=>Known.of cj_ ci_ codOk (all_cons (s5_ k) (aa_)))
  (fun k=>QuietOk.of (all_cons (fun h r=>⟨rfl,rfl⟩) (aa_)))
  (fun a=>rfl)
  (all_cons (aq_ codOk (by kernel_rfl) (by (repeat intro _);show _=_;kernel_rfl) (fun k=>by (repeat intro _);show _=_;kernel_rfl)) (aa_))
  (fun k=>by (repeat intro _);show _=_;kernel_rfl)
noncomputable def jj_ (k:Nat):aK_ K TyK:=sm cod (Int) [.bo, .bo] [.g [.i .i64, .s, .s], .c (.i .i64)] [] (fun k v1 v2 v3 v4=>gf_ k (⟨v1,v2,v3⟩:ac_) v4) k [.c (.i .i64)] [] (fun r=>(r,())) (fun v1=>v1) true
theorem oG_ (k:Nat):SummOk Tryz.prog cod 97 (jj_ k):=aw_ codOk Tryz.f97 (fun k=>ap_ []) [] false [.tmp 4] 0 [] av_ Tryz.func97 (by kernel_rfl) (by kernel_rfl) (by kernel_rfl) (by kernel_rfl)
  (fun k=>Known.of cj_ ci_ codOk (aa_))
  (fun k=>QuietOk.of (aa_))
  (fun a=>rfl)
  (aa_)
  (fun k=>by (repeat intro _);show _=_;kernel_rfl)
noncomputable def ir_ (k:Nat):aK_ K TyK:=sm cod (Int) [.bo, .bo] [.c (.l true .parcel), .c (.i .i64)] [] (fs_) k [.c (.i .i64)] [] (fun r=>(r,())) (fun v1=>v1) true
noncomputable abbrev oJ_:List (Nat×Cut K TyK (Int)):=[(5,ct cod [0,1,5] [.c (.l true .parcel), .c (.i .i64), .c (.i .i64)] [] co_)]
theorem nd_ (k:Nat):SummOk Tryz.prog cod 54 (ir_ k):=aw_ codOk Tryz.f54 (fun k=>ap_ [(97,jj_ k)]) oJ_ false [.tmp 4] 0 [] av_ Tryz.func54 (by kernel_rfl) (by kernel_rfl) (by kernel_rfl) (by kernel_rfl)
  (fun k=>Known.of cj_ ci_ codOk (all_cons (oG_ k) (aa_)))
  (fun k=>QuietOk.of (all_cons (fun h r=>⟨rfl,rfl⟩) (aa_)))
  (fun a=>rfl)
  (all_cons (aq_ codOk (by kernel_rfl) (by (repeat intro _);show _=_;kernel_rfl) (fun k=>by (repeat intro _);show _=_;kernel_rfl)) (aa_))
  (fun k=>by (repeat intro _);show _=_;kernel_rfl)
noncomputable def jb_ (k:Nat):aK_ K TyK:=sm cod (Int) [.bo, .bo] [.g [.i .i64, .i .i64, .i .i64, .s], .c (.i .i64)] [] (fun k v1 v2 v3 v4 v5=>f1_ k (⟨v1,v2,v3,v4⟩:ab_) v5) k [.c (.i .i64)] [] (fun r=>(r,())) (fun v1=>v1) true
theorem ob_ (k:Nat):SummOk Tryz.prog cod 98 (jb_ k):=aw_ codOk Tryz.f98 (fun k=>ap_ []) [] false [.tmp 4] 0 [] av_ Tryz.func98 (by kernel_rfl) (by kernel_rfl) (by kernel_rfl) (by kernel_rfl)
  (fun k=>Known.of cj_ ci_ codOk (aa_))
  (fun k=>QuietOk.of (aa_))
  (fun a=>rfl)
  (aa_)
  (fun k=>by (repeat intro _);show _=_;kernel_rfl)
noncomputable def it_ (k:Nat):aK_ K TyK:=sm cod (Int) [.bo, .bo] [.c (.l true .record), .c (.i .i64)] [] (ec_) k [.c (.i .i64)] [] (fun r=>(r,())) (fun v1=>v1) true
noncomputable abbrev oi_:List (Nat×Cut K TyK (Int)):=[(5,ct cod [0,1,5] [.c (.l true .record), .c (.i .i64), .c (.i .i64)] [] cw_)]
theorem m3_ (k:Nat):SummOk Tryz.prog cod 55 (it_ k):=aw_ codOk Tryz.f55 (fun k=>ap_ [(98,jb_ k)]) oi_ false [.tmp 4] 0 [] av_ Tryz.func55 (by kernel_rfl) (by kernel_rfl) (by kernel_rfl) (by kernel_rfl)
  (fun k=>Known.of cj_ ci_ codOk (all_cons (ob_ k) (aa_)))
  (fun k=>QuietOk.of (all_cons (fun h r=>⟨rfl,rfl⟩) (aa_)))
  (fun a=>rfl)
  (all_cons (aq_ codOk (by kernel_rfl) (by (repeat intro _);show _=_;kernel_rfl) (fun k=>by (repeat intro _);show _=_;kernel_rfl)) (aa_))
  (fun k=>by (repeat intro _);show _=_;kernel_rfl)
noncomputable def ku_ (k:Nat):aK_ K TyK:=sm cod (Int) [.bo, .bo] [.g [.s, .i .i64, .l true .end, .l true .parcel, .s, .l true .record, .l true .record], .c (.i .i64)] [] (fun k v1 v2 v3 v4 v5 v6 v7 v8=>gY_ k (⟨v1,v2,v3,v4,v5,v6,v7⟩:ae_) v8) k [.c (.i .i64)] [] (fun r=>(r,())) (fun v1=>v1) true
theorem qR_ (k:Nat):SummOk Tryz.prog cod 17 (ku_ k):=aw_ codOk Tryz.f17 (fun k=>ap_ [(53,mx_ k),(54,ir_ k),(55,it_ k)]) [] false [.tmp 4] 0 [] av_ Tryz.func17 (by kernel_rfl) (by kernel_rfl) (by kernel_rfl) (by kernel_rfl)
  (fun k=>Known.of cj_ ci_ codOk (all_cons (rD_ k) (all_cons (nd_ k) (all_cons (m3_ k) (aa_)))))
  (fun k=>QuietOk.of (all_cons (fun h r=>⟨rfl,rfl⟩) (all_cons (fun h r=>⟨rfl,rfl⟩) (all_cons (fun h r=>⟨rfl,rfl⟩) (aa_)))))
  (fun a=>rfl)
  (aa_)
  (fun k=>by (repeat intro _);show _=_;kernel_rfl)
noncomputable def hR_ (k:Nat):aK_ K TyK:=sm cod (aE_) [.bo] [.g [.s, .b]] [] (fun k v1 v2=>la_ k (⟨v1,v2⟩:aE_)) k [.g [.s, .b]] [] (fun r=>(r.Text,r.Last,())) (fun v1 v2=>(⟨v1,v2⟩:aE_)) true
theorem j8_ (k:Nat):SummOk Tryz.prog cod 175 (hR_ k):=aw_ codOk Tryz.f175 (fun k=>ap_ []) [] false [.cell 2 169] 0 [] av_ Tryz.func175 (by kernel_rfl) (by kernel_rfl) (by kernel_rfl) (by kernel_rfl)
  (fun k=>Known.of cj_ ci_ codOk (aa_))
  (fun k=>QuietOk.of (aa_))
  (fun a=>rfl)
  (aa_)
  (fun k=>by (repeat intro _);show _=_;kernel_rfl)
noncomputable def mv_ (k:Nat):aK_ K TyK:=sm cod (ag_) [.bo] [.g [.s, .b, .b, .i .i64]] [] (fun k v1 v2 v3 v4=>k4_ k (⟨(⟨v1,v2⟩:aE_),v3,v4⟩:ag_)) k [.g [.s, .b, .b, .i .i64]] [] (fun r=>(r.Part.Text,r.Part.Last,r.Has,r.Since,())) (fun v1 v2 v3 v4=>(⟨(⟨v1,v2⟩:aE_),v3,v4⟩:ag_)) true
theorem q5_ (k:Nat):SummOk Tryz.prog cod 170 (mv_ k):=aw_ codOk Tryz.f170 (fun k=>ap_ [(175,hR_ k)]) [] false [.cell 2 171] 0 [] av_ Tryz.func170 (by kernel_rfl) (by kernel_rfl) (by kernel_rfl) (by kernel_rfl)
  (fun k=>Known.of cj_ ci_ codOk (all_cons (j8_ k) (aa_)))
  (fun k=>QuietOk.of (all_cons (fun h r=>⟨rfl,rfl⟩) (aa_)))
  (fun a=>rfl)
  (aa_)
  (fun k=>by (repeat intro _);show _=_;kernel_rfl)
noncomputable def kh_ (k:Nat):aK_ K TyK:=sm cod (List ag_) [.bo] [.c (.l true .item)] [] (gP_) k [.c (.o 0)] [.l .item] (fun r=>((),r,())) (fun v1=>v1) false
noncomputable abbrev rm_:List (Nat×Cut K TyK (List ag_)):=[(3,ct cod [0,3,4] [.c (.l true .item), .c (.o 0), .c (.i .i64)] [.l .item] c8_)]
theorem qO_ (k:Nat):SummOk Tryz.prog cod 162 (kh_ k):=aw_ codOk Tryz.f162 (fun k=>ap_ [(170,mv_ k)]) rm_ false [.tmp 2] 0 [] av_ Tryz.func162 (by kernel_rfl) (by kernel_rfl) (by kernel_rfl) (by kernel_rfl)
  (fun k=>Known.of cj_ ci_ codOk (all_cons (q5_ k) (aa_)))
  (fun k=>QuietOk.of (all_cons (fun h r=>⟨rfl,rfl⟩) (aa_)))
  (fun a=>rfl)
  (all_cons (aq_ codOk (by kernel_rfl) (by (repeat intro _);show _=_;kernel_rfl) (fun k=>by (repeat intro _);show _=_;kernel_rfl)) (aa_))
  (fun k=>by (repeat intro _);show _=_;kernel_rfl)
noncomputable def mw_ (k:Nat):aK_ K TyK:=sm cod (al_) [.bo] [.g [.i .i64, .l true .item]] [] (fun k v1 v2=>hN_ k (⟨v1,v2⟩:al_)) k [.g [.i .i64, .o 0]] [.l .item] (fun r=>(r.Base,(),r.Items,())) (fun v1 v2=>(⟨v1,v2⟩:al_)) false
theorem rP_ (k:Nat):SummOk Tryz.prog cod 149 (mw_ k):=aw_ codOk Tryz.f149 (fun k=>ap_ [(162,kh_ k)]) [] false [.cell 2 59] 0 [] av_ Tryz.func149 (by kernel_rfl) (by kernel_rfl) (by kernel_rfl) (by kernel_rfl)
  (fun k=>Known.of cj_ ci_ codOk (all_cons (qO_ k) (aa_)))
  (fun k=>QuietOk.of (all_cons (fun h r=>by cases h) (aa_)))
  (fun a=>rfl)
  (aa_)
  (fun k=>by (repeat intro _);show _=_;kernel_rfl)
noncomputable def lq_ (k:Nat):aK_ K TyK:=sm cod (ai_) [.bo] [.g [.i .i64, .s, .b]] [] (fun k v1 v2 v3=>k6_ k (⟨v1,(⟨v2,v3⟩:aE_)⟩:ai_)) k [.g [.i .i64, .s, .b]] [] (fun r=>(r.Seq,r.Part.Text,r.Part.Last,())) (fun v1 v2 v3=>(⟨v1,(⟨v2,v3⟩:aE_)⟩:ai_)) true
theorem rS_ (k:Nat):SummOk Tryz.prog cod 171 (lq_ k):=aw_ codOk Tryz.f171 (fun k=>ap_ [(175,hR_ k)]) [] false [.cell 2 182] 0 [] av_ Tryz.func171 (by kernel_rfl) (by kernel_rfl) (by kernel_rfl) (by kernel_rfl)
  (fun k=>Known.of cj_ ci_ codOk (all_cons (j8_ k) (aa_)))
  (fun k=>QuietOk.of (all_cons (fun h r=>⟨rfl,rfl⟩) (aa_)))
  (fun a=>rfl)
  (aa_)
  (fun k=>by (repeat intro _);show _=_;kernel_rfl)
noncomputable def j9_ (k:Nat):aK_ K TyK:=sm cod (List ai_) [.bo] [.c (.l true .held)] [] (hc_) k [.c (.o 0)] [.l .held] (fun r=>((),r,())) (fun v1=>v1) false
noncomputable abbrev rl_:List (Nat×Cut K TyK (List ai_)):=[(3,ct cod [0,3,4] [.c (.l true .held), .c (.o 0), .c (.i .i64)] [.l .held] df_)]
theorem pQ_ (k:Nat):SummOk Tryz.prog cod 163 (j9_ k):=aw_ codOk Tryz.f163 (fun k=>ap_ [(171,lq_ k)]) rl_ false [.tmp 2] 0 [] av_ Tryz.func163 (by kernel_rfl) (by kernel_rfl) (by kernel_rfl) (by kernel_rfl)
  (fun k=>Known.of cj_ ci_ codOk (all_cons (rS_ k) (aa_)))
  (fun k=>QuietOk.of (all_cons (fun h r=>⟨rfl,rfl⟩) (aa_)))
  (fun a=>rfl)
  (all_cons (aq_ codOk (by kernel_rfl) (by (repeat intro _);show _=_;kernel_rfl) (fun k=>by (repeat intro _);show _=_;kernel_rfl)) (aa_))
  (fun k=>by (repeat intro _);show _=_;kernel_rfl)
noncomputable def il_ (k:Nat):aK_ K TyK:=sm cod (List ByteArray) [.bo] [.c (.l true .str)] [] (fn_) k [.c (.o 0)] [.l .str] (fun r=>((),r,())) (fun v1=>v1) false
noncomputable abbrev ou_:List (Nat×Cut K TyK (List ByteArray)):=[(3,ct cod [0,3,4] [.c (.l true .str), .c (.o 0), .c (.i .i64)] [.l .str] cp_)]
theorem mS_ (k:Nat):SummOk Tryz.prog cod 164 (il_ k):=aw_ codOk Tryz.f164 (fun k=>ap_ []) ou_ false [.tmp 2] 0 [] av_ Tryz.func164 (by kernel_rfl) (by kernel_rfl) (by kernel_rfl) (by kernel_rfl)
  (fun k=>Known.of cj_ ci_ codOk (aa_))
  (fun k=>QuietOk.of (aa_))
  (fun a=>rfl)
  (all_cons (aq_ codOk (by kernel_rfl) (by (repeat intro _);show _=_;kernel_rfl) (fun k=>by (repeat intro _);show _=_;kernel_rfl)) (aa_))
  (fun k=>by (repeat intro _);show _=_;kernel_rfl)
noncomputable def lD_ (k:Nat):aK_ K TyK:=sm cod (ak_) [.bo] [.g [.i .i64, .l true .held, .s, .l true .str]] [] (fun k v1 v2 v3 v4=>hK_ k (⟨v1,v2,v3,v4⟩:ak_)) k [.g [.i .i64, .o 0, .s, .o 1]] [.l .held, .l .str] (fun r=>(r.Next,(),r.Open,(),r.Held,r.Ready,())) (fun v1 v2 v3 v4=>(⟨v1,v3,v2,v4⟩:ak_)) false
theorem ra_ (k:Nat):SummOk Tryz.prog cod 150 (lD_ k):=aw_ codOk Tryz.f150 (fun k=>ap_ [(163,j9_ k),(164,il_ k)]) [] false [.cell 2 63] 0 [] av_ Tryz.func150 (by kernel_rfl) (by kernel_rfl) (by kernel_rfl) (by kernel_rfl)
  (fun k=>Known.of cj_ ci_ codOk (all_cons (pQ_ k) (all_cons (mS_ k) (aa_))))
  (fun k=>QuietOk.of (all_cons (fun h r=>by cases h) (all_cons (fun h r=>by cases h) (aa_))))
  (fun a=>rfl)
  (aa_)
  (fun k=>by (repeat intro _);show _=_;kernel_rfl)
noncomputable def nx_ (k:Nat):aK_ K TyK:=sm cod (an_) [.bo] [.g [.i .i64, .b, .i .i64, .i .i64, .i .i64, .b, .i .i64, .l true .item, .i .i64, .l true .held, .s, .l true .str]] [] (fun k v1 v2 v3 v4 v5 v6 v7 v8 v9 v10 v11 v12=>jK_ k (⟨v1,v2,v3,v4,v5,v6,(⟨v7,v8⟩:al_),(⟨v9,v10,v11,v12⟩:ak_)⟩:an_)) k [.g [.i .i64, .b, .i .i64, .i .i64, .i .i64, .b, .i .i64, .o 0, .i .i64, .o 1, .s, .o 2]] [.l .item, .l .held, .l .str] (fun r=>(r.Number,r.Up,r.Life,r.Peer,r.Since,r.Owes,r.Send.Base,(),r.Take.Next,(),r.Take.Open,(),r.Send.Items,r.Take.Held,r.Take.Ready,())) (fun v1 v2 v3 v4 v5 v6 v7 v8 v9 v10 v11 v12=>(⟨v1,v2,v3,v4,v5,v6,(⟨v7,v10⟩:al_),(⟨v8,v11,v9,v12⟩:ak_)⟩:an_)) false
theorem sK_ (k:Nat):SummOk Tryz.prog cod 105 (nx_ k):=aw_ codOk Tryz.f105 (fun k=>ap_ [(149,mw_ k),(150,lD_ k)]) [] false [.cell 2 65] 0 [] av_ Tryz.func105 (by kernel_rfl) (by kernel_rfl) (by kernel_rfl) (by kernel_rfl)
  (fun k=>Known.of cj_ ci_ codOk (all_cons (rP_ k) (all_cons (ra_ k) (aa_))))
  (fun k=>QuietOk.of (all_cons (fun h r=>by cases h) (all_cons (fun h r=>by cases h) (aa_))))
  (fun a=>rfl)
  (aa_)
  (fun k=>by (repeat intro _);show _=_;kernel_rfl)
noncomputable def mb_ (k:Nat):aK_ K TyK:=sm cod (List an_) [.bo] [.c (.l true .end)] [] (hQ_) k [.c (.w 0)] [.w .xend] (fun r=>((),r,())) (fun v1=>v1) false
noncomputable abbrev sX_:List (Nat×Cut K TyK (List an_)):=[(3,ct cod [0,3,4] [.c (.l true .end), .c (.w 0), .c (.i .i64)] [.w .xend] dD_)]
theorem rF_ (k:Nat):SummOk Tryz.prog cod 61 (mb_ k):=aw_ codOk Tryz.f61 (fun k=>ap_ [(105,nx_ k)]) sX_ false [.tmp 2] 0 [] av_ Tryz.func61 (by kernel_rfl) (by kernel_rfl) (by kernel_rfl) (by kernel_rfl)
  (fun k=>Known.of cj_ ci_ codOk (all_cons (sK_ k) (aa_)))
  (fun k=>QuietOk.of (all_cons (fun h r=>by cases h) (aa_)))
  (fun a=>rfl)
  (all_cons (aq_ codOk (by kernel_rfl) (by (repeat intro _);show _=_;kernel_rfl) (fun k=>by (repeat intro _);show _=_;kernel_rfl)) (aa_))
  (fun k=>by (repeat intro _);show _=_;kernel_rfl)
noncomputable def jn_ (k:Nat):aK_ K TyK:=sm cod (ac_) [.bo] [.g [.i .i64, .s, .s]] [] (fun k v1 v2 v3=>hU_ k (⟨v1,v2,v3⟩:ac_)) k [.g [.i .i64, .s, .s]] [] (fun r=>(r.To,r.Sent,r.Bytes,())) (fun v1 v2 v3=>(⟨v1,v2,v3⟩:ac_)) true
theorem ov_ (k:Nat):SummOk Tryz.prog cod 106 (jn_ k):=aw_ codOk Tryz.f106 (fun k=>ap_ []) [] false [.cell 2 73] 0 [] av_ Tryz.func106 (by kernel_rfl) (by kernel_rfl) (by kernel_rfl) (by kernel_rfl)
  (fun k=>Known.of cj_ ci_ codOk (aa_))
  (fun k=>QuietOk.of (aa_))
  (fun a=>rfl)
  (aa_)
  (fun k=>by (repeat intro _);show _=_;kernel_rfl)
noncomputable def iz_ (k:Nat):aK_ K TyK:=sm cod (List ac_) [.bo] [.c (.l true .parcel)] [] (fp_) k [.c (.o 0)] [.l .parcel] (fun r=>((),r,())) (fun v1=>v1) false
noncomputable abbrev om_:List (Nat×Cut K TyK (List ac_)):=[(3,ct cod [0,3,4] [.c (.l true .parcel), .c (.o 0), .c (.i .i64)] [.l .parcel] cu_)]
theorem ng_ (k:Nat):SummOk Tryz.prog cod 62 (iz_ k):=aw_ codOk Tryz.f62 (fun k=>ap_ [(106,jn_ k)]) om_ false [.tmp 2] 0 [] av_ Tryz.func62 (by kernel_rfl) (by kernel_rfl) (by kernel_rfl) (by kernel_rfl)
  (fun k=>Known.of cj_ ci_ codOk (all_cons (ov_ k) (aa_)))
  (fun k=>QuietOk.of (all_cons (fun h r=>⟨rfl,rfl⟩) (aa_)))
  (fun a=>rfl)
  (all_cons (aq_ codOk (by kernel_rfl) (by (repeat intro _);show _=_;kernel_rfl) (fun k=>by (repeat intro _);show _=_;kernel_rfl)) (aa_))
  (fun k=>by (repeat intro _);show _=_;kernel_rfl)
noncomputable def i6_ (k:Nat):aK_ K TyK:=sm cod (ab_) [.bo] [.g [.i .i64, .i .i64, .i .i64, .s]] [] (fun k v1 v2 v3 v4=>hZ_ k (⟨v1,v2,v3,v4⟩:ab_)) k [.g [.i .i64, .i .i64, .i .i64, .s]] [] (fun r=>(r.From,r.A,r.B,r.Text,())) (fun v1 v2 v3 v4=>(⟨v1,v2,v3,v4⟩:ab_)) true
theorem n4_ (k:Nat):SummOk Tryz.prog cod 107 (i6_ k):=aw_ codOk Tryz.f107 (fun k=>ap_ []) [] false [.cell 2 87] 0 [] av_ Tryz.func107 (by kernel_rfl) (by kernel_rfl) (by kernel_rfl) (by kernel_rfl)
  (fun k=>Known.of cj_ ci_ codOk (aa_))
  (fun k=>QuietOk.of (aa_))
  (fun a=>rfl)
  (aa_)
  (fun k=>by (repeat intro _);show _=_;kernel_rfl)
noncomputable def iy_ (k:Nat):aK_ K TyK:=sm cod (List ab_) [.bo] [.c (.l true .record)] [] (el_) k [.c (.o 0)] [.l .record] (fun r=>((),r,())) (fun v1=>v1) false
noncomputable abbrev ox_:List (Nat×Cut K TyK (List ab_)):=[(3,ct cod [0,3,4] [.c (.l true .record), .c (.o 0), .c (.i .i64)] [.l .record] cr_)]
theorem mP_ (k:Nat):SummOk Tryz.prog cod 63 (iy_ k):=aw_ codOk Tryz.f63 (fun k=>ap_ [(107,i6_ k)]) ox_ false [.tmp 2] 0 [] av_ Tryz.func63 (by kernel_rfl) (by kernel_rfl) (by kernel_rfl) (by kernel_rfl)
  (fun k=>Known.of cj_ ci_ codOk (all_cons (n4_ k) (aa_)))
  (fun k=>QuietOk.of (all_cons (fun h r=>⟨rfl,rfl⟩) (aa_)))
  (fun a=>rfl)
  (all_cons (aq_ codOk (by kernel_rfl) (by (repeat intro _);show _=_;kernel_rfl) (fun k=>by (repeat intro _);show _=_;kernel_rfl)) (aa_))
  (fun k=>by (repeat intro _);show _=_;kernel_rfl)
noncomputable def ks_ (k:Nat):aK_ K TyK:=sm cod (ae_) [.bo] [.g [.s, .i .i64, .l true .end, .l true .parcel, .s, .l true .record, .l true .record]] [] (fun k v1 v2 v3 v4 v5 v6 v7=>as_ k (⟨v1,v2,v3,v4,v5,v6,v7⟩:ae_)) k [.g [.s, .i .i64, .w 0, .o 1, .s, .o 2, .o 3]] [.w .xend, .l .parcel, .l .record, .l .record] (fun r=>(r.Key,r.Width,(),(),r.Forged,(),(),r.Ends,r.Flight,r.Given,r.Taken,())) (fun v1 v2 v3 v4 v5 v6 v7=>(⟨v1,v2,v4,v5,v3,v6,v7⟩:ae_)) false
theorem qK_ (k:Nat):SummOk Tryz.prog cod 19 (ks_ k):=aw_ codOk Tryz.f19 (fun k=>ap_ [(61,mb_ k),(62,iz_ k),(63,iy_ k)]) [] false [.cell 2 29] 0 [] av_ Tryz.func19 (by kernel_rfl) (by kernel_rfl) (by kernel_rfl) (by kernel_rfl)
  (fun k=>Known.of cj_ ci_ codOk (all_cons (rF_ k) (all_cons (ng_ k) (all_cons (mP_ k) (aa_)))))
  (fun k=>QuietOk.of (all_cons (fun h r=>by cases h) (all_cons (fun h r=>by cases h) (all_cons (fun h r=>by cases h) (aa_)))))
  (fun a=>rfl)
  (aa_)
  (fun k=>by (repeat intro _);show _=_;kernel_rfl)
noncomputable def id_ (k:Nat):aK_ K TyK:=sm cod (Bool) [.bo, .bo] [.g [.s, .b], .g [.s, .b]] [] (fun k v1 v2 v3 v4=>gx_ k (⟨v1,v2⟩:aE_) (⟨v3,v4⟩:aE_)) k [.c (.b)] [] (fun r=>(r,())) (fun v1=>v1) true
theorem kt_ (k:Nat):SummOk Tryz.prog cod 176 (id_ k):=aw_ codOk Tryz.f176 (fun k=>ap_ []) [] false [.tmp 4] 0 [] av_ Tryz.func176 (by kernel_rfl) (by kernel_rfl) (by kernel_rfl) (by kernel_rfl)
  (fun k=>Known.of cj_ ci_ codOk (aa_))
  (fun k=>QuietOk.of (aa_))
  (fun a=>rfl)
  (aa_)
  (fun k=>by (repeat intro _);show _=_;kernel_rfl)
noncomputable def lE_ (k:Nat):aK_ K TyK:=sm cod (Bool) [.bo, .bo] [.g [.s, .b, .b, .i .i64], .g [.s, .b, .b, .i .i64]] [] (fun k v1 v2 v3 v4 v5 v6 v7 v8=>hJ_ k (⟨(⟨v1,v2⟩:aE_),v3,v4⟩:ag_) (⟨(⟨v5,v6⟩:aE_),v7,v8⟩:ag_)) k [.c (.b)] [] (fun r=>(r,())) (fun v1=>v1) true
theorem rO_ (k:Nat):SummOk Tryz.prog cod 172 (lE_ k):=aw_ codOk Tryz.f172 (fun k=>ap_ [(176,id_ k)]) [] false [.tmp 4] 0 [] av_ Tryz.func172 (by kernel_rfl) (by kernel_rfl) (by kernel_rfl) (by kernel_rfl)
  (fun k=>Known.of cj_ ci_ codOk (all_cons (kt_ k) (aa_)))
  (fun k=>QuietOk.of (all_cons (fun h r=>⟨rfl,rfl⟩) (aa_)))
  (fun a=>rfl)
  (aa_)
  (fun k=>by (repeat intro _);show _=_;kernel_rfl)
noncomputable def kl_ (k:Nat):aK_ K TyK:=sm cod (Bool) [.bo, .bo] [.c (.l true .item), .c (.l true .item)] [] (g1_) k [.c (.b)] [] (fun r=>(r,())) (fun v1=>v1) true
noncomputable abbrev rf_:List (Nat×Cut K TyK (Bool)):=[(4,ct cod [0,1,5] [.c (.l true .item), .c (.l true .item), .c (.i .i64)] [] c9_)]
theorem p0_ (k:Nat):SummOk Tryz.prog cod 165 (kl_ k):=aw_ codOk Tryz.f165 (fun k=>ap_ [(172,lE_ k)]) rf_ false [.tmp 4] 0 [] av_ Tryz.func165 (by kernel_rfl) (by kernel_rfl) (by kernel_rfl) (by kernel_rfl)
  (fun k=>Known.of cj_ ci_ codOk (all_cons (rO_ k) (aa_)))
  (fun k=>QuietOk.of (all_cons (fun h r=>⟨rfl,rfl⟩) (aa_)))
  (fun a=>rfl)
  (all_cons (aq_ codOk (by kernel_rfl) (by (repeat intro _);show _=_;kernel_rfl) (fun k=>by (repeat intro _);show _=_;kernel_rfl)) (aa_))
  (fun k=>by (repeat intro _);show _=_;kernel_rfl)
noncomputable def lw_ (k:Nat):aK_ K TyK:=sm cod (Bool) [.bo, .bo] [.g [.i .i64, .l true .item], .g [.i .i64, .l true .item]] [] (fun k v1 v2 v3 v4=>hM_ k (⟨v1,v2⟩:al_) (⟨v3,v4⟩:al_)) k [.c (.b)] [] (fun r=>(r,())) (fun v1=>v1) true
theorem rj_ (k:Nat):SummOk Tryz.prog cod 151 (lw_ k):=aw_ codOk Tryz.f151 (fun k=>ap_ [(165,kl_ k)]) [] false [.tmp 4] 0 [] av_ Tryz.func151 (by kernel_rfl) (by kernel_rfl) (by kernel_rfl) (by kernel_rfl)
  (fun k=>Known.of cj_ ci_ codOk (all_cons (p0_ k) (aa_)))
  (fun k=>QuietOk.of (all_cons (fun h r=>⟨rfl,rfl⟩) (aa_)))
  (fun a=>rfl)
  (aa_)
  (fun k=>by (repeat intro _);show _=_;kernel_rfl)
noncomputable def lZ_ (k:Nat):aK_ K TyK:=sm cod (Bool) [.bo, .bo] [.g [.i .i64, .s, .b], .g [.i .i64, .s, .b]] [] (fun k v1 v2 v3 v4 v5 v6=>hW_ k (⟨v1,(⟨v2,v3⟩:aE_)⟩:ai_) (⟨v4,(⟨v5,v6⟩:aE_)⟩:ai_)) k [.c (.b)] [] (fun r=>(r,())) (fun v1=>v1) true
theorem rz_ (k:Nat):SummOk Tryz.prog cod 173 (lZ_ k):=aw_ codOk Tryz.f173 (fun k=>ap_ [(176,id_ k)]) [] false [.tmp 4] 0 [] av_ Tryz.func173 (by kernel_rfl) (by kernel_rfl) (by kernel_rfl) (by kernel_rfl)
  (fun k=>Known.of cj_ ci_ codOk (all_cons (kt_ k) (aa_)))
  (fun k=>QuietOk.of (all_cons (fun h r=>⟨rfl,rfl⟩) (aa_)))
  (fun a=>rfl)
  (aa_)
  (fun k=>by (repeat intro _);show _=_;kernel_rfl)
noncomputable def jY_ (k:Nat):aK_ K TyK:=sm cod (Bool) [.bo, .bo] [.c (.l true .held), .c (.l true .held)] [] (hb_) k [.c (.b)] [] (fun r=>(r,())) (fun v1=>v1) true
noncomputable abbrev rA_:List (Nat×Cut K TyK (Bool)):=[(4,ct cod [0,1,5] [.c (.l true .held), .c (.l true .held), .c (.i .i64)] [] c3_)]
theorem qS_ (k:Nat):SummOk Tryz.prog cod 166 (jY_ k):=aw_ codOk Tryz.f166 (fun k=>ap_ [(173,lZ_ k)]) rA_ false [.tmp 4] 0 [] av_ Tryz.func166 (by kernel_rfl) (by kernel_rfl) (by kernel_rfl) (by kernel_rfl)
  (fun k=>Known.of cj_ ci_ codOk (all_cons (rz_ k) (aa_)))
  (fun k=>QuietOk.of (all_cons (fun h r=>⟨rfl,rfl⟩) (aa_)))
  (fun a=>rfl)
  (all_cons (aq_ codOk (by kernel_rfl) (by (repeat intro _);show _=_;kernel_rfl) (fun k=>by (repeat intro _);show _=_;kernel_rfl)) (aa_))
  (fun k=>by (repeat intro _);show _=_;kernel_rfl)
noncomputable def iH_ (k:Nat):aK_ K TyK:=sm cod (Bool) [.bo, .bo] [.c (.l true .str), .c (.l true .str)] [] (fw_) k [.c (.b)] [] (fun r=>(r,())) (fun v1=>v1) true
noncomputable abbrev ot_:List (Nat×Cut K TyK (Bool)):=[(4,ct cod [0,1,5] [.c (.l true .str), .c (.l true .str), .c (.i .i64)] [] cn_)]
theorem mI_ (k:Nat):SummOk Tryz.prog cod 167 (iH_ k):=aw_ codOk Tryz.f167 (fun k=>ap_ []) ot_ false [.tmp 4] 0 [] av_ Tryz.func167 (by kernel_rfl) (by kernel_rfl) (by kernel_rfl) (by kernel_rfl)
  (fun k=>Known.of cj_ ci_ codOk (aa_))
  (fun k=>QuietOk.of (aa_))
  (fun a=>rfl)
  (all_cons (aq_ codOk (by kernel_rfl) (by (repeat intro _);show _=_;kernel_rfl) (fun k=>by (repeat intro _);show _=_;kernel_rfl)) (aa_))
  (fun k=>by (repeat intro _);show _=_;kernel_rfl)
noncomputable def lO_ (k:Nat):aK_ K TyK:=sm cod (Bool) [.bo, .bo] [.g [.i .i64, .l true .held, .s, .l true .str], .g [.i .i64, .l true .held, .s, .l true .str]] [] (fun k v1 v2 v3 v4 v5 v6 v7 v8=>hL_ k (⟨v1,v2,v3,v4⟩:ak_) (⟨v5,v6,v7,v8⟩:ak_)) k [.c (.b)] [] (fun r=>(r,())) (fun v1=>v1) true
theorem rN_ (k:Nat):SummOk Tryz.prog cod 152 (lO_ k):=aw_ codOk Tryz.f152 (fun k=>ap_ [(166,jY_ k),(167,iH_ k)]) [] false [.tmp 4] 0 [] av_ Tryz.func152 (by kernel_rfl) (by kernel_rfl) (by kernel_rfl) (by kernel_rfl)
  (fun k=>Known.of cj_ ci_ codOk (all_cons (qS_ k) (all_cons (mI_ k) (aa_))))
  (fun k=>QuietOk.of (all_cons (fun h r=>⟨rfl,rfl⟩) (all_cons (fun h r=>⟨rfl,rfl⟩) (aa_))))
  (fun a=>rfl)
  (aa_)
  (fun k=>by (repeat intro _);show _=_;kernel_rfl)
noncomputable def nS_ (k:Nat):aK_ K TyK:=sm cod (Bool) [.bo, .bo] [.g [.i .i64, .b, .i .i64, .i .i64, .i .i64, .b, .i .i64, .l true .item, .i .i64, .l true .held, .s, .l true .str], .g [.i .i64, .b, .i .i64, .i .i64, .i .i64, .b, .i .i64, .l true .item, .i .i64, .l true .held, .s, .l true .str]] [] (fun k v1 v2 v3 v4 v5 v6 v7 v8 v9 v10 v11 v12 v13 v14 v15 v16 v17 v18 v19 v20 v21 v22 v23 v24=>jP_ k (⟨v1,v2,v3,v4,v5,v6,(⟨v7,v8⟩:al_),(⟨v9,v10,v11,v12⟩:ak_)⟩:an_) (⟨v13,v14,v15,v16,v17,v18,(⟨v19,v20⟩:al_),(⟨v21,v22,v23,v24⟩:ak_)⟩:an_)) k [.c (.b)] [] (fun r=>(r,())) (fun v1=>v1) true
theorem tB_ (k:Nat):SummOk Tryz.prog cod 108 (nS_ k):=aw_ codOk Tryz.f108 (fun k=>ap_ [(151,lw_ k),(152,lO_ k)]) [] false [.tmp 4] 0 [] av_ Tryz.func108 (by kernel_rfl) (by kernel_rfl) (by kernel_rfl) (by kernel_rfl)
  (fun k=>Known.of cj_ ci_ codOk (all_cons (rj_ k) (all_cons (rN_ k) (aa_))))
  (fun k=>QuietOk.of (all_cons (fun h r=>⟨rfl,rfl⟩) (all_cons (fun h r=>⟨rfl,rfl⟩) (aa_))))
  (fun a=>rfl)
  (aa_)
  (fun k=>by (repeat intro _);show _=_;kernel_rfl)
noncomputable def md_ (k:Nat):aK_ K TyK:=sm cod (Bool) [.bo, .bo] [.c (.l true .xend), .c (.l true .xend)] [] (hO_) k [.c (.b)] [] (fun r=>(r,())) (fun v1=>v1) true
noncomputable abbrev sN_:List (Nat×Cut K TyK (Bool)):=[(4,ct cod [0,1,5] [.c (.l true .xend), .c (.l true .xend), .c (.i .i64)] [] dy_)]
theorem rR_ (k:Nat):SummOk Tryz.prog cod 64 (md_ k):=aw_ codOk Tryz.f64 (fun k=>ap_ [(108,nS_ k)]) sN_ false [.tmp 4] 0 [] av_ Tryz.func64 (by kernel_rfl) (by kernel_rfl) (by kernel_rfl) (by kernel_rfl)
  (fun k=>Known.of cj_ ci_ codOk (all_cons (tB_ k) (aa_)))
  (fun k=>QuietOk.of (all_cons (fun h r=>⟨rfl,rfl⟩) (aa_)))
  (fun a=>rfl)
  (all_cons (aq_ codOk (by kernel_rfl) (by (repeat intro _);show _=_;kernel_rfl) (fun k=>by (repeat intro _);show _=_;kernel_rfl)) (aa_))
  (fun k=>by (repeat intro _);show _=_;kernel_rfl)
noncomputable def i5_ (k:Nat):aK_ K TyK:=sm cod (Bool) [.bo, .bo] [.g [.i .i64, .s, .s], .g [.i .i64, .s, .s]] [] (fun k v1 v2 v3 v4 v5 v6=>f3_ k (⟨v1,v2,v3⟩:ac_) (⟨v4,v5,v6⟩:ac_)) k [.c (.b)] [] (fun r=>(r,())) (fun v1=>v1) true
theorem n9_ (k:Nat):SummOk Tryz.prog cod 109 (i5_ k):=aw_ codOk Tryz.f109 (fun k=>ap_ []) [] false [.tmp 4] 0 [] av_ Tryz.func109 (by kernel_rfl) (by kernel_rfl) (by kernel_rfl) (by kernel_rfl)
  (fun k=>Known.of cj_ ci_ codOk (aa_))
  (fun k=>QuietOk.of (aa_))
  (fun a=>rfl)
  (aa_)
  (fun k=>by (repeat intro _);show _=_;kernel_rfl)
noncomputable def iG_ (k:Nat):aK_ K TyK:=sm cod (Bool) [.bo, .bo] [.c (.l true .parcel), .c (.l true .parcel)] [] (fo_) k [.c (.b)] [] (fun r=>(r,())) (fun v1=>v1) true
noncomputable abbrev ok_:List (Nat×Cut K TyK (Bool)):=[(4,ct cod [0,1,5] [.c (.l true .parcel), .c (.l true .parcel), .c (.i .i64)] [] cs_)]
theorem nk_ (k:Nat):SummOk Tryz.prog cod 65 (iG_ k):=aw_ codOk Tryz.f65 (fun k=>ap_ [(109,i5_ k)]) ok_ false [.tmp 4] 0 [] av_ Tryz.func65 (by kernel_rfl) (by kernel_rfl) (by kernel_rfl) (by kernel_rfl)
  (fun k=>Known.of cj_ ci_ codOk (all_cons (n9_ k) (aa_)))
  (fun k=>QuietOk.of (all_cons (fun h r=>⟨rfl,rfl⟩) (aa_)))
  (fun a=>rfl)
  (all_cons (aq_ codOk (by kernel_rfl) (by (repeat intro _);show _=_;kernel_rfl) (fun k=>by (repeat intro _);show _=_;kernel_rfl)) (aa_))
  (fun k=>by (repeat intro _);show _=_;kernel_rfl)
noncomputable def jq_ (k:Nat):aK_ K TyK:=sm cod (Bool) [.bo, .bo] [.g [.i .i64, .i .i64, .i .i64, .s], .g [.i .i64, .i .i64, .i .i64, .s]] [] (fun k v1 v2 v3 v4 v5 v6 v7 v8=>gb_ k (⟨v1,v2,v3,v4⟩:ab_) (⟨v5,v6,v7,v8⟩:ab_)) k [.c (.b)] [] (fun r=>(r,())) (fun v1=>v1) true
theorem oM_ (k:Nat):SummOk Tryz.prog cod 110 (jq_ k):=aw_ codOk Tryz.f110 (fun k=>ap_ []) [] false [.tmp 4] 0 [] av_ Tryz.func110 (by kernel_rfl) (by kernel_rfl) (by kernel_rfl) (by kernel_rfl)
  (fun k=>Known.of cj_ ci_ codOk (aa_))
  (fun k=>QuietOk.of (aa_))
  (fun a=>rfl)
  (aa_)
  (fun k=>by (repeat intro _);show _=_;kernel_rfl)
noncomputable def iw_ (k:Nat):aK_ K TyK:=sm cod (Bool) [.bo, .bo] [.c (.l true .record), .c (.l true .record)] [] (ei_) k [.c (.b)] [] (fun r=>(r,())) (fun v1=>v1) true
noncomputable abbrev oN_:List (Nat×Cut K TyK (Bool)):=[(4,ct cod [0,1,5] [.c (.l true .record), .c (.l true .record), .c (.i .i64)] [] cy_)]
theorem nh_ (k:Nat):SummOk Tryz.prog cod 66 (iw_ k):=aw_ codOk Tryz.f66 (fun k=>ap_ [(110,jq_ k)]) oN_ false [.tmp 4] 0 [] av_ Tryz.func66 (by kernel_rfl) (by kernel_rfl) (by kernel_rfl) (by kernel_rfl)
  (fun k=>Known.of cj_ ci_ codOk (all_cons (oM_ k) (aa_)))
  (fun k=>QuietOk.of (all_cons (fun h r=>⟨rfl,rfl⟩) (aa_)))
  (fun a=>rfl)
  (all_cons (aq_ codOk (by kernel_rfl) (by (repeat intro _);show _=_;kernel_rfl) (fun k=>by (repeat intro _);show _=_;kernel_rfl)) (aa_))
  (fun k=>by (repeat intro _);show _=_;kernel_rfl)
noncomputable def kn_ (k:Nat):aK_ K TyK:=sm cod (Bool) [.bu, .bu] [.g [.s, .i .i64, .l true .xend, .l true .parcel, .s, .l true .record, .l true .record], .g [.s, .i .i64, .l true .xend, .l true .parcel, .s, .l true .record, .l true .record]] [] (fun k v1 v2 v3 v4 v5 v6 v7 v8 v9 v10 v11 v12 v13 v14=>ao_ k (⟨v1,v2,v3,v4,v5,v6,v7⟩:ae_) (⟨v8,v9,v10,v11,v12,v13,v14⟩:ae_)) k [.c (.b)] [] (fun r=>(r,())) (fun v1=>v1) true
theorem qB_ (k:Nat):SummOk Tryz.prog cod 21 (kn_ k):=aw_ codOk Tryz.f21 (fun k=>ap_ [(64,md_ k),(65,iG_ k),(66,iw_ k)]) [] false [.tmp 4] 0 [] av_ Tryz.func21 (by kernel_rfl) (by kernel_rfl) (by kernel_rfl) (by kernel_rfl)
  (fun k=>Known.of cj_ ci_ codOk (all_cons (rR_ k) (all_cons (nk_ k) (all_cons (nh_ k) (aa_)))))
  (fun k=>QuietOk.of (all_cons (fun h r=>⟨rfl,rfl⟩) (all_cons (fun h r=>⟨rfl,rfl⟩) (all_cons (fun h r=>⟨rfl,rfl⟩) (aa_)))))
  (fun a=>rfl)
  (aa_)
  (fun k=>by (repeat intro _);show _=_;kernel_rfl)
noncomputable def aZ_ (k:Nat):aK_ K TyK:=sm cod (ByteArray) [.bo] [.c (.i .i64)] [] (aJ_) k [.c (.s)] [] (fun r=>(r,())) (fun v1=>v1) true
noncomputable abbrev pD_:List (Nat×Cut K TyK (ByteArray)):=[(4,ct cod [0,3] [.c (.i .i64), .c (.s)] [] cI_)]
theorem aY_ (k:Nat):SummOk Tryz.prog cod 113 (aZ_ k):=aw_ codOk Tryz.f113 (fun k=>ap_ []) pD_ false [.tmp 2] 0 [] av_ Tryz.func113 (by kernel_rfl) (by kernel_rfl) (by kernel_rfl) (by kernel_rfl)
  (fun k=>Known.of cj_ ci_ codOk (aa_))
  (fun k=>QuietOk.of (aa_))
  (fun a=>rfl)
  (all_cons (aq_ codOk (by kernel_rfl) (by (repeat intro _);show _=_;kernel_rfl) (fun k=>by (repeat intro _);show _=_;kernel_rfl)) (aa_))
  (fun k=>by (repeat intro _);show _=_;kernel_rfl)
noncomputable def iC_ (k:Nat):aK_ K TyK:=sm cod (Int×List ag_) [.mv, .mv] [.c (.o 0), .c (.i .i64)] [.l .item] (fun k v1 v2=>fq_ k v2 v1) k [.c (.i .i64)] [.l .item] (fun r=>(r.1,r.2,())) (fun v1 v2=>(v1,v2)) false
noncomputable abbrev oA_:List (Nat×Cut K TyK (Int×List ag_)):=[(2,ct cod [0,1,5] [.c (.o 0), .c (.i .i64), .c (.i .i64)] [.l .item] bN_)]
theorem m4_ (k:Nat):SummOk Tryz.prog cod 111 (iC_ k):=aw_ codOk Tryz.f111 (fun k=>ap_ [(113,aZ_ k)]) oA_ false [.tmp 4] 1 [false] av_ Tryz.func111 (by kernel_rfl) (by kernel_rfl) (by kernel_rfl) (by kernel_rfl)
  (fun k=>Known.of cj_ ci_ codOk (all_cons (aY_ k) (aa_)))
  (fun k=>QuietOk.of (all_cons (fun h r=>⟨rfl,rfl⟩) (aa_)))
  (fun a=>rfl)
  (all_cons (aq_ codOk (by kernel_rfl) (by (repeat intro _);show _=_;kernel_rfl) (fun k=>by (repeat intro _);show _=_;kernel_rfl)) (aa_))
  (fun k=>by (repeat intro _);show _=_;kernel_rfl)
noncomputable def iA_ (k:Nat):aK_ K TyK:=sm cod (Int×List ai_) [.mv, .mv] [.c (.o 0), .c (.i .i64)] [.l .held] (fun k v1 v2=>fx_ k v2 v1) k [.c (.i .i64)] [.l .held] (fun r=>(r.1,r.2,())) (fun v1 v2=>(v1,v2)) false
noncomputable abbrev oq_:List (Nat×Cut K TyK (Int×List ai_)):=[(2,ct cod [0,1,5] [.c (.o 0), .c (.i .i64), .c (.i .i64)] [.l .held] bK_)]
theorem m9_ (k:Nat):SummOk Tryz.prog cod 112 (iA_ k):=aw_ codOk Tryz.f112 (fun k=>ap_ [(113,aZ_ k)]) oq_ false [.tmp 4] 1 [false] av_ Tryz.func112 (by kernel_rfl) (by kernel_rfl) (by kernel_rfl) (by kernel_rfl)
  (fun k=>Known.of cj_ ci_ codOk (all_cons (aY_ k) (aa_)))
  (fun k=>QuietOk.of (all_cons (fun h r=>⟨rfl,rfl⟩) (aa_)))
  (fun a=>rfl)
  (all_cons (aq_ codOk (by kernel_rfl) (by (repeat intro _);show _=_;kernel_rfl) (fun k=>by (repeat intro _);show _=_;kernel_rfl)) (aa_))
  (fun k=>by (repeat intro _);show _=_;kernel_rfl)
noncomputable def gQ_ (k:Nat):aK_ K TyK:=sm cod (Int×List ByteArray) [.mv, .mv] [.c (.o 0), .c (.i .i64)] [.l .str] (fun k v1 v2=>eq_ k v2 v1) k [.c (.i .i64)] [.l .str] (fun r=>(r.1,r.2,())) (fun v1 v2=>(v1,v2)) false
noncomputable abbrev lG_:List (Nat×Cut K TyK (Int×List ByteArray)):=[(2,ct cod [0,1,5] [.c (.o 0), .c (.i .i64), .c (.i .i64)] [.l .str] bl_)]
theorem kU_ (k:Nat):SummOk Tryz.prog cod 114 (gQ_ k):=aw_ codOk Tryz.f114 (fun k=>ap_ [(113,aZ_ k)]) lG_ false [.tmp 4] 1 [false] av_ Tryz.func114 (by kernel_rfl) (by kernel_rfl) (by kernel_rfl) (by kernel_rfl)
  (fun k=>Known.of cj_ ci_ codOk (all_cons (aY_ k) (aa_)))
  (fun k=>QuietOk.of (all_cons (fun h r=>⟨rfl,rfl⟩) (aa_)))
  (fun a=>rfl)
  (all_cons (aq_ codOk (by kernel_rfl) (by (repeat intro _);show _=_;kernel_rfl) (fun k=>by (repeat intro _);show _=_;kernel_rfl)) (aa_))
  (fun k=>by (repeat intro _);show _=_;kernel_rfl)
noncomputable def jc_ (k:Nat):aK_ K TyK:=sm cod (Int×List an_) [.mv, .mv] [.c (.w 0), .c (.i .i64)] [.w .xend] (fun k v1 v2=>ge_ k v2 v1) k [.c (.i .i64)] [.w .xend] (fun r=>(r.1,r.2,())) (fun v1 v2=>(v1,v2)) false
noncomputable abbrev pq_:List (Nat×Cut K TyK (Int×List an_)):=[(2,ct cod [0,1,5] [.c (.w 0), .c (.i .i64), .c (.i .i64)] [.w .xend] cc_)]
theorem oQ_ (k:Nat):SummOk Tryz.prog cod 67 (jc_ k):=aw_ codOk Tryz.f67 (fun k=>ap_ [(111,iC_ k),(112,iA_ k),(113,aZ_ k),(114,gQ_ k)]) pq_ false [.tmp 4] 1 [false] av_ Tryz.func67 (by kernel_rfl) (by kernel_rfl) (by kernel_rfl) (by kernel_rfl)
  (fun k=>Known.of cj_ ci_ codOk (all_cons (m4_ k) (all_cons (m9_ k) (all_cons (aY_ k) (all_cons (kU_ k) (aa_))))))
  (fun k=>QuietOk.of (all_cons (fun h r=>by cases h) (all_cons (fun h r=>by cases h) (all_cons (fun h r=>⟨rfl,rfl⟩) (all_cons (fun h r=>by cases h) (aa_))))))
  (fun a=>rfl)
  (all_cons (aq_ codOk (by kernel_rfl) (by (repeat intro _);show _=_;kernel_rfl) (fun k=>by (repeat intro _);show _=_;kernel_rfl)) (aa_))
  (fun k=>by (repeat intro _);show _=_;kernel_rfl)
noncomputable def gL_ (k:Nat):aK_ K TyK:=sm cod (Int×List ac_) [.mv, .mv] [.c (.o 0), .c (.i .i64)] [.l .parcel] (fun k v1 v2=>ey_ k v2 v1) k [.c (.i .i64)] [.l .parcel] (fun r=>(r.1,r.2,())) (fun v1 v2=>(v1,v2)) false
noncomputable abbrev mj_:List (Nat×Cut K TyK (Int×List ac_)):=[(2,ct cod [0,1,5] [.c (.o 0), .c (.i .i64), .c (.i .i64)] [.l .parcel] bq_)]
theorem kR_ (k:Nat):SummOk Tryz.prog cod 68 (gL_ k):=aw_ codOk Tryz.f68 (fun k=>ap_ [(113,aZ_ k)]) mj_ false [.tmp 4] 1 [false] av_ Tryz.func68 (by kernel_rfl) (by kernel_rfl) (by kernel_rfl) (by kernel_rfl)
  (fun k=>Known.of cj_ ci_ codOk (all_cons (aY_ k) (aa_)))
  (fun k=>QuietOk.of (all_cons (fun h r=>⟨rfl,rfl⟩) (aa_)))
  (fun a=>rfl)
  (all_cons (aq_ codOk (by kernel_rfl) (by (repeat intro _);show _=_;kernel_rfl) (fun k=>by (repeat intro _);show _=_;kernel_rfl)) (aa_))
  (fun k=>by (repeat intro _);show _=_;kernel_rfl)
noncomputable def hh_ (k:Nat):aK_ K TyK:=sm cod (Int×List ab_) [.mv, .mv] [.c (.o 0), .c (.i .i64)] [.l .record] (fun k v1 v2=>du_ k v2 v1) k [.c (.i .i64)] [.l .record] (fun r=>(r.1,r.2,())) (fun v1 v2=>(v1,v2)) false
noncomputable abbrev l0_:List (Nat×Cut K TyK (Int×List ab_)):=[(2,ct cod [0,1,5] [.c (.o 0), .c (.i .i64), .c (.i .i64)] [.l .record] bm_)]
theorem kJ_ (k:Nat):SummOk Tryz.prog cod 69 (hh_ k):=aw_ codOk Tryz.f69 (fun k=>ap_ [(113,aZ_ k)]) l0_ false [.tmp 4] 1 [false] av_ Tryz.func69 (by kernel_rfl) (by kernel_rfl) (by kernel_rfl) (by kernel_rfl)
  (fun k=>Known.of cj_ ci_ codOk (all_cons (aY_ k) (aa_)))
  (fun k=>QuietOk.of (all_cons (fun h r=>⟨rfl,rfl⟩) (aa_)))
  (fun a=>rfl)
  (all_cons (aq_ codOk (by kernel_rfl) (by (repeat intro _);show _=_;kernel_rfl) (fun k=>by (repeat intro _);show _=_;kernel_rfl)) (aa_))
  (fun k=>by (repeat intro _);show _=_;kernel_rfl)
noncomputable def ix_ (k:Nat):aK_ K TyK:=sm cod (Int×List an_×List ac_×List ab_×List ab_) [.mv, .mv] [.g [.s, .i .i64, .w 0, .o 1, .s, .o 2, .o 3], .c (.i .i64)] [.w .xend, .l .parcel, .l .record, .l .record] (fun k v1 v2 v3 v4 v5 v6 v7 v8=>aV_ k (⟨v1,v2,v5,v6,v3,v7,v8⟩:ae_) v4) k [.c (.i .i64)] [.w .xend, .l .parcel, .l .record, .l .record] (fun r=>(r.1,r.2.1,r.2.2.1,r.2.2.2.1,r.2.2.2.2,())) (fun v1 v2 v3 v4 v5=>(v1,v2,v3,v4,v5)) false
theorem mO_ (k:Nat):SummOk Tryz.prog cod 22 (ix_ k):=aw_ codOk Tryz.f22 (fun k=>ap_ [(67,jc_ k),(68,gL_ k),(69,hh_ k)]) [] false [.tmp 4] 4 [false,false,false,false] av_ Tryz.func22 (by kernel_rfl) (by kernel_rfl) (by kernel_rfl) (by kernel_rfl)
  (fun k=>Known.of cj_ ci_ codOk (all_cons (oQ_ k) (all_cons (kR_ k) (all_cons (kJ_ k) (aa_)))))
  (fun k=>QuietOk.of (all_cons (fun h r=>by cases h) (all_cons (fun h r=>by cases h) (all_cons (fun h r=>by cases h) (aa_)))))
  (fun a=>rfl)
  (aa_)
  (fun k=>by (repeat intro _);show _=_;kernel_rfl)
noncomputable def is_ (k:Nat):aK_ K TyK:=sm cod (Int) [.bo, .bo] [.c (.l true .item), .c (.i .i64)] [] (fv_) k [.c (.i .i64)] [] (fun r=>(r,())) (fun v1=>v1) true
noncomputable abbrev oz_:List (Nat×Cut K TyK (Int)):=[(2,ct cod [0,1,5] [.c (.l true .item), .c (.i .i64), .c (.i .i64)] [] bP_)]
theorem ne_ (k:Nat):SummOk Tryz.prog cod 115 (is_ k):=aw_ codOk Tryz.f115 (fun k=>ap_ [(113,aZ_ k)]) oz_ false [.tmp 4] 0 [] av_ Tryz.func115 (by kernel_rfl) (by kernel_rfl) (by kernel_rfl) (by kernel_rfl)
  (fun k=>Known.of cj_ ci_ codOk (all_cons (aY_ k) (aa_)))
  (fun k=>QuietOk.of (all_cons (fun h r=>⟨rfl,rfl⟩) (aa_)))
  (fun a=>rfl)
  (all_cons (aq_ codOk (by kernel_rfl) (by (repeat intro _);show _=_;kernel_rfl) (fun k=>by (repeat intro _);show _=_;kernel_rfl)) (aa_))
  (fun k=>by (repeat intro _);show _=_;kernel_rfl)
noncomputable def ip_ (k:Nat):aK_ K TyK:=sm cod (Int) [.bo, .bo] [.c (.l true .held), .c (.i .i64)] [] (fr_) k [.c (.i .i64)] [] (fun r=>(r,())) (fun v1=>v1) true
noncomputable abbrev oK_:List (Nat×Cut K TyK (Int)):=[(2,ct cod [0,1,5] [.c (.l true .held), .c (.i .i64), .c (.i .i64)] [] bG_)]
theorem ni_ (k:Nat):SummOk Tryz.prog cod 116 (ip_ k):=aw_ codOk Tryz.f116 (fun k=>ap_ [(113,aZ_ k)]) oK_ false [.tmp 4] 0 [] av_ Tryz.func116 (by kernel_rfl) (by kernel_rfl) (by kernel_rfl) (by kernel_rfl)
  (fun k=>Known.of cj_ ci_ codOk (all_cons (aY_ k) (aa_)))
  (fun k=>QuietOk.of (all_cons (fun h r=>⟨rfl,rfl⟩) (aa_)))
  (fun a=>rfl)
  (all_cons (aq_ codOk (by kernel_rfl) (by (repeat intro _);show _=_;kernel_rfl) (fun k=>by (repeat intro _);show _=_;kernel_rfl)) (aa_))
  (fun k=>by (repeat intro _);show _=_;kernel_rfl)
noncomputable def gK_ (k:Nat):aK_ K TyK:=sm cod (Int) [.bo, .bo] [.c (.l true .str), .c (.i .i64)] [] (ep_) k [.c (.i .i64)] [] (fun r=>(r,())) (fun v1=>v1) true
noncomputable abbrev mB_:List (Nat×Cut K TyK (Int)):=[(2,ct cod [0,1,5] [.c (.l true .str), .c (.i .i64), .c (.i .i64)] [] bp_)]
theorem kF_ (k:Nat):SummOk Tryz.prog cod 117 (gK_ k):=aw_ codOk Tryz.f117 (fun k=>ap_ [(113,aZ_ k)]) mB_ false [.tmp 4] 0 [] av_ Tryz.func117 (by kernel_rfl) (by kernel_rfl) (by kernel_rfl) (by kernel_rfl)
  (fun k=>Known.of cj_ ci_ codOk (all_cons (aY_ k) (aa_)))
  (fun k=>QuietOk.of (all_cons (fun h r=>⟨rfl,rfl⟩) (aa_)))
  (fun a=>rfl)
  (all_cons (aq_ codOk (by kernel_rfl) (by (repeat intro _);show _=_;kernel_rfl) (fun k=>by (repeat intro _);show _=_;kernel_rfl)) (aa_))
  (fun k=>by (repeat intro _);show _=_;kernel_rfl)
noncomputable def js_ (k:Nat):aK_ K TyK:=sm cod (Int) [.bo, .bo] [.c (.l true .xend), .c (.i .i64)] [] (f8_) k [.c (.i .i64)] [] (fun r=>(r,())) (fun v1=>v1) true
noncomputable abbrev pW_:List (Nat×Cut K TyK (Int)):=[(2,ct cod [0,1,5] [.c (.l true .xend), .c (.i .i64), .c (.i .i64)] [] cg_)]
theorem oI_ (k:Nat):SummOk Tryz.prog cod 70 (js_ k):=aw_ codOk Tryz.f70 (fun k=>ap_ [(115,is_ k),(116,ip_ k),(113,aZ_ k),(117,gK_ k)]) pW_ false [.tmp 4] 0 [] av_ Tryz.func70 (by kernel_rfl) (by kernel_rfl) (by kernel_rfl) (by kernel_rfl)
  (fun k=>Known.of cj_ ci_ codOk (all_cons (ne_ k) (all_cons (ni_ k) (all_cons (aY_ k) (all_cons (kF_ k) (aa_))))))
  (fun k=>QuietOk.of (all_cons (fun h r=>⟨rfl,rfl⟩) (all_cons (fun h r=>⟨rfl,rfl⟩) (all_cons (fun h r=>⟨rfl,rfl⟩) (all_cons (fun h r=>⟨rfl,rfl⟩) (aa_))))))
  (fun a=>rfl)
  (all_cons (aq_ codOk (by kernel_rfl) (by (repeat intro _);show _=_;kernel_rfl) (fun k=>by (repeat intro _);show _=_;kernel_rfl)) (aa_))
  (fun k=>by (repeat intro _);show _=_;kernel_rfl)
noncomputable def gO_ (k:Nat):aK_ K TyK:=sm cod (Int) [.bo, .bo] [.c (.l true .parcel), .c (.i .i64)] [] (er_) k [.c (.i .i64)] [] (fun r=>(r,())) (fun v1=>v1) true
noncomputable abbrev mo_:List (Nat×Cut K TyK (Int)):=[(2,ct cod [0,1,5] [.c (.l true .parcel), .c (.i .i64), .c (.i .i64)] [] br_)]
theorem kP_ (k:Nat):SummOk Tryz.prog cod 71 (gO_ k):=aw_ codOk Tryz.f71 (fun k=>ap_ [(113,aZ_ k)]) mo_ false [.tmp 4] 0 [] av_ Tryz.func71 (by kernel_rfl) (by kernel_rfl) (by kernel_rfl) (by kernel_rfl)
  (fun k=>Known.of cj_ ci_ codOk (all_cons (aY_ k) (aa_)))
  (fun k=>QuietOk.of (all_cons (fun h r=>⟨rfl,rfl⟩) (aa_)))
  (fun a=>rfl)
  (all_cons (aq_ codOk (by kernel_rfl) (by (repeat intro _);show _=_;kernel_rfl) (fun k=>by (repeat intro _);show _=_;kernel_rfl)) (aa_))
  (fun k=>by (repeat intro _);show _=_;kernel_rfl)
noncomputable def g5_ (k:Nat):aK_ K TyK:=sm cod (Int) [.bo, .bo] [.c (.l true .record), .c (.i .i64)] [] (dn_) k [.c (.i .i64)] [] (fun r=>(r,())) (fun v1=>v1) true
noncomputable abbrev mf_:List (Nat×Cut K TyK (Int)):=[(2,ct cod [0,1,5] [.c (.l true .record), .c (.i .i64), .c (.i .i64)] [] bo_)]
theorem k3_ (k:Nat):SummOk Tryz.prog cod 72 (g5_ k):=aw_ codOk Tryz.f72 (fun k=>ap_ [(113,aZ_ k)]) mf_ false [.tmp 4] 0 [] av_ Tryz.func72 (by kernel_rfl) (by kernel_rfl) (by kernel_rfl) (by kernel_rfl)
  (fun k=>Known.of cj_ ci_ codOk (all_cons (aY_ k) (aa_)))
  (fun k=>QuietOk.of (all_cons (fun h r=>⟨rfl,rfl⟩) (aa_)))
  (fun a=>rfl)
  (all_cons (aq_ codOk (by kernel_rfl) (by (repeat intro _);show _=_;kernel_rfl) (fun k=>by (repeat intro _);show _=_;kernel_rfl)) (aa_))
  (fun k=>by (repeat intro _);show _=_;kernel_rfl)
noncomputable def iv_ (k:Nat):aK_ K TyK:=sm cod (Int) [.bo, .bo] [.g [.s, .i .i64, .l true .xend, .l true .parcel, .s, .l true .record, .l true .record], .c (.i .i64)] [] (fun k v1 v2 v3 v4 v5 v6 v7 v8=>ar_ k (⟨v1,v2,v3,v4,v5,v6,v7⟩:ae_) v8) k [.c (.i .i64)] [] (fun r=>(r,())) (fun v1=>v1) true
theorem m1_ (k:Nat):SummOk Tryz.prog cod 23 (iv_ k):=aw_ codOk Tryz.f23 (fun k=>ap_ [(70,js_ k),(71,gO_ k),(72,g5_ k)]) [] false [.tmp 4] 0 [] av_ Tryz.func23 (by kernel_rfl) (by kernel_rfl) (by kernel_rfl) (by kernel_rfl)
  (fun k=>Known.of cj_ ci_ codOk (all_cons (oI_ k) (all_cons (kP_ k) (all_cons (k3_ k) (aa_)))))
  (fun k=>QuietOk.of (all_cons (fun h r=>⟨rfl,rfl⟩) (all_cons (fun h r=>⟨rfl,rfl⟩) (all_cons (fun h r=>⟨rfl,rfl⟩) (aa_)))))
  (fun a=>rfl)
  (aa_)
  (fun k=>by (repeat intro _);show _=_;kernel_rfl)
noncomputable def ke_ (k:Nat):aK_ K TyK:=sm cod (Int) [.bo, .bo] [.g [.i .i64, .i .i64, .i .i64, .i .i64, .s], .c (.i .i64)] [] (fun k v1 v2 v3 v4 v5 v6=>gG_ k (⟨v1,v2,v3,v4,v5⟩:bu_) v6) k [.c (.i .i64)] [] (fun r=>(r,())) (fun v1=>v1) true
theorem pj_ (k:Nat):SummOk Tryz.prog cod 24 (ke_ k):=aw_ codOk Tryz.f24 (fun k=>ap_ []) [] false [.tmp 4] 0 [] av_ Tryz.func24 (by kernel_rfl) (by kernel_rfl) (by kernel_rfl) (by kernel_rfl)
  (fun k=>Known.of cj_ ci_ codOk (aa_))
  (fun k=>QuietOk.of (aa_))
  (fun a=>rfl)
  (aa_)
  (fun k=>by (repeat intro _);show _=_;kernel_rfl)
noncomputable def kB_ (k:Nat):aK_ K TyK:=sm cod (bu_) [.bo] [.g [.i .i64, .i .i64, .i .i64, .i .i64, .s]] [] (fun k v1 v2 v3 v4 v5=>ax_ k (⟨v1,v2,v3,v4,v5⟩:bu_)) k [.g [.i .i64, .i .i64, .i .i64, .i .i64, .s]] [] (fun r=>(r.Kind,r.A,r.B,r.C,r.Text,())) (fun v1 v2 v3 v4 v5=>(⟨v1,v2,v3,v4,v5⟩:bu_)) true
theorem qH_ (k:Nat):SummOk Tryz.prog cod 25 (kB_ k):=aw_ codOk Tryz.f25 (fun k=>ap_ []) [] false [.cell 2 35] 0 [] av_ Tryz.func25 (by kernel_rfl) (by kernel_rfl) (by kernel_rfl) (by kernel_rfl)
  (fun k=>Known.of cj_ ci_ codOk (aa_))
  (fun k=>QuietOk.of (aa_))
  (fun a=>rfl)
  (aa_)
  (fun k=>by (repeat intro _);show _=_;kernel_rfl)
noncomputable def oO_ (k:Nat):aK_ K TyK:=sm cod (Bool) [.pe, .pe] [.g [.s, .i .i64, .l false .end, .l false .parcel, .s, .l false .record, .l false .record], .g [.i .i64, .i .i64, .i .i64, .i .i64, .s]] [] (fun k v1 v2 v3 v4 v5 v6 v7 v8 v9 v10 v11 v12=>hl_ k (⟨v1,v2,v3,v4,v5,v6,v7⟩:ae_) (⟨v8,v9,v10,v11,v12⟩:bu_)) k [.c (.b)] [] (fun r=>(r,())) (fun v1=>v1) true
theorem ok_laws_FnExactDo (k:Nat):SummOk Tryz.prog cod 5 (oO_ k):=aw_ codOk Tryz.f5 (fun k=>ap_ [(17,ku_ k),(24,ke_ k),(19,ks_ k),(25,kB_ k),(12,uH_ k),(11,uV_ k),(21,kn_ k),(22,ix_ k),(23,iv_ k)]) [] false [.tmp 4] 0 [] av_ Tryz.func5 (by kernel_rfl) (by kernel_rfl) (by kernel_rfl) (by kernel_rfl)
  (fun k=>Known.of cj_ ci_ codOk (all_cons (qR_ k) (all_cons (pj_ k) (all_cons (qK_ k) (all_cons (qH_ k) (all_cons (yv_ k) (all_cons (ys_ k) (all_cons (qB_ k) (all_cons (mO_ k) (all_cons (m1_ k) (aa_)))))))))))
  (fun k=>QuietOk.of (all_cons (fun h r=>⟨rfl,rfl⟩) (all_cons (fun h r=>⟨rfl,rfl⟩) (all_cons (fun h r=>by cases h) (all_cons (fun h r=>⟨rfl,rfl⟩) (all_cons (fun h r=>by cases h) (all_cons (fun h r=>by cases h) (all_cons (fun h r=>⟨rfl,rfl⟩) (all_cons (fun h r=>by cases h) (all_cons (fun h r=>⟨rfl,rfl⟩) (aa_)))))))))))
  (fun a=>rfl)
  (aa_)
  (fun k=>by (repeat intro _);show _=_;kernel_rfl)
end Km.X
