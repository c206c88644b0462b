/- A part of the proof of FnTop: each function does what its reading says. There is no condition. -/
import Derived.Test.YtgffmpjadffjkaaGreatKmSeat
import Derived.Test.YtgffmpjadffjkaaGreatKxDef2
namespace Km.X
open Go Km Go.Proofs
set_option linter.unusedVariables false
set_option maxRecDepth 100000
set_option maxHeartbeats 4000000
noncomputable def io_ (k:Nat):aY_ K TyK:=sm cod (ax_) [.pe] [.c (.l false .byte)] [] (g9_) k [.c (.r 0 0)] [.x [.l false .byte, .i .i64]] (fun r=>((),r.b,r.p,())) (fun v1 v2=>(⟨v1,v2⟩:ax_)) false
noncomputable abbrev r3_:List (Nat×Cut K TyK (ax_)):=[(3,ct cod [0] [.c (.l false .byte)] [] eO_)]
theorem kz_ (k:Nat):SummOk Tryz.prog cod 30 (io_ k):=aF_ codOk Tryz.f30 (fun k=>av_ []) r3_ false [.tmp 2] 0 [] aG_ Tryz.func30 (by kernel_rfl) (by kernel_rfl) (by kernel_rfl) (by kernel_rfl)
  (fun k=>Known.of tok eok codOk (ab_))
  (fun k=>QuietOk.of (ab_))
  (fun a=>rfl)
  (all_cons (ao_ codOk (by kernel_rfl) (by (repeat intro _);show _=_;kernel_rfl) (fun k=>by (repeat intro _);show _=_;kernel_rfl)) (ab_))
  (fun k=>by (repeat intro _);show _=_;kernel_rfl)
noncomputable def cf_ (k:Nat):aY_ K TyK:=sm cod (Int×ax_) [.mv, .bo] [.c (.r 0 0), .c (.i .i64)] [.x [.l false .byte, .i .i64]] (fun k v1 v2 v3=>ah_ k (⟨v2,v3⟩:ax_) v1) k [.c (.i .i64)] [.x [.l false .byte, .i .i64]] (fun r=>(r.1,r.2.b,r.2.p,())) (fun v1 v2 v3=>(v1,(⟨v2,v3⟩:ax_))) false
theorem cv_ (k:Nat):SummOk Tryz.prog cod 31 (cf_ k):=aF_ codOk Tryz.f31 (fun k=>av_ []) [] false [.tmp 4] 1 [false] aG_ Tryz.func31 (by kernel_rfl) (by kernel_rfl) (by kernel_rfl) (by kernel_rfl)
  (fun k=>Known.of tok eok codOk (ab_))
  (fun k=>QuietOk.of (ab_))
  (fun a=>rfl)
  (ab_)
  (fun k=>by (repeat intro _);show _=_;kernel_rfl)
noncomputable def gC_ (k:Nat):aY_ K TyK:=sm cod (ByteArray) [.bo, .bo] [.c (.s), .c (.i .i64)] [] (dv_) k [.c (.s)] [] (fun r=>(r,())) (fun v1=>v1) true
noncomputable abbrev r9_:List (Nat×Cut K TyK (ByteArray)):=[(2,ct cod [0,1,5] [.c (.s), .c (.i .i64), .c (.s)] [] c6_),
  (5,ct cod [0,1,5] [.c (.s), .c (.i .i64), .c (.s)] [] eM_)]
theorem hR_ (k:Nat):SummOk Tryz.prog cod 76 (gC_ k):=aF_ codOk Tryz.f76 (fun k=>av_ []) r9_ false [.tmp 4] 0 [] aG_ Tryz.func76 (by kernel_rfl) (by kernel_rfl) (by kernel_rfl) (by kernel_rfl)
  (fun k=>Known.of tok eok codOk (ab_))
  (fun k=>QuietOk.of (ab_))
  (fun a=>rfl)
  (all_cons (ao_ codOk (by kernel_rfl) (by (repeat intro _);show _=_;kernel_rfl) (fun k=>by (repeat intro _);show _=_;kernel_rfl)) (all_cons (ao_ codOk (by kernel_rfl) (by (repeat intro _);show _=_;kernel_rfl) (fun k=>by (repeat intro _);show _=_;kernel_rfl)) (ab_)))
  (fun k=>by (repeat intro _);show _=_;kernel_rfl)
noncomputable def gq_ (k:Nat):aY_ K TyK:=sm cod (ByteArray×ax_) [.bo] [.c (.r 0 0)] [.x [.l false .byte, .i .i64]] (fun k v1 v2=>co_ k (⟨v1,v2⟩:ax_)) k [.c (.s)] [.x [.l false .byte, .i .i64]] (fun r=>(r.1,r.2.b,r.2.p,())) (fun v1 v2 v3=>(v1,(⟨v2,v3⟩:ax_))) false
noncomputable abbrev nO_:List (Nat×Cut K TyK (ByteArray×ax_)):=[(12,ct cod [0,3,4] [.c (.r 0 0), .c (.s), .c (.i .i64)] [.x [.l false .byte, .i .i64]] b9_)]
theorem ii_ (k:Nat):SummOk Tryz.prog cod 73 (gq_ k):=aF_ codOk Tryz.f73 (fun k=>av_ [(31,cf_ k),(76,gC_ k)]) nO_ false [.tmp 2] 1 [false] aG_ Tryz.func73 (by kernel_rfl) (by kernel_rfl) (by kernel_rfl) (by kernel_rfl)
  (fun k=>Known.of tok eok codOk (all_cons (cv_ k) (all_cons (hR_ k) (ab_))))
  (fun k=>QuietOk.of (all_cons (fun h r=>by cases h) (all_cons (fun h r=>⟨rfl,rfl⟩) (ab_))))
  (fun a=>rfl)
  (all_cons (ao_ codOk (by kernel_rfl) (by (repeat intro _);show _=_;kernel_rfl) (fun k=>by (repeat intro _);show _=_;kernel_rfl)) (ab_))
  (fun k=>by (repeat intro _);show _=_;kernel_rfl)
noncomputable def mZ_ (k:Nat):aY_ K TyK:=sm cod (ByteArray×ax_) [.bo] [.c (.r 0 0)] [.x [.l false .byte, .i .i64]] (fun k v1 v2=>jQ_ k (⟨v1,v2⟩:ax_)) k [.c (.s)] [.x [.l false .byte, .i .i64]] (fun r=>(r.1,r.2.b,r.2.p,())) (fun v1 v2 v3=>(v1,(⟨v2,v3⟩:ax_))) false
theorem sm_ (k:Nat):SummOk Tryz.prog cod 74 (mZ_ k):=aF_ codOk Tryz.f74 (fun k=>av_ [(76,gC_ k),(31,cf_ k)]) [] false [.tmp 2] 1 [false] aG_ Tryz.func74 (by kernel_rfl) (by kernel_rfl) (by kernel_rfl) (by kernel_rfl)
  (fun k=>Known.of tok eok codOk (all_cons (hR_ k) (all_cons (cv_ k) (ab_))))
  (fun k=>QuietOk.of (all_cons (fun h r=>⟨rfl,rfl⟩) (all_cons (fun h r=>by cases h) (ab_))))
  (fun a=>rfl)
  (ab_)
  (fun k=>by (repeat intro _);show _=_;kernel_rfl)
noncomputable def kd_ (k:Nat):aY_ K TyK:=sm cod (Int×ax_) [.bo] [.c (.r 0 0)] [.x [.l false .byte, .i .i64]] (fun k v1 v2=>hI_ k (⟨v1,v2⟩:ax_)) k [.c (.i .i64)] [.x [.l false .byte, .i .i64]] (fun r=>(r.1,r.2.b,r.2.p,())) (fun v1 v2 v3=>(v1,(⟨v2,v3⟩:ax_))) false
theorem oM_ (k:Nat):SummOk Tryz.prog cod 75 (kd_ k):=aF_ codOk Tryz.f75 (fun k=>av_ [(31,cf_ k)]) [] false [.tmp 2] 1 [false] aG_ Tryz.func75 (by kernel_rfl) (by kernel_rfl) (by kernel_rfl) (by kernel_rfl)
  (fun k=>Known.of tok eok codOk (all_cons (cv_ k) (ab_)))
  (fun k=>QuietOk.of (all_cons (fun h r=>by cases h) (ab_)))
  (fun a=>rfl)
  (ab_)
  (fun k=>by (repeat intro _);show _=_;kernel_rfl)
noncomputable def kr_ (k:Nat):aY_ K TyK:=sm cod (ByteArray×ByteArray×Int) [.pe] [.c (.l false .byte)] [] (hy_) k [.c (.s), .c (.s), .c (.i .i64)] [] (fun r=>(r.1,r.2.1,r.2.2,())) (fun v1 v2 v3=>(v1,v2,v3)) true
noncomputable abbrev qI_:List (Nat×Cut K TyK (ByteArray×ByteArray×Int)):=[(10,ct cod [6,7,8] [.c (.s), .c (.s), .c (.i .i64)] [] cM_)]
theorem pA_ (k:Nat):SummOk Tryz.prog cod 26 (kr_ k):=aF_ codOk Tryz.f26 (fun k=>av_ [(30,io_ k),(73,gq_ k),(74,mZ_ k),(75,kd_ k),(31,cf_ k),(76,gC_ k)]) qI_ false [.tmp 2, .tmp 3, .tmp 4] 0 [] aG_ Tryz.func26 (by kernel_rfl) (by kernel_rfl) (by kernel_rfl) (by kernel_rfl)
  (fun k=>Known.of tok eok codOk (all_cons (kz_ k) (all_cons (ii_ k) (all_cons (sm_ k) (all_cons (oM_ k) (all_cons (cv_ k) (all_cons (hR_ k) (ab_))))))))
  (fun k=>QuietOk.of (all_cons (fun h r=>by cases h) (all_cons (fun h r=>by cases h) (all_cons (fun h r=>by cases h) (all_cons (fun h r=>by cases h) (all_cons (fun h r=>by cases h) (all_cons (fun h r=>⟨rfl,rfl⟩) (ab_))))))))
  (fun a=>rfl)
  (all_cons (ao_ codOk (by kernel_rfl) (by (repeat intro _);show _=_;kernel_rfl) (fun k=>by (repeat intro _);show _=_;kernel_rfl)) (ab_))
  (fun k=>by (repeat intro _);show _=_;kernel_rfl)
noncomputable def gU_ (k:Nat):aY_ K TyK:=sm cod (ByteArray×Int) [.pe] [.c (.l false .byte)] [] (es_) k [.c (.s), .c (.i .i64)] [] (fun r=>(r.1,r.2,())) (fun v1 v2=>(v1,v2)) true
theorem j6_ (k:Nat):SummOk Tryz.prog cod 6 (gU_ k):=aF_ codOk Tryz.f6 (fun k=>av_ [(26,kr_ k)]) [] false [.tmp 2, .tmp 3] 0 [] aG_ Tryz.func6 (by kernel_rfl) (by kernel_rfl) (by kernel_rfl) (by kernel_rfl)
  (fun k=>Known.of tok eok codOk (all_cons (pA_ k) (ab_)))
  (fun k=>QuietOk.of (all_cons (fun h r=>⟨rfl,rfl⟩) (ab_)))
  (fun a=>rfl)
  (ab_)
  (fun k=>by (repeat intro _);show _=_;kernel_rfl)
noncomputable def lo_ (k:Nat):aY_ K TyK:=sm cod (an_) [.bo] [.c (.i .i64)] [] (gS_) k [.g [.i .i64, .b, .i .i64, .i .i64, .i .i64, .b, .i .i64, .o 0, .i .i64, .o 1, .s, .o 2]] [.l .item, .l .held, .l .str] (fun r=>(r.Number,r.Up,r.Life,r.Peer,r.Since,r.Owes,r.Send.Base,(),r.Take.Next,(),r.Take.Open,(),r.Send.Items,r.Take.Held,r.Take.Ready,())) (fun v1 v2 v3 v4 v5 v6 v7 v8 v9 v10 v11 v12=>(⟨v1,v2,v3,v4,v5,v6,(⟨v7,v10⟩:aj_),(⟨v8,v11,v9,v12⟩:ai_)⟩:an_)) false
theorem qT_ (k:Nat):SummOk Tryz.prog cod 27 (lo_ k):=aF_ codOk Tryz.f27 (fun k=>av_ []) [] false [.cell 2 65] 0 [] aG_ Tryz.func27 (by kernel_rfl) (by kernel_rfl) (by kernel_rfl) (by kernel_rfl)
  (fun k=>Known.of tok eok codOk (ab_))
  (fun k=>QuietOk.of (ab_))
  (fun a=>rfl)
  (ab_)
  (fun k=>by (repeat intro _);show _=_;kernel_rfl)
noncomputable def iY_ (k:Nat):aY_ K TyK:=sm cod (ac_) [.bo, .bo] [.c (.s), .c (.i .i64)] [] (gB_) k [.g [.s, .i .i64, .o 0, .o 1, .s, .o 2, .o 3]] [.l .end, .l .parcel, .l .record, .l .record] (fun r=>(r.Key,r.Width,(),(),r.Forged,(),(),r.Ends,r.Flight,r.Given,r.Taken,())) (fun v1 v2 v3 v4 v5 v6 v7=>(⟨v1,v2,v4,v5,v3,v6,v7⟩:ac_)) false
theorem nx_ (k:Nat):SummOk Tryz.prog cod 7 (iY_ k):=aF_ codOk Tryz.f7 (fun k=>av_ [(27,lo_ k)]) [] false [.cell 4 29] 0 [] aG_ Tryz.func7 (by kernel_rfl) (by kernel_rfl) (by kernel_rfl) (by kernel_rfl)
  (fun k=>Known.of tok eok codOk (all_cons (qT_ k) (ab_)))
  (fun k=>QuietOk.of (all_cons (fun h r=>by cases h) (ab_)))
  (fun a=>rfl)
  (ab_)
  (fun k=>by (repeat intro _);show _=_;kernel_rfl)
noncomputable def bv_ (k:Nat):aY_ K TyK:=sm cod (Bool) [.bo, .bo, .bo] [.c (.i .i64), .c (.i .i64), .c (.i .i64)] [] (az_) k [.c (.b)] [] (fun r=>(r,())) (fun v1=>v1) true
theorem bj_ (k:Nat):SummOk Tryz.prog cod 28 (bv_ k):=aF_ codOk Tryz.f28 (fun k=>av_ []) [] false [.tmp 6] 0 [] aG_ Tryz.func28 (by kernel_rfl) (by kernel_rfl) (by kernel_rfl) (by kernel_rfl)
  (fun k=>Known.of tok eok codOk (ab_))
  (fun k=>QuietOk.of (ab_))
  (fun a=>rfl)
  (ab_)
  (fun k=>by (repeat intro _);show _=_;kernel_rfl)
noncomputable def lx_ (k:Nat):aY_ K TyK:=sm cod (an_) [.bo] [.c (.i .i64)] [] (gT_) k [.g [.i .i64, .b, .i .i64, .i .i64, .i .i64, .b, .i .i64, .o 0, .i .i64, .o 1, .s, .o 2]] [.l .item, .l .held, .l .str] (fun r=>(r.Number,r.Up,r.Life,r.Peer,r.Since,r.Owes,r.Send.Base,(),r.Take.Next,(),r.Take.Open,(),r.Send.Items,r.Take.Held,r.Take.Ready,())) (fun v1 v2 v3 v4 v5 v6 v7 v8 v9 v10 v11 v12=>(⟨v1,v2,v3,v4,v5,v6,(⟨v7,v10⟩:aj_),(⟨v8,v11,v9,v12⟩:ai_)⟩:an_)) false
theorem qR_ (k:Nat):SummOk Tryz.prog cod 29 (lx_ k):=aF_ codOk Tryz.f29 (fun k=>av_ [(28,bv_ k)]) [] false [.cell 2 65] 0 [] aG_ Tryz.func29 (by kernel_rfl) (by kernel_rfl) (by kernel_rfl) (by kernel_rfl)
  (fun k=>Known.of tok eok codOk (all_cons (bj_ k) (ab_)))
  (fun k=>QuietOk.of (all_cons (fun h r=>⟨rfl,rfl⟩) (ab_)))
  (fun a=>rfl)
  (ab_)
  (fun k=>by (repeat intro _);show _=_;kernel_rfl)
noncomputable def jt_ (k:Nat):aY_ K TyK:=sm cod (ac_) [.bo, .bo] [.c (.s), .c (.i .i64)] [] (gD_) k [.g [.s, .i .i64, .o 0, .o 1, .s, .o 2, .o 3]] [.l .end, .l .parcel, .l .record, .l .record] (fun r=>(r.Key,r.Width,(),(),r.Forged,(),(),r.Ends,r.Flight,r.Given,r.Taken,())) (fun v1 v2 v3 v4 v5 v6 v7=>(⟨v1,v2,v4,v5,v3,v6,v7⟩:ac_)) false
theorem nY_ (k:Nat):SummOk Tryz.prog cod 8 (jt_ k):=aF_ codOk Tryz.f8 (fun k=>av_ [(28,bv_ k),(29,lx_ k)]) [] false [.cell 4 29] 0 [] aG_ Tryz.func8 (by kernel_rfl) (by kernel_rfl) (by kernel_rfl) (by kernel_rfl)
  (fun k=>Known.of tok eok codOk (all_cons (bj_ k) (all_cons (qR_ k) (ab_))))
  (fun k=>QuietOk.of (all_cons (fun h r=>⟨rfl,rfl⟩) (all_cons (fun h r=>by cases h) (ab_))))
  (fun a=>rfl)
  (ab_)
  (fun k=>by (repeat intro _);show _=_;kernel_rfl)
noncomputable def ko_ (k:Nat):aY_ K TyK:=sm cod (as_×ax_) [.bo] [.c (.r 0 0)] [.x [.l false .byte, .i .i64]] (fun k v1 v2=>hn_ k (⟨v1,v2⟩:ax_)) k [.g [.i .i64, .i .i64, .i .i64, .i .i64, .s]] [.x [.l false .byte, .i .i64]] (fun r=>(r.1.Kind,r.1.A,r.1.B,r.1.C,r.1.Text,r.2.b,r.2.p,())) (fun v1 v2 v3 v4 v5 v6 v7=>((⟨v1,v2,v3,v4,v5⟩:as_),(⟨v6,v7⟩:ax_))) false
noncomputable abbrev qV_:List (Nat×Cut K TyK (as_×ax_)):=[(5,ct cod [0,2,3,4] [.c (.r 0 0), .c (.r 1 0), .c (.i .i64), .c (.i .i64)] [.x [.l false .byte, .i .i64], .x [.i .i64, .i .i64, .i .i64, .i .i64, .s]] d9_),
  (17,ct cod [2,4] [.c (.r 1 0), .c (.i .i64)] [.x [.l false .byte, .i .i64], .x [.i .i64, .i .i64, .i .i64, .i .i64, .s]] dN_),
  (18,ct cod [0,2,4,5,35] [.c (.r 0 0), .c (.r 1 0), .c (.i .i64), .c (.i .i64), .c (.i .i64)] [.x [.l false .byte, .i .i64], .x [.i .i64, .i .i64, .i .i64, .i .i64, .s]] gi_),
  (20,ct cod [2,4] [.c (.r 1 0), .c (.i .i64)] [.x [.l false .byte, .i .i64], .x [.i .i64, .i .i64, .i .i64, .i .i64, .s]] dH_),
  (21,ct cod [0,2,4,5,35] [.c (.r 0 0), .c (.r 1 0), .c (.i .i64), .c (.i .i64), .c (.i .i64)] [.x [.l false .byte, .i .i64], .x [.i .i64, .i .i64, .i .i64, .i .i64, .s]] eZ_)]
theorem o1_ (k:Nat):SummOk Tryz.prog cod 32 (ko_ k):=aF_ codOk Tryz.f32 (fun k=>av_ [(31,cf_ k),(73,gq_ k)]) qV_ false [.cell 2 35] 1 [false] aG_ Tryz.func32 (by kernel_rfl) (by kernel_rfl) (by kernel_rfl) (by kernel_rfl)
  (fun k=>Known.of tok eok codOk (all_cons (cv_ k) (all_cons (ii_ k) (ab_))))
  (fun k=>QuietOk.of (all_cons (fun h r=>by cases h) (all_cons (fun h r=>by cases h) (ab_))))
  (fun a=>rfl)
  (all_cons (ao_ codOk (by kernel_rfl) (by (repeat intro _);show _=_;kernel_rfl) (fun k=>by (repeat intro _);show _=_;kernel_rfl)) (all_cons (ao_ codOk (by kernel_rfl) (by (repeat intro _);show _=_;kernel_rfl) (fun k=>by (repeat intro _);show _=_;kernel_rfl)) (all_cons (ao_ codOk (by kernel_rfl) (by (repeat intro _);show _=_;kernel_rfl) (fun k=>by (repeat intro _);show _=_;kernel_rfl)) (all_cons (ao_ codOk (by kernel_rfl) (by (repeat intro _);show _=_;kernel_rfl) (fun k=>by (repeat intro _);show _=_;kernel_rfl)) (all_cons (ao_ codOk (by kernel_rfl) (by (repeat intro _);show _=_;kernel_rfl) (fun k=>by (repeat intro _);show _=_;kernel_rfl)) (ab_))))))
  (fun k=>by (repeat intro _);show _=_;kernel_rfl)
noncomputable def hZ_ (k:Nat):aY_ K TyK:=sm cod (List as_) [.pe] [.c (.l false .byte)] [] (fp_) k [.c (.o 0)] [.l .event] (fun r=>((),r,())) (fun v1=>v1) false
noncomputable abbrev mG_:List (Nat×Cut K TyK (List as_)):=[(5,ct cod [3,4,5,6] [.c (.r 0 0), .c (.o 1), .c (.i .i64), .c (.i .i64)] [.x [.l false .byte, .i .i64], .l .event] b4_),
  (10,ct cod [3,4,5,6,7] [.c (.r 0 0), .c (.o 1), .c (.i .i64), .c (.i .i64), .c (.i .i64)] [.x [.l false .byte, .i .i64], .l .event] bs_),
  (17,ct cod [3,4,5,6] [.c (.r 0 0), .c (.o 1), .c (.i .i64), .c (.i .i64)] [.x [.l false .byte, .i .i64], .l .event] cw_),
  (14,ct cod [3,4,5,6,7,8] [.c (.r 0 0), .c (.o 1), .c (.i .i64), .c (.i .i64), .c (.i .i64), .c (.i .i64)] [.x [.l false .byte, .i .i64], .l .event] bI_),
  (6,ct cod [3,4,5,6] [.c (.r 0 0), .c (.o 1), .c (.i .i64), .c (.i .i64)] [.x [.l false .byte, .i .i64], .l .event] bE_)]
theorem lI_ (k:Nat):SummOk Tryz.prog cod 9 (hZ_ k):=aF_ codOk Tryz.f9 (fun k=>av_ [(30,io_ k),(31,cf_ k),(32,ko_ k)]) mG_ false [.tmp 2] 0 [] aG_ Tryz.func9 (by kernel_rfl) (by kernel_rfl) (by kernel_rfl) (by kernel_rfl)
  (fun k=>Known.of tok eok codOk (all_cons (kz_ k) (all_cons (cv_ k) (all_cons (o1_ k) (ab_)))))
  (fun k=>QuietOk.of (all_cons (fun h r=>by cases h) (all_cons (fun h r=>by cases h) (all_cons (fun h r=>by cases h) (ab_)))))
  (fun a=>rfl)
  (all_cons (ao_ codOk (by kernel_rfl) (by (repeat intro _);show _=_;kernel_rfl) (fun k=>by (repeat intro _);show _=_;kernel_rfl)) (all_cons (ao_ codOk (by kernel_rfl) (by (repeat intro _);show _=_;kernel_rfl) (fun k=>by (repeat intro _);show _=_;kernel_rfl)) (all_cons (ao_ codOk (by kernel_rfl) (by (repeat intro _);show _=_;kernel_rfl) (fun k=>by (repeat intro _);show _=_;kernel_rfl)) (all_cons (ao_ codOk (by kernel_rfl) (by (repeat intro _);show _=_;kernel_rfl) (fun k=>by (repeat intro _);show _=_;kernel_rfl)) (all_cons (ao_ codOk (by kernel_rfl) (by (repeat intro _);show _=_;kernel_rfl) (fun k=>by (repeat intro _);show _=_;kernel_rfl)) (ab_))))))
  (fun k=>by (repeat intro _);show _=_;kernel_rfl)
noncomputable def lH_ (k:Nat):aY_ K TyK:=sm cod (Int) [.bo] [.c (.s)] [] (fT_) k [.c (.i .i64)] [] (fun r=>(r,())) (fun v1=>v1) true
noncomputable abbrev se_:List (Nat×Cut K TyK (Int)):=[(3,ct cod [0,3,4] [.c (.s), .c (.i .i64), .c (.i .i64)] [] dT_)]
theorem q5_ (k:Nat):SummOk Tryz.prog cod 77 (lH_ k):=aF_ codOk Tryz.f77 (fun k=>av_ []) se_ false [.tmp 2] 0 [] aG_ Tryz.func77 (by kernel_rfl) (by kernel_rfl) (by kernel_rfl) (by kernel_rfl)
  (fun k=>Known.of tok eok codOk (ab_))
  (fun k=>QuietOk.of (ab_))
  (fun a=>rfl)
  (all_cons (ao_ codOk (by kernel_rfl) (by (repeat intro _);show _=_;kernel_rfl) (fun k=>by (repeat intro _);show _=_;kernel_rfl)) (ab_))
  (fun k=>by (repeat intro _);show _=_;kernel_rfl)
noncomputable def k0_ (k:Nat):aY_ K TyK:=sm cod (Bool) [.bo] [.g [.i .i64, .i .i64, .i .i64, .i .i64, .i .i64, .i .i64, .i .i64, .b, .s]] [] (fun k v1 v2 v3 v4 v5 v6 v7 v8 v9=>ga_ k (⟨v1,v2,v3,v4,v5,v6,v7,v8,v9⟩:ae_)) k [.c (.b)] [] (fun r=>(r,())) (fun v1=>v1) true
theorem m9_ (k:Nat):SummOk Tryz.prog cod 118 (k0_ k):=aF_ codOk Tryz.f118 (fun k=>av_ [(28,bv_ k)]) [] false [.tmp 2] 0 [] aG_ Tryz.func118 (by kernel_rfl) (by kernel_rfl) (by kernel_rfl) (by kernel_rfl)
  (fun k=>Known.of tok eok codOk (all_cons (bj_ k) (ab_)))
  (fun k=>QuietOk.of (all_cons (fun h r=>⟨rfl,rfl⟩) (ab_)))
  (fun a=>rfl)
  (ab_)
  (fun k=>by (repeat intro _);show _=_;kernel_rfl)
noncomputable def ju_ (k:Nat):aY_ K TyK:=sm cod (ByteArray) [.bo, .bo] [.c (.i .i64), .c (.i .i64)] [] (bQ_) k [.c (.s)] [] (fun r=>(r,())) (fun v1=>v1) true
noncomputable abbrev qn_:List (Nat×Cut K TyK (ByteArray)):=[(3,ct cod [0,1,5,6] [.c (.i .i64), .c (.i .i64), .c (.s), .c (.i .i64)] [] cT_)]
theorem nR_ (k:Nat):SummOk Tryz.prog cod 153 (ju_ k):=aF_ codOk Tryz.f153 (fun k=>av_ []) qn_ false [.tmp 4] 0 [] aG_ Tryz.func153 (by kernel_rfl) (by kernel_rfl) (by kernel_rfl) (by kernel_rfl)
  (fun k=>Known.of tok eok codOk (ab_))
  (fun k=>QuietOk.of (ab_))
  (fun a=>rfl)
  (all_cons (ao_ codOk (by kernel_rfl) (by (repeat intro _);show _=_;kernel_rfl) (fun k=>by (repeat intro _);show _=_;kernel_rfl)) (ab_))
  (fun k=>by (repeat intro _);show _=_;kernel_rfl)
noncomputable def lX_ (k:Nat):aY_ K TyK:=sm cod (ByteArray) [.bo] [.g [.i .i64, .i .i64, .i .i64, .i .i64, .i .i64, .i .i64, .i .i64, .b, .s]] [] (fun k v1 v2 v3 v4 v5 v6 v7 v8 v9=>g6_ k (⟨v1,v2,v3,v4,v5,v6,v7,v8,v9⟩:ae_)) k [.c (.s)] [] (fun r=>(r,())) (fun v1=>v1) true
noncomputable abbrev s5_:List (Nat×Cut K TyK (ByteArray)):=[(7,ct cod [1,3,4] [.c (.r 0 0), .c (.s), .c (.i .i64)] [.x [.i .i64, .i .i64, .i .i64, .i .i64, .i .i64, .i .i64, .i .i64, .b, .s]] eQ_)]
theorem qU_ (k:Nat):SummOk Tryz.prog cod 120 (lX_ k):=aF_ codOk Tryz.f120 (fun k=>av_ [(153,ju_ k)]) s5_ false [.tmp 2] 0 [] aG_ Tryz.func120 (by kernel_rfl) (by kernel_rfl) (by kernel_rfl) (by kernel_rfl)
  (fun k=>Known.of tok eok codOk (all_cons (nR_ k) (ab_)))
  (fun k=>QuietOk.of (all_cons (fun h r=>⟨rfl,rfl⟩) (ab_)))
  (fun a=>rfl)
  (all_cons (ao_ codOk (by kernel_rfl) (by (repeat intro _);show _=_;kernel_rfl) (fun k=>by (repeat intro _);show _=_;kernel_rfl)) (ab_))
  (fun k=>by (repeat intro _);show _=_;kernel_rfl)
noncomputable def rJ_ (k:Nat):aY_ K TyK:=sm cod (ByteArray) [.bo, .bo, .bo] [.c (.s), .c (.s), .c (.i .i64)] [] (ok_) k [.c (.s)] [] (fun r=>(r,())) (fun v1=>v1) true
noncomputable abbrev yd_:List (Nat×Cut K TyK (ByteArray)):=[(6,ct cod [2,7,8,9] [.c (.i .i64), .c (.s), .c (.i .u64), .c (.i .i64)] [] fW_),
  (11,ct cod [2,8,10,11] [.c (.i .i64), .c (.i .u64), .c (.s), .c (.i .i64)] [] fi_)]
theorem vB_ (k:Nat):SummOk Tryz.prog cod 119 (rJ_ k):=aF_ codOk Tryz.f119 (fun k=>av_ [(28,bv_ k)]) yd_ false [.tmp 6] 0 [] aG_ Tryz.func119 (by kernel_rfl) (by kernel_rfl) (by kernel_rfl) (by kernel_rfl)
  (fun k=>Known.of tok eok codOk (all_cons (bj_ k) (ab_)))
  (fun k=>QuietOk.of (all_cons (fun h r=>⟨rfl,rfl⟩) (ab_)))
  (fun a=>rfl)
  (all_cons (ao_ codOk (by kernel_rfl) (by (repeat intro _);show _=_;kernel_rfl) (fun k=>by (repeat intro _);show _=_;kernel_rfl)) (all_cons (ao_ codOk (by kernel_rfl) (by (repeat intro _);show _=_;kernel_rfl) (fun k=>by (repeat intro _);show _=_;kernel_rfl)) (ab_)))
  (fun k=>by (repeat intro _);show _=_;kernel_rfl)
noncomputable def fI_ (k:Nat):aY_ K TyK:=sm cod (ByteArray) [.bo, .bo, .bo] [.g [.i .i64, .i .i64, .i .i64, .i .i64, .i .i64, .i .i64, .i .i64, .b, .s], .c (.s), .c (.i .i64)] [] (fun k v1 v2 v3 v4 v5 v6 v7 v8 v9 v10 v11=>da_ k (⟨v1,v2,v3,v4,v5,v6,v7,v8,v9⟩:ae_) v10 v11) k [.c (.s)] [] (fun r=>(r,())) (fun v1=>v1) true
theorem hD_ (k:Nat):SummOk Tryz.prog cod 78 (fI_ k):=aF_ codOk Tryz.f78 (fun k=>av_ [(118,k0_ k),(28,bv_ k),(120,lX_ k),(119,rJ_ k)]) [] false [.tmp 6] 0 [] aG_ Tryz.func78 (by kernel_rfl) (by kernel_rfl) (by kernel_rfl) (by kernel_rfl)
  (fun k=>Known.of tok eok codOk (all_cons (m9_ k) (all_cons (bj_ k) (all_cons (qU_ k) (all_cons (vB_ k) (ab_))))))
  (fun k=>QuietOk.of (all_cons (fun h r=>⟨rfl,rfl⟩) (all_cons (fun h r=>⟨rfl,rfl⟩) (all_cons (fun h r=>⟨rfl,rfl⟩) (all_cons (fun h r=>⟨rfl,rfl⟩) (ab_))))))
  (fun a=>rfl)
  (ab_)
  (fun k=>by (repeat intro _);show _=_;kernel_rfl)
noncomputable def fN_ (k:Nat):aY_ K TyK:=sm cod (ae_×Bool) [.bo, .bo, .bo] [.c (.s), .c (.s), .c (.i .i64)] [] (en_) k [.g [.i .i64, .i .i64, .i .i64, .i .i64, .i .i64, .i .i64, .i .i64, .b, .s], .c (.b)] [] (fun r=>(r.1.Kind,r.1.From,r.1.Mine,r.1.Yours,r.1.Next,r.1.Mask,r.1.Seq,r.1.Last,r.1.Part,r.2,())) (fun v1 v2 v3 v4 v5 v6 v7 v8 v9 v10=>((⟨v1,v2,v3,v4,v5,v6,v7,v8,v9⟩:ae_),v10)) true
noncomputable abbrev mr_:List (Nat×Cut K TyK (ae_×Bool)):=[(11,ct cod [0,1,2,6,9] [.c (.s), .c (.s), .c (.i .i64), .c (.r 0 0), .c (.r 1 0)] [.x [.i .i64, .i .i64, .i .i64, .i .i64, .i .i64, .i .i64, .i .i64, .b, .s], .x [.i .i64, .i .i64, .i .i64, .i .i64, .i .i64, .i .i64, .i .i64, .b, .s]] cD_)]
theorem hL_ (k:Nat):SummOk Tryz.prog cod 33 (fN_ k):=aF_ codOk Tryz.f33 (fun k=>av_ [(28,bv_ k),(77,lH_ k),(78,fI_ k)]) mr_ false [.cell 6 75, .tmp 7] 0 [] aG_ Tryz.func33 (by kernel_rfl) (by kernel_rfl) (by kernel_rfl) (by kernel_rfl)
  (fun k=>Known.of tok eok codOk (all_cons (bj_ k) (all_cons (q5_ k) (all_cons (hD_ k) (ab_)))))
  (fun k=>QuietOk.of (all_cons (fun h r=>⟨rfl,rfl⟩) (all_cons (fun h r=>⟨rfl,rfl⟩) (all_cons (fun h r=>⟨rfl,rfl⟩) (ab_)))))
  (fun a=>rfl)
  (all_cons (ao_ codOk (by kernel_rfl) (by (repeat intro _);show _=_;kernel_rfl) (fun k=>by (repeat intro _);show _=_;kernel_rfl)) (ab_))
  (fun k=>by (repeat intro _);show _=_;kernel_rfl)
noncomputable def iT_ (k:Nat):aY_ K TyK:=sm cod (Bool) [.bo, .bo] [.g [.s, .i .i64, .l true .end, .l true .parcel, .s, .l true .record, .l true .record], .g [.i .i64, .i .i64, .i .i64, .i .i64, .s]] [] (fun k v1 v2 v3 v4 v5 v6 v7 v8 v9 v10 v11 v12=>gw_ k (⟨v1,v2,v3,v4,v5,v6,v7⟩:ac_) (⟨v8,v9,v10,v11,v12⟩:as_)) k [.c (.b)] [] (fun r=>(r,())) (fun v1=>v1) true
theorem nJ_ (k:Nat):SummOk Tryz.prog cod 10 (iT_ k):=aF_ codOk Tryz.f10 (fun k=>av_ [(33,fN_ k)]) [] false [.tmp 4] 0 [] aG_ Tryz.func10 (by kernel_rfl) (by kernel_rfl) (by kernel_rfl) (by kernel_rfl)
  (fun k=>Known.of tok eok codOk (all_cons (hL_ k) (ab_)))
  (fun k=>QuietOk.of (all_cons (fun h r=>⟨rfl,rfl⟩) (ab_)))
  (fun a=>rfl)
  (ab_)
  (fun k=>by (repeat intro _);show _=_;kernel_rfl)
noncomputable def gd_ (k:Nat):aY_ K TyK:=sm cod (Bool) [.bo, .bo, .bo] [.c (.i .i64), .c (.i .i64), .c (.i .i64)] [] (aN_) k [.c (.b)] [] (fun r=>(r,())) (fun v1=>v1) true
theorem fJ_ (k:Nat):SummOk Tryz.prog cod 80 (gd_ k):=aF_ codOk Tryz.f80 (fun k=>av_ []) [] false [.tmp 6] 0 [] aG_ Tryz.func80 (by kernel_rfl) (by kernel_rfl) (by kernel_rfl) (by kernel_rfl)
  (fun k=>Known.of tok eok codOk (ab_))
  (fun k=>QuietOk.of (ab_))
  (fun a=>rfl)
  (ab_)
  (fun k=>by (repeat intro _);show _=_;kernel_rfl)
noncomputable def dM_ (k:Nat):aY_ K TyK:=sm cod (Bool) [.bo] [.g [.i .i64, .l true .item]] [] (fun k v1 v2=>bn_ k (⟨v1,v2⟩:aj_)) k [.c (.b)] [] (fun r=>(r,())) (fun v1=>v1) true
noncomputable abbrev nB_:List (Nat×Cut K TyK (Bool)):=[(4,ct cod [25,26,27] [.c (.l true .item), .c (.i .i64), .c (.i .i64)] [] bw_)]
theorem eG_ (k:Nat):SummOk Tryz.prog cod 121 (dM_ k):=aF_ codOk Tryz.f121 (fun k=>av_ [(80,gd_ k)]) nB_ false [.tmp 2] 0 [] aG_ Tryz.func121 (by kernel_rfl) (by kernel_rfl) (by kernel_rfl) (by kernel_rfl)
  (fun k=>Known.of tok eok codOk (all_cons (fJ_ k) (ab_)))
  (fun k=>QuietOk.of (all_cons (fun h r=>⟨rfl,rfl⟩) (ab_)))
  (fun a=>rfl)
  (all_cons (ao_ codOk (by kernel_rfl) (by (repeat intro _);show _=_;kernel_rfl) (fun k=>by (repeat intro _);show _=_;kernel_rfl)) (ab_))
  (fun k=>by (repeat intro _);show _=_;kernel_rfl)
noncomputable def kE_ (k:Nat):aY_ K TyK:=sm cod (Bool) [.bo, .bo] [.g [.i .i64, .l true .held, .s, .l true .str], .g [.s, .b]] [] (fun k v1 v2 v3 v4 v5 v6=>gQ_ k (⟨v1,v2,v3,v4⟩:ai_) (⟨v5,v6⟩:aA_)) k [.c (.b)] [] (fun r=>(r,())) (fun v1=>v1) true
theorem nn_ (k:Nat):SummOk Tryz.prog cod 154 (kE_ k):=aF_ codOk Tryz.f154 (fun k=>av_ []) [] false [.tmp 4] 0 [] aG_ Tryz.func154 (by kernel_rfl) (by kernel_rfl) (by kernel_rfl) (by kernel_rfl)
  (fun k=>Known.of tok eok codOk (ab_))
  (fun k=>QuietOk.of (ab_))
  (fun a=>rfl)
  (ab_)
  (fun k=>by (repeat intro _);show _=_;kernel_rfl)
noncomputable def dG_ (k:Nat):aY_ K TyK:=sm cod (Bool) [.bo] [.g [.i .i64, .l true .held, .s, .l true .str]] [] (fun k v1 v2 v3 v4=>bP_ k (⟨v1,v2,v3,v4⟩:ai_)) k [.c (.b)] [] (fun r=>(r,())) (fun v1=>v1) true
noncomputable abbrev nS_:List (Nat×Cut K TyK (Bool)):=[(4,ct cod [1,30,31,32] [.c (.r 0 0), .c (.l true .held), .c (.i .i64), .c (.i .i64)] [.x [.i .i64, .l true .held, .s, .l true .str]] aK_),
  (12,ct cod [88,89,90] [.c (.l true .str), .c (.i .i64), .c (.i .i64)] [] b2_)]
theorem er_ (k:Nat):SummOk Tryz.prog cod 122 (dG_ k):=aF_ codOk Tryz.f122 (fun k=>av_ [(80,gd_ k),(154,kE_ k)]) nS_ false [.tmp 2] 0 [] aG_ Tryz.func122 (by kernel_rfl) (by kernel_rfl) (by kernel_rfl) (by kernel_rfl)
  (fun k=>Known.of tok eok codOk (all_cons (fJ_ k) (all_cons (nn_ k) (ab_))))
  (fun k=>QuietOk.of (all_cons (fun h r=>⟨rfl,rfl⟩) (all_cons (fun h r=>⟨rfl,rfl⟩) (ab_))))
  (fun a=>rfl)
  (all_cons (ao_ codOk (by kernel_rfl) (by (repeat intro _);show _=_;kernel_rfl) (fun k=>by (repeat intro _);show _=_;kernel_rfl)) (all_cons (ao_ codOk (by kernel_rfl) (by (repeat intro _);show _=_;kernel_rfl) (fun k=>by (repeat intro _);show _=_;kernel_rfl)) (ab_)))
  (fun k=>by (repeat intro _);show _=_;kernel_rfl)
noncomputable def ls_ (k:Nat):aY_ K TyK:=sm cod (Bool) [.bo] [.g [.i .i64, .l true .item]] [] (fun k v1 v2=>im_ k (⟨v1,v2⟩:aj_)) k [.c (.b)] [] (fun r=>(r,())) (fun v1=>v1) true
theorem q8_ (k:Nat):SummOk Tryz.prog cod 123 (ls_ k):=aF_ codOk Tryz.f123 (fun k=>av_ []) [] false [.tmp 2] 0 [] aG_ Tryz.func123 (by kernel_rfl) (by kernel_rfl) (by kernel_rfl) (by kernel_rfl)
  (fun k=>Known.of tok eok codOk (ab_))
  (fun k=>QuietOk.of (ab_))
  (fun a=>rfl)
  (ab_)
  (fun k=>by (repeat intro _);show _=_;kernel_rfl)
noncomputable def ly_ (k:Nat):aY_ K TyK:=sm cod (Bool) [.bo] [.g [.i .i64, .l true .held, .s, .l true .str]] [] (fun k v1 v2 v3 v4=>it_ k (⟨v1,v2,v3,v4⟩:ai_)) k [.c (.b)] [] (fun r=>(r,())) (fun v1=>v1) true
theorem qL_ (k:Nat):SummOk Tryz.prog cod 124 (ly_ k):=aF_ codOk Tryz.f124 (fun k=>av_ []) [] false [.tmp 2] 0 [] aG_ Tryz.func124 (by kernel_rfl) (by kernel_rfl) (by kernel_rfl) (by kernel_rfl)
  (fun k=>Known.of tok eok codOk (ab_))
  (fun k=>QuietOk.of (ab_))
  (fun a=>rfl)
  (ab_)
  (fun k=>by (repeat intro _);show _=_;kernel_rfl)
noncomputable def bW_ (k:Nat):aY_ K TyK:=sm cod (Bool) [.bo] [.g [.i .i64, .b, .i .i64, .i .i64, .i .i64, .b, .i .i64, .l true .item, .i .i64, .l true .held, .s, .l true .str]] [] (fun k v1 v2 v3 v4 v5 v6 v7 v8 v9 v10 v11 v12=>bS_ k (⟨v1,v2,v3,v4,v5,v6,(⟨v7,v8⟩:aj_),(⟨v9,v10,v11,v12⟩:ai_)⟩:an_)) k [.c (.b)] [] (fun r=>(r,())) (fun v1=>v1) true
theorem ch_ (k:Nat):SummOk Tryz.prog cod 79 (bW_ k):=aF_ codOk Tryz.f79 (fun k=>av_ [(80,gd_ k),(121,dM_ k),(122,dG_ k),(123,ls_ k),(124,ly_ k)]) [] false [.tmp 2] 0 [] aG_ Tryz.func79 (by kernel_rfl) (by kernel_rfl) (by kernel_rfl) (by kernel_rfl)
  (fun k=>Known.of tok eok codOk (all_cons (fJ_ k) (all_cons (eG_ k) (all_cons (er_ k) (all_cons (q8_ k) (all_cons (qL_ k) (ab_)))))))
  (fun k=>QuietOk.of (all_cons (fun h r=>⟨rfl,rfl⟩) (all_cons (fun h r=>⟨rfl,rfl⟩) (all_cons (fun h r=>⟨rfl,rfl⟩) (all_cons (fun h r=>⟨rfl,rfl⟩) (all_cons (fun h r=>⟨rfl,rfl⟩) (ab_)))))))
  (fun a=>rfl)
  (ab_)
  (fun k=>by (repeat intro _);show _=_;kernel_rfl)
noncomputable def dj_ (k:Nat):aY_ K TyK:=sm cod (Bool) [.bo] [.g [.s, .i .i64, .l true .end, .l true .parcel, .s, .l true .record, .l true .record]] [] (fun k v1 v2 v3 v4 v5 v6 v7=>cx_ k (⟨v1,v2,v3,v4,v5,v6,v7⟩:ac_)) k [.c (.b)] [] (fun r=>(r,())) (fun v1=>v1) true
noncomputable abbrev mq_:List (Nat×Cut K TyK (Bool)):=[(4,ct cod [1,48,49,50] [.c (.r 0 0), .c (.l true .end), .c (.i .i64), .c (.i .i64)] [.x [.s, .i .i64, .l true .end, .l true .parcel, .s, .l true .record, .l true .record]] b5_),
  (10,ct cod [1,67,68,69] [.c (.r 0 0), .c (.l true .parcel), .c (.i .i64), .c (.i .i64)] [.x [.s, .i .i64, .l true .end, .l true .parcel, .s, .l true .record, .l true .record]] ba_),
  (16,ct cod [98,99,100] [.c (.o 0), .c (.i .i64), .c (.i .i64)] [.l .lrecord] a8_),
  (19,ct cod [98,99,100,104,105,106] [.c (.o 0), .c (.i .i64), .c (.i .i64), .c (.l true .record), .c (.i .i64), .c (.i .i64)] [.l .lrecord] a9_)]
theorem d3_ (k:Nat):SummOk Tryz.prog cod 34 (dj_ k):=aF_ codOk Tryz.f34 (fun k=>av_ [(79,bW_ k),(80,gd_ k)]) mq_ false [.tmp 2] 0 [] aG_ Tryz.func34 (by kernel_rfl) (by kernel_rfl) (by kernel_rfl) (by kernel_rfl)
  (fun k=>Known.of tok eok codOk (all_cons (ch_ k) (all_cons (fJ_ k) (ab_))))
  (fun k=>QuietOk.of (all_cons (fun h r=>⟨rfl,rfl⟩) (all_cons (fun h r=>⟨rfl,rfl⟩) (ab_))))
  (fun a=>rfl)
  (all_cons (ao_ codOk (by kernel_rfl) (by (repeat intro _);show _=_;kernel_rfl) (fun k=>by (repeat intro _);show _=_;kernel_rfl)) (all_cons (ao_ codOk (by kernel_rfl) (by (repeat intro _);show _=_;kernel_rfl) (fun k=>by (repeat intro _);show _=_;kernel_rfl)) (all_cons (ao_ codOk (by kernel_rfl) (by (repeat intro _);show _=_;kernel_rfl) (fun k=>by (repeat intro _);show _=_;kernel_rfl)) (all_cons (ao_ codOk (by kernel_rfl) (by (repeat intro _);show _=_;kernel_rfl) (fun k=>by (repeat intro _);show _=_;kernel_rfl)) (ab_)))))
  (fun k=>by (repeat intro _);show _=_;kernel_rfl)
noncomputable def ed_ (k:Nat):aY_ K TyK:=sm cod (aj_) [.bo] [.g [.i .i64, .l true .item]] [] (fun k v1 v2=>ey_ k (⟨v1,v2⟩:aj_)) k [.g [.i .i64, .o 0]] [.l .item] (fun r=>(r.Base,(),r.Items,())) (fun v1 v2=>(⟨v1,v2⟩:aj_)) false
theorem e0_ (k:Nat):SummOk Tryz.prog cod 125 (ed_ k):=aF_ codOk Tryz.f125 (fun k=>av_ []) [] false [.cell 2 59] 0 [] aG_ Tryz.func125 (by kernel_rfl) (by kernel_rfl) (by kernel_rfl) (by kernel_rfl)
  (fun k=>Known.of tok eok codOk (ab_))
  (fun k=>QuietOk.of (ab_))
  (fun a=>rfl)
  (ab_)
  (fun k=>by (repeat intro _);show _=_;kernel_rfl)
noncomputable def fv_ (k:Nat):aY_ K TyK:=sm cod (ai_) [.bo] [.g [.i .i64, .l true .held, .s, .l true .str]] [] (fun k v1 v2 v3 v4=>ft_ k (⟨v1,v2,v3,v4⟩:ai_)) k [.g [.i .i64, .o 0, .s, .o 1]] [.l .held, .l .str] (fun r=>(r.Next,(),r.Open,(),r.Held,r.Ready,())) (fun v1 v2 v3 v4=>(⟨v1,v3,v2,v4⟩:ai_)) false
theorem go_ (k:Nat):SummOk Tryz.prog cod 126 (fv_ k):=aF_ codOk Tryz.f126 (fun k=>av_ []) [] false [.cell 2 63] 0 [] aG_ Tryz.func126 (by kernel_rfl) (by kernel_rfl) (by kernel_rfl) (by kernel_rfl)
  (fun k=>Known.of tok eok codOk (ab_))
  (fun k=>QuietOk.of (ab_))
  (fun a=>rfl)
  (ab_)
  (fun k=>by (repeat intro _);show _=_;kernel_rfl)
noncomputable def c2_ (k:Nat):aY_ K TyK:=sm cod (an_) [.bo] [.g [.i .i64, .b, .i .i64, .i .i64, .i .i64, .b, .i .i64, .l true .item, .i .i64, .l true .held, .s, .l true .str]] [] (fun k v1 v2 v3 v4 v5 v6 v7 v8 v9 v10 v11 v12=>cW_ k (⟨v1,v2,v3,v4,v5,v6,(⟨v7,v8⟩:aj_),(⟨v9,v10,v11,v12⟩:ai_)⟩:an_)) k [.g [.i .i64, .b, .i .i64, .i .i64, .i .i64, .b, .i .i64, .o 0, .i .i64, .o 1, .s, .o 2]] [.l .item, .l .held, .l .str] (fun r=>(r.Number,r.Up,r.Life,r.Peer,r.Since,r.Owes,r.Send.Base,(),r.Take.Next,(),r.Take.Open,(),r.Send.Items,r.Take.Held,r.Take.Ready,())) (fun v1 v2 v3 v4 v5 v6 v7 v8 v9 v10 v11 v12=>(⟨v1,v2,v3,v4,v5,v6,(⟨v7,v10⟩:aj_),(⟨v8,v11,v9,v12⟩:ai_)⟩:an_)) false
theorem dm_ (k:Nat):SummOk Tryz.prog cod 81 (c2_ k):=aF_ codOk Tryz.f81 (fun k=>av_ [(125,ed_ k),(126,fv_ k)]) [] false [.cell 2 65] 0 [] aG_ Tryz.func81 (by kernel_rfl) (by kernel_rfl) (by kernel_rfl) (by kernel_rfl)
  (fun k=>Known.of tok eok codOk (all_cons (e0_ k) (all_cons (go_ k) (ab_))))
  (fun k=>QuietOk.of (all_cons (fun h r=>by cases h) (all_cons (fun h r=>by cases h) (ab_))))
  (fun a=>rfl)
  (ab_)
  (fun k=>by (repeat intro _);show _=_;kernel_rfl)
noncomputable def gl_ (k:Nat):aY_ K TyK:=sm cod (ac_) [.bo] [.g [.s, .i .i64, .l true .end, .l true .parcel, .s, .l true .record, .l true .record]] [] (fun k v1 v2 v3 v4 v5 v6 v7=>eN_ k (⟨v1,v2,v3,v4,v5,v6,v7⟩:ac_)) k [.g [.s, .i .i64, .o 0, .o 1, .s, .o 2, .o 3]] [.l .end, .l .parcel, .l .record, .l .record] (fun r=>(r.Key,r.Width,(),(),r.Forged,(),(),r.Ends,r.Flight,r.Given,r.Taken,())) (fun v1 v2 v3 v4 v5 v6 v7=>(⟨v1,v2,v4,v5,v3,v6,v7⟩:ac_)) false
noncomputable abbrev nG_:List (Nat×Cut K TyK (ac_)):=[(3,ct cod [1,2,10,11] [.c (.r 0 0), .c (.r 1 0), .c (.i .i64), .c (.i .i64)] [.x [.s, .i .i64, .o 2, .l true .parcel, .s, .l true .record, .l true .record], .x [.s, .i .i64, .o 3, .o 4, .s, .o 5, .o 6], .l .end, .l .end, .l .parcel, .l .record, .l .record] cs_)]
theorem h6_ (k:Nat):SummOk Tryz.prog cod 35 (gl_ k):=aF_ codOk Tryz.f35 (fun k=>av_ [(81,c2_ k)]) nG_ false [.cell 2 29] 0 [] aG_ Tryz.func35 (by kernel_rfl) (by kernel_rfl) (by kernel_rfl) (by kernel_rfl)
  (fun k=>Known.of tok eok codOk (all_cons (dm_ k) (ab_)))
  (fun k=>QuietOk.of (all_cons (fun h r=>by cases h) (ab_)))
  (fun a=>rfl)
  (all_cons (ao_ codOk (by kernel_rfl) (by (repeat intro _);show _=_;kernel_rfl) (fun k=>by (repeat intro _);show _=_;kernel_rfl)) (ab_))
  (fun k=>by (repeat intro _);show _=_;kernel_rfl)
noncomputable def jm_ (k:Nat):aY_ K TyK:=sm cod (aj_×List Int) [.bo] [.g [.i .i64, .l true .item]] [] (fun k v1 v2=>gu_ k (⟨v1,v2⟩:aj_)) k [.g [.i .i64, .o 0], .c (.o 1)] [.l .item, .l .int] (fun r=>(r.1.Base,(),(),r.1.Items,r.2,())) (fun v1 v2 v3=>((⟨v1,v2⟩:aj_),v3)) false
noncomputable abbrev p9_:List (Nat×Cut K TyK (aj_×List Int)):=[(6,ct cod [2,4,5,6] [.c (.r 0 0), .c (.r 1 0), .c (.o 2), .c (.i .i64)] [.x [.i .i64, .o 3], .x [.i .i64, .o 4], .l .int, .l .item, .l .item] cU_),
  (7,ct cod [2,4,5,6] [.c (.r 0 0), .c (.r 1 0), .c (.o 2), .c (.i .i64)] [.x [.i .i64, .o 3], .x [.i .i64, .o 4], .l .int, .l .item, .l .item] ce_)]
theorem nV_ (k:Nat):SummOk Tryz.prog cod 127 (jm_ k):=aF_ codOk Tryz.f127 (fun k=>av_ [(121,dM_ k),(125,ed_ k)]) p9_ false [.cell 2 59, .tmp 3] 0 [] aG_ Tryz.func127 (by kernel_rfl) (by kernel_rfl) (by kernel_rfl) (by kernel_rfl)
  (fun k=>Known.of tok eok codOk (all_cons (eG_ k) (all_cons (e0_ k) (ab_))))
  (fun k=>QuietOk.of (all_cons (fun h r=>⟨rfl,rfl⟩) (all_cons (fun h r=>by cases h) (ab_))))
  (fun a=>rfl)
  (all_cons (ao_ codOk (by kernel_rfl) (by (repeat intro _);show _=_;kernel_rfl) (fun k=>by (repeat intro _);show _=_;kernel_rfl)) (all_cons (ao_ codOk (by kernel_rfl) (by (repeat intro _);show _=_;kernel_rfl) (fun k=>by (repeat intro _);show _=_;kernel_rfl)) (ab_)))
  (fun k=>by (repeat intro _);show _=_;kernel_rfl)
noncomputable def jd_ (k:Nat):aY_ K TyK:=sm cod (Int×Int) [.bo] [.g [.i .i64, .l true .held, .s, .l true .str]] [] (fun k v1 v2 v3 v4=>ex_ k (⟨v1,v2,v3,v4⟩:ai_)) k [.c (.i .i64), .c (.i .i64)] [] (fun r=>(r.1,r.2,())) (fun v1 v2=>(v1,v2)) true
noncomputable abbrev qp_:List (Nat×Cut K TyK (Int×Int)):=[(5,ct cod [1,4,11,12,13] [.c (.r 0 0), .c (.i .i64), .c (.l true .held), .c (.i .i64), .c (.i .i64)] [.x [.i .i64, .l true .held, .s, .l true .str]] cN_)]
theorem nC_ (k:Nat):SummOk Tryz.prog cod 128 (jd_ k):=aF_ codOk Tryz.f128 (fun k=>av_ [(122,dG_ k)]) qp_ false [.tmp 2, .tmp 3] 0 [] aG_ Tryz.func128 (by kernel_rfl) (by kernel_rfl) (by kernel_rfl) (by kernel_rfl)
  (fun k=>Known.of tok eok codOk (all_cons (er_ k) (ab_)))
  (fun k=>QuietOk.of (all_cons (fun h r=>⟨rfl,rfl⟩) (ab_)))
  (fun a=>rfl)
  (all_cons (ao_ codOk (by kernel_rfl) (by (repeat intro _);show _=_;kernel_rfl) (fun k=>by (repeat intro _);show _=_;kernel_rfl)) (ab_))
  (fun k=>by (repeat intro _);show _=_;kernel_rfl)
noncomputable def kj_ (k:Nat):aY_ K TyK:=sm cod (ay_) [.bo] [.g [.i .i64, .b, .i .i64, .i .i64, .i .i64, .b, .i .i64, .l true .item, .i .i64, .l true .held, .s, .l true .str]] [] (fun k v1 v2 v3 v4 v5 v6 v7 v8 v9 v10 v11 v12=>ht_ k (⟨v1,v2,v3,v4,v5,v6,(⟨v7,v8⟩:aj_),(⟨v9,v10,v11,v12⟩:ai_)⟩:an_)) k [.g [.i .i64, .i .i64, .b, .i .i64, .i .i64, .i .i64, .b, .i .i64, .o 0, .i .i64, .o 1, .s, .o 2, .o 3, .s]] [.l .item, .l .held, .l .str, .l .packet] (fun r=>(r.Code,r.End.Number,r.End.Up,r.End.Life,r.End.Peer,r.End.Since,r.End.Owes,r.End.Send.Base,(),r.End.Take.Next,(),r.End.Take.Open,(),(),r.Text,r.End.Send.Items,r.End.Take.Held,r.End.Take.Ready,r.Out,())) (fun v1 v2 v3 v4 v5 v6 v7 v8 v9 v10 v11 v12 v13 v14 v15=>(⟨v1,(⟨v2,v3,v4,v5,v6,v7,(⟨v8,v12⟩:aj_),(⟨v9,v13,v10,v14⟩:ai_)⟩:an_),v15,v11⟩:ay_)) false
noncomputable abbrev qK_:List (Nat×Cut K TyK (ay_)):=[(9,ct cod [2,3,4] [.c (.r 0 0), .c (.r 1 0), .c (.r 1 1)] [.x [.i .i64, .i .i64, .b, .i .i64, .i .i64, .i .i64, .b, .i .i64, .o 2, .i .i64, .o 3, .s, .o 4, .o 5, .s], .x [.i .i64, .i .i64, .b, .i .i64, .i .i64, .i .i64, .b, .i .i64, .o 6, .i .i64, .o 7, .s, .o 8, .o 9, .s], .l .item, .l .held, .l .str, .l .packet, .l .item, .l .held, .l .str, .l .packet] ei_),
  (13,ct cod [2,3,4,53,54,55] [.c (.r 0 0), .c (.r 1 0), .c (.r 1 1), .c (.o 2), .c (.i .i64), .c (.i .i64)] [.x [.i .i64, .i .i64, .b, .i .i64, .i .i64, .i .i64, .b, .i .i64, .o 3, .i .i64, .o 4, .s, .o 5, .o 6, .s], .x [.i .i64, .i .i64, .b, .i .i64, .i .i64, .i .i64, .b, .i .i64, .o 7, .i .i64, .o 8, .s, .o 9, .o 10, .s], .l .int, .l .item, .l .held, .l .str, .l .packet, .l .item, .l .held, .l .str, .l .packet] cO_),
  (18,ct cod [2,3,4] [.c (.r 0 0), .c (.r 1 0), .c (.r 1 1)] [.x [.i .i64, .i .i64, .b, .i .i64, .i .i64, .i .i64, .b, .i .i64, .o 2, .i .i64, .o 3, .s, .o 4, .o 5, .s], .x [.i .i64, .i .i64, .b, .i .i64, .i .i64, .i .i64, .b, .i .i64, .o 6, .i .i64, .o 7, .s, .o 8, .o 9, .s], .l .item, .l .held, .l .str, .l .packet, .l .item, .l .held, .l .str, .l .packet] dF_),
  (22,ct cod [2,3] [.c (.r 0 0), .c (.r 1 0)] [.x [.i .i64, .i .i64, .b, .i .i64, .i .i64, .i .i64, .b, .i .i64, .o 2, .i .i64, .o 3, .s, .o 4, .o 5, .s], .x [.i .i64, .i .i64, .b, .i .i64, .i .i64, .i .i64, .b, .i .i64, .o 6, .i .i64, .o 7, .s, .o 8, .o 9, .s], .l .item, .l .held, .l .str, .l .packet, .l .item, .l .held, .l .str, .l .packet] cb_)]
theorem qg_ (k:Nat):SummOk Tryz.prog cod 82 (kj_ k):=aF_ codOk Tryz.f82 (fun k=>av_ [(79,bW_ k),(81,c2_ k),(127,jm_ k),(128,jd_ k)]) qK_ false [.cell 2 84] 0 [] aG_ Tryz.func82 (by kernel_rfl) (by kernel_rfl) (by kernel_rfl) (by kernel_rfl)
  (fun k=>Known.of tok eok codOk (all_cons (ch_ k) (all_cons (dm_ k) (all_cons (nV_ k) (all_cons (nC_ k) (ab_))))))
  (fun k=>QuietOk.of (all_cons (fun h r=>⟨rfl,rfl⟩) (all_cons (fun h r=>by cases h) (all_cons (fun h r=>by cases h) (all_cons (fun h r=>⟨rfl,rfl⟩) (ab_))))))
  (fun a=>rfl)
  (all_cons (ao_ codOk (by kernel_rfl) (by (repeat intro _);show _=_;kernel_rfl) (fun k=>by (repeat intro _);show _=_;kernel_rfl)) (all_cons (ao_ codOk (by kernel_rfl) (by (repeat intro _);show _=_;kernel_rfl) (fun k=>by (repeat intro _);show _=_;kernel_rfl)) (all_cons (ao_ codOk (by kernel_rfl) (by (repeat intro _);show _=_;kernel_rfl) (fun k=>by (repeat intro _);show _=_;kernel_rfl)) (all_cons (ao_ codOk (by kernel_rfl) (by (repeat intro _);show _=_;kernel_rfl) (fun k=>by (repeat intro _);show _=_;kernel_rfl)) (ab_)))))
  (fun k=>by (repeat intro _);show _=_;kernel_rfl)
noncomputable def d1_ (k:Nat):aY_ K TyK:=sm cod (Bool) [.bo] [.g [.i .i64, .i .i64, .i .i64, .i .i64, .i .i64, .i .i64, .i .i64, .b, .s]] [] (fun k v1 v2 v3 v4 v5 v6 v7 v8 v9=>bc_ k (⟨v1,v2,v3,v4,v5,v6,v7,v8,v9⟩:ae_)) k [.c (.b)] [] (fun r=>(r,())) (fun v1=>v1) true
theorem e9_ (k:Nat):SummOk Tryz.prog cod 129 (d1_ k):=aF_ codOk Tryz.f129 (fun k=>av_ [(80,gd_ k)]) [] false [.tmp 2] 0 [] aG_ Tryz.func129 (by kernel_rfl) (by kernel_rfl) (by kernel_rfl) (by kernel_rfl)
  (fun k=>Known.of tok eok codOk (all_cons (fJ_ k) (ab_)))
  (fun k=>QuietOk.of (all_cons (fun h r=>⟨rfl,rfl⟩) (ab_)))
  (fun a=>rfl)
  (ab_)
  (fun k=>by (repeat intro _);show _=_;kernel_rfl)
noncomputable def uW_ (k:Nat):aY_ K TyK:=sm cod (ByteArray) [.bo, .bo] [.c (.i .i64), .c (.i .i64)] [] (ha_) k [.c (.s)] [] (fun r=>(r,())) (fun v1=>v1) true
noncomputable abbrev zr_:List (Nat×Cut K TyK (ByteArray)):=[(3,ct cod [0,5,6] [.c (.i .i64), .c (.o 0), .c (.i .i64)] [.l .byte] gJ_)]
theorem y1_ (k:Nat):SummOk Tryz.prog cod 130 (uW_ k):=aF_ codOk Tryz.f130 (fun k=>av_ []) zr_ false [.tmp 4] 0 [] aG_ Tryz.func130 (by kernel_rfl) (by kernel_rfl) (by kernel_rfl) (by kernel_rfl)
  (fun k=>Known.of tok eok codOk (ab_))
  (fun k=>QuietOk.of (ab_))
  (fun a=>rfl)
  (all_cons (ao_ codOk (by kernel_rfl) (by (repeat intro _);show _=_;kernel_rfl) (fun k=>by (repeat intro _);show _=_;kernel_rfl)) (ab_))
  (fun k=>by (repeat intro _);show _=_;kernel_rfl)
noncomputable def rm_ (k:Nat):aY_ K TyK:=sm cod (ByteArray) [.bo, .bo, .bo] [.c (.s), .c (.s), .c (.i .i64)] [] (oj_) k [.c (.s)] [] (fun r=>(r,())) (fun v1=>v1) true
noncomputable abbrev yk_:List (Nat×Cut K TyK (ByteArray)):=[(6,ct cod [2,7,8,9] [.c (.i .i64), .c (.i .u64), .c (.s), .c (.i .i64)] [] fK_),
  (11,ct cod [2,7,10,11] [.c (.i .i64), .c (.i .u64), .c (.z 0 0), .c (.i .i64)] [.l .byte] fk_)]
theorem vt_ (k:Nat):SummOk Tryz.prog cod 131 (rm_ k):=aF_ codOk Tryz.f131 (fun k=>av_ []) yk_ false [.tmp 6] 0 [] aG_ Tryz.func131 (by kernel_rfl) (by kernel_rfl) (by kernel_rfl) (by kernel_rfl)
  (fun k=>Known.of tok eok codOk (ab_))
  (fun k=>QuietOk.of (ab_))
  (fun a=>rfl)
  (all_cons (ao_ codOk (by kernel_rfl) (by (repeat intro _);show _=_;kernel_rfl) (fun k=>by (repeat intro _);show _=_;kernel_rfl)) (all_cons (ao_ codOk (by kernel_rfl) (by (repeat intro _);show _=_;kernel_rfl) (fun k=>by (repeat intro _);show _=_;kernel_rfl)) (ab_)))
  (fun k=>by (repeat intro _);show _=_;kernel_rfl)
noncomputable def fR_ (k:Nat):aY_ K TyK:=sm cod (ByteArray) [.bo, .bo, .bo] [.g [.i .i64, .i .i64, .i .i64, .i .i64, .i .i64, .i .i64, .i .i64, .b, .s], .c (.s), .c (.i .i64)] [] (fun k v1 v2 v3 v4 v5 v6 v7 v8 v9 v10 v11=>di_ k (⟨v1,v2,v3,v4,v5,v6,v7,v8,v9⟩:ae_) v10 v11) k [.c (.s)] [] (fun r=>(r,())) (fun v1=>v1) true
noncomputable abbrev my_:List (Nat×Cut K TyK (ByteArray)):=[(10,ct cod [1,2,7] [.c (.s), .c (.i .i64), .c (.s)] [] cz_),
  (9,ct cod [1,2,3,7,8] [.c (.s), .c (.i .i64), .c (.r 0 0), .c (.s), .c (.i .i64)] [.x [.i .i64, .i .i64, .i .i64, .i .i64, .i .i64, .i .i64, .i .i64, .b, .s]] cY_)]
theorem hx_ (k:Nat):SummOk Tryz.prog cod 83 (fR_ k):=aF_ codOk Tryz.f83 (fun k=>av_ [(129,d1_ k),(130,uW_ k),(131,rm_ k)]) my_ false [.tmp 6] 0 [] aG_ Tryz.func83 (by kernel_rfl) (by kernel_rfl) (by kernel_rfl) (by kernel_rfl)
  (fun k=>Known.of tok eok codOk (all_cons (e9_ k) (all_cons (y1_ k) (all_cons (vt_ k) (ab_)))))
  (fun k=>QuietOk.of (all_cons (fun h r=>⟨rfl,rfl⟩) (all_cons (fun h r=>⟨rfl,rfl⟩) (all_cons (fun h r=>⟨rfl,rfl⟩) (ab_)))))
  (fun a=>rfl)
  (all_cons (ao_ codOk (by kernel_rfl) (by (repeat intro _);show _=_;kernel_rfl) (fun k=>by (repeat intro _);show _=_;kernel_rfl)) (all_cons (ao_ codOk (by kernel_rfl) (by (repeat intro _);show _=_;kernel_rfl) (fun k=>by (repeat intro _);show _=_;kernel_rfl)) (ab_)))
  (fun k=>by (repeat intro _);show _=_;kernel_rfl)
noncomputable def fY_ (k:Nat):aY_ K TyK:=sm cod (ac_) [.mv] [.c (.r 0 0)] [.x [.s, .i .i64, .o 1, .o 2, .s, .o 3, .o 4], .l .end, .l .parcel, .l .record, .l .record] (fun k v1 v2 v3 v4 v5 v6 v7=>ee_ k (⟨v1,v2,v4,v5,v3,v6,v7⟩:ac_)) k [] [.x [.s, .i .i64, .o 5, .o 6, .s, .o 7, .o 8], .d, .d, .d, .d, .l .end, .l .parcel, .l .record, .l .record] (fun r=>(r.Key,r.Width,(),(),r.Forged,(),(),r.Ends,r.Flight,r.Given,r.Taken,())) (fun v1 v2 v3 v4 v5 v6 v7=>(⟨v1,v2,v4,v5,v3,v6,v7⟩:ac_)) false
noncomputable abbrev mB_:List (Nat×Cut K TyK (ac_)):=[(1,ct cod [0,11,12] [.c (.r 0 0), .c (.i .i64), .c (.i .i64)] [.x [.s, .i .i64, .o 5, .o 6, .s, .o 7, .o 8], .d, .d, .d, .d, .l .end, .l .parcel, .l .record, .l .record] bl_),
  (6,ct cod [0,2,11,12,32,33,34] [.c (.r 0 0), .c (.i .i64), .c (.i .i64), .c (.i .i64), .c (.o 5), .c (.i .i64), .c (.i .i64)] [.x [.s, .i .i64, .o 6, .o 7, .s, .o 8, .o 9], .d, .d, .d, .d, .l .packet, .l .end, .l .parcel, .l .record, .l .record] b3_),
  (11,ct cod [0,2,11,12,32,33,34] [.c (.r 0 0), .c (.i .i64), .c (.i .i64), .c (.i .i64), .c (.o 5), .c (.i .i64), .c (.i .i64)] [.x [.s, .i .i64, .o 6, .o 7, .s, .o 8, .o 9], .d, .d, .d, .d, .l .packet, .l .end, .l .parcel, .l .record, .l .record] cB_)]
theorem hj_ (k:Nat):SummOk Tryz.prog cod 36 (fY_ k):=aF_ codOk Tryz.f36 (fun k=>av_ [(82,kj_ k),(83,fR_ k)]) mB_ false [] 5 [false,true,true,true,true] aG_ Tryz.func36 (by kernel_rfl) (by kernel_rfl) (by kernel_rfl) (by kernel_rfl)
  (fun k=>Known.of tok eok codOk (all_cons (qg_ k) (all_cons (hx_ k) (ab_))))
  (fun k=>QuietOk.of (all_cons (fun h r=>by cases h) (all_cons (fun h r=>⟨rfl,rfl⟩) (ab_))))
  (fun a=>rfl)
  (all_cons (ao_ codOk (by kernel_rfl) (by (repeat intro _);show _=_;kernel_rfl) (fun k=>by (repeat intro _);show _=_;kernel_rfl)) (all_cons (ao_ codOk (by kernel_rfl) (by (repeat intro _);show _=_;kernel_rfl) (fun k=>by (repeat intro _);show _=_;kernel_rfl)) (all_cons (ao_ codOk (by kernel_rfl) (by (repeat intro _);show _=_;kernel_rfl) (fun k=>by (repeat intro _);show _=_;kernel_rfl)) (ab_))))
  (fun k=>by (repeat intro _);show _=_;kernel_rfl)
noncomputable def rV_ (k:Nat):aY_ K TyK:=sm cod (Int) [.bo] [.c (.s)] [] (j0_) k [.c (.i .i64)] [] (fun r=>(r,())) (fun v1=>v1) true
noncomputable abbrev ye_:List (Nat×Cut K TyK (Int)):=[(3,ct cod [0,3,4] [.c (.s), .c (.i .i64), .c (.i .i64)] [] fZ_)]
theorem wj_ (k:Nat):SummOk Tryz.prog cod 132 (rV_ k):=aF_ codOk Tryz.f132 (fun k=>av_ []) ye_ false [.tmp 2] 0 [] aG_ Tryz.func132 (by kernel_rfl) (by kernel_rfl) (by kernel_rfl) (by kernel_rfl)
  (fun k=>Known.of tok eok codOk (ab_))
  (fun k=>QuietOk.of (ab_))
  (fun a=>rfl)
  (all_cons (ao_ codOk (by kernel_rfl) (by (repeat intro _);show _=_;kernel_rfl) (fun k=>by (repeat intro _);show _=_;kernel_rfl)) (ab_))
  (fun k=>by (repeat intro _);show _=_;kernel_rfl)
noncomputable def ia_ (k:Nat):aY_ K TyK:=sm cod (ae_×Bool) [.bo, .bo, .bo] [.c (.s), .c (.s), .c (.i .i64)] [] (fu_) k [.g [.i .i64, .i .i64, .i .i64, .i .i64, .i .i64, .i .i64, .i .i64, .b, .s], .c (.b)] [] (fun r=>(r.1.Kind,r.1.From,r.1.Mine,r.1.Yours,r.1.Next,r.1.Mask,r.1.Seq,r.1.Last,r.1.Part,r.2,())) (fun v1 v2 v3 v4 v5 v6 v7 v8 v9 v10=>((⟨v1,v2,v3,v4,v5,v6,v7,v8,v9⟩:ae_),v10)) true
noncomputable abbrev mM_:List (Nat×Cut K TyK (ae_×Bool)):=[(10,ct cod [0,1,2,6,9] [.c (.s), .c (.s), .c (.i .i64), .c (.r 0 0), .c (.r 1 0)] [.x [.i .i64, .i .i64, .i .i64, .i .i64, .i .i64, .i .i64, .i .i64, .b, .s], .x [.i .i64, .i .i64, .i .i64, .i .i64, .i .i64, .i .i64, .i .i64, .b, .s]] bu_)]
theorem lz_ (k:Nat):SummOk Tryz.prog cod 84 (ia_ k):=aF_ codOk Tryz.f84 (fun k=>av_ [(132,rV_ k),(129,d1_ k),(83,fR_ k)]) mM_ false [.cell 6 75, .tmp 7] 0 [] aG_ Tryz.func84 (by kernel_rfl) (by kernel_rfl) (by kernel_rfl) (by kernel_rfl)
  (fun k=>Known.of tok eok codOk (all_cons (wj_ k) (all_cons (e9_ k) (all_cons (hx_ k) (ab_)))))
  (fun k=>QuietOk.of (all_cons (fun h r=>⟨rfl,rfl⟩) (all_cons (fun h r=>⟨rfl,rfl⟩) (all_cons (fun h r=>⟨rfl,rfl⟩) (ab_)))))
  (fun a=>rfl)
  (all_cons (ao_ codOk (by kernel_rfl) (by (repeat intro _);show _=_;kernel_rfl) (fun k=>by (repeat intro _);show _=_;kernel_rfl)) (ab_))
  (fun k=>by (repeat intro _);show _=_;kernel_rfl)
noncomputable def jG_ (k:Nat):aY_ K TyK:=sm cod (aj_) [.bo, .bo, .bo] [.g [.i .i64, .l true .item], .c (.i .i64), .c (.i .i64)] [] (fun k v1 v2 v3 v4=>gG_ k (⟨v1,v2⟩:aj_) v3 v4) k [.g [.i .i64, .o 0]] [.l .item] (fun r=>(r.Base,(),r.Items,())) (fun v1 v2=>(⟨v1,v2⟩:aj_)) false
noncomputable abbrev o6_:List (Nat×Cut K TyK (aj_)):=[(5,ct cod [1,2,6,7,8] [.c (.i .i64), .c (.i .i64), .c (.r 0 0), .c (.r 1 0), .c (.i .i64)] [.x [.i .i64, .o 2], .x [.i .i64, .o 3], .l .item, .l .item] cS_),
  (12,ct cod [2,6,7,9] [.c (.i .i64), .c (.r 0 0), .c (.r 1 0), .c (.i .i64)] [.x [.i .i64, .o 2], .x [.i .i64, .o 3], .l .item, .l .item] by_),
  (13,ct cod [2,6,7,9] [.c (.i .i64), .c (.r 0 0), .c (.r 1 0), .c (.i .i64)] [.x [.i .i64, .o 2], .x [.i .i64, .o 3], .l .item, .l .item] ct_)]
theorem n1_ (k:Nat):SummOk Tryz.prog cod 133 (jG_ k):=aF_ codOk Tryz.f133 (fun k=>av_ [(121,dM_ k),(125,ed_ k),(80,gd_ k)]) o6_ false [.cell 6 59] 0 [] aG_ Tryz.func133 (by kernel_rfl) (by kernel_rfl) (by kernel_rfl) (by kernel_rfl)
  (fun k=>Known.of tok eok codOk (all_cons (eG_ k) (all_cons (e0_ k) (all_cons (fJ_ k) (ab_)))))
  (fun k=>QuietOk.of (all_cons (fun h r=>⟨rfl,rfl⟩) (all_cons (fun h r=>by cases h) (all_cons (fun h r=>⟨rfl,rfl⟩) (ab_)))))
  (fun a=>rfl)
  (all_cons (ao_ codOk (by kernel_rfl) (by (repeat intro _);show _=_;kernel_rfl) (fun k=>by (repeat intro _);show _=_;kernel_rfl)) (all_cons (ao_ codOk (by kernel_rfl) (by (repeat intro _);show _=_;kernel_rfl) (fun k=>by (repeat intro _);show _=_;kernel_rfl)) (all_cons (ao_ codOk (by kernel_rfl) (by (repeat intro _);show _=_;kernel_rfl) (fun k=>by (repeat intro _);show _=_;kernel_rfl)) (ab_))))
  (fun k=>by (repeat intro _);show _=_;kernel_rfl)
noncomputable def k8_ (k:Nat):aY_ K TyK:=sm cod (ai_) [.mv] [.g [.i .i64, .o 0, .s, .o 1]] [.l .held, .l .str] (fun k v1 v2 v3 v4=>fw_ k (⟨v1,v3,v2,v4⟩:ai_)) k [.g [.i .i64, .o 2, .s, .o 3]] [.d, .d, .l .held, .l .str] (fun r=>(r.Next,(),r.Open,(),r.Held,r.Ready,())) (fun v1 v2 v3 v4=>(⟨v1,v3,v2,v4⟩:ai_)) false
noncomputable abbrev wv_:List (Nat×Cut K TyK (ai_)):=[(1,ct cod [1,2] [.c (.r 2 0), .c (.r 3 0)] [.d, .d, .x [.i .i64, .o 4, .s, .o 5], .x [.i .i64, .o 6, .s, .o 7], .l .held, .l .str, .l .held, .l .str] fh_)]
theorem mS_ (k:Nat):SummOk Tryz.prog cod 155 (k8_ k):=aF_ codOk Tryz.f155 (fun k=>av_ [(154,kE_ k)]) wv_ false [.cell 2 63] 2 [true,true] aG_ Tryz.func155 (by kernel_rfl) (by kernel_rfl) (by kernel_rfl) (by kernel_rfl)
  (fun k=>Known.of tok eok codOk (all_cons (nn_ k) (ab_)))
  (fun k=>QuietOk.of (all_cons (fun h r=>⟨rfl,rfl⟩) (ab_)))
  (fun a=>rfl)
  (all_cons (ao_ codOk (by kernel_rfl) (by (repeat intro _);show _=_;kernel_rfl) (fun k=>by (repeat intro _);show _=_;kernel_rfl)) (ab_))
  (fun k=>by (repeat intro _);show _=_;kernel_rfl)
noncomputable def jf_ (k:Nat):aY_ K TyK:=sm cod (ai_) [.bo, .bo, .bo] [.g [.i .i64, .l true .held, .s, .l true .str], .c (.i .i64), .g [.s, .b]] [] (fun k v1 v2 v3 v4 v5 v6 v7=>gF_ k (⟨v1,v2,v3,v4⟩:ai_) v5 (⟨v6,v7⟩:aA_)) k [.g [.i .i64, .o 0, .s, .o 1]] [.l .held, .l .str] (fun r=>(r.Next,(),r.Open,(),r.Held,r.Ready,())) (fun v1 v2 v3 v4=>(⟨v1,v3,v2,v4⟩:ai_)) false
noncomputable abbrev pF_:List (Nat×Cut K TyK (ai_)):=[(7,ct cod [1,5,6,7,8] [.c (.i .i64), .c (.r 0 0), .c (.r 1 0), .c (.r 2 0), .c (.i .i64)] [.x [.s, .b], .x [.i .i64, .o 3, .s, .o 4], .x [.i .i64, .o 5, .s, .o 6], .l .held, .l .str, .l .held, .l .str] cK_)]
theorem nZ_ (k:Nat):SummOk Tryz.prog cod 134 (jf_ k):=aF_ codOk Tryz.f134 (fun k=>av_ [(122,dG_ k),(126,fv_ k),(80,gd_ k),(155,k8_ k)]) pF_ false [.cell 6 63] 0 [] aG_ Tryz.func134 (by kernel_rfl) (by kernel_rfl) (by kernel_rfl) (by kernel_rfl)
  (fun k=>Known.of tok eok codOk (all_cons (er_ k) (all_cons (go_ k) (all_cons (fJ_ k) (all_cons (mS_ k) (ab_))))))
  (fun k=>QuietOk.of (all_cons (fun h r=>⟨rfl,rfl⟩) (all_cons (fun h r=>by cases h) (all_cons (fun h r=>⟨rfl,rfl⟩) (all_cons (fun h r=>by cases h) (ab_))))))
  (fun a=>rfl)
  (all_cons (ao_ codOk (by kernel_rfl) (by (repeat intro _);show _=_;kernel_rfl) (fun k=>by (repeat intro _);show _=_;kernel_rfl)) (ab_))
  (fun k=>by (repeat intro _);show _=_;kernel_rfl)
noncomputable def kf_ (k:Nat):aY_ K TyK:=sm cod (ay_) [.bo, .bo] [.g [.i .i64, .b, .i .i64, .i .i64, .i .i64, .b, .i .i64, .l true .item, .i .i64, .l true .held, .s, .l true .str], .g [.i .i64, .i .i64, .i .i64, .i .i64, .i .i64, .i .i64, .i .i64, .b, .s]] [] (fun k v1 v2 v3 v4 v5 v6 v7 v8 v9 v10 v11 v12 v13 v14 v15 v16 v17 v18 v19 v20 v21=>hs_ k (⟨v1,v2,v3,v4,v5,v6,(⟨v7,v8⟩:aj_),(⟨v9,v10,v11,v12⟩:ai_)⟩:an_) (⟨v13,v14,v15,v16,v17,v18,v19,v20,v21⟩:ae_)) k [.g [.i .i64, .i .i64, .b, .i .i64, .i .i64, .i .i64, .b, .i .i64, .o 0, .i .i64, .o 1, .s, .o 2, .o 3, .s]] [.l .item, .l .held, .l .str, .l .packet] (fun r=>(r.Code,r.End.Number,r.End.Up,r.End.Life,r.End.Peer,r.End.Since,r.End.Owes,r.End.Send.Base,(),r.End.Take.Next,(),r.End.Take.Open,(),(),r.Text,r.End.Send.Items,r.End.Take.Held,r.End.Take.Ready,r.Out,())) (fun v1 v2 v3 v4 v5 v6 v7 v8 v9 v10 v11 v12 v13 v14 v15=>(⟨v1,(⟨v2,v3,v4,v5,v6,v7,(⟨v8,v12⟩:aj_),(⟨v9,v13,v10,v14⟩:ai_)⟩:an_),v15,v11⟩:ay_)) false
noncomputable abbrev qJ_:List (Nat×Cut K TyK (ay_)):=[(9,ct cod [3,4,5,6] [.c (.r 0 0), .c (.r 1 0), .c (.r 2 0), .c (.r 2 1)] [.x [.i .i64, .i .i64, .i .i64, .i .i64, .i .i64, .i .i64, .i .i64, .b, .s], .x [.i .i64, .i .i64, .b, .i .i64, .i .i64, .i .i64, .b, .i .i64, .o 3, .i .i64, .o 4, .s, .o 5, .o 6, .s], .x [.i .i64, .i .i64, .b, .i .i64, .i .i64, .i .i64, .b, .i .i64, .o 7, .i .i64, .o 8, .s, .o 9, .o 10, .s], .l .item, .l .held, .l .str, .l .packet, .l .item, .l .held, .l .str, .l .packet] ef_),
  (16,ct cod [4,5] [.c (.r 0 0), .c (.r 1 0)] [.x [.i .i64, .i .i64, .b, .i .i64, .i .i64, .i .i64, .b, .i .i64, .o 2, .i .i64, .o 3, .s, .o 4, .o 5, .s], .x [.i .i64, .i .i64, .b, .i .i64, .i .i64, .i .i64, .b, .i .i64, .o 6, .i .i64, .o 7, .s, .o 8, .o 9, .s], .l .item, .l .held, .l .str, .l .packet, .l .item, .l .held, .l .str, .l .packet] dO_)]
theorem pa_ (k:Nat):SummOk Tryz.prog cod 85 (kf_ k):=aF_ codOk Tryz.f85 (fun k=>av_ [(79,bW_ k),(81,c2_ k),(129,d1_ k),(133,jG_ k),(134,jf_ k)]) qJ_ false [.cell 4 84] 0 [] aG_ Tryz.func85 (by kernel_rfl) (by kernel_rfl) (by kernel_rfl) (by kernel_rfl)
  (fun k=>Known.of tok eok codOk (all_cons (ch_ k) (all_cons (dm_ k) (all_cons (e9_ k) (all_cons (n1_ k) (all_cons (nZ_ k) (ab_)))))))
  (fun k=>QuietOk.of (all_cons (fun h r=>⟨rfl,rfl⟩) (all_cons (fun h r=>by cases h) (all_cons (fun h r=>⟨rfl,rfl⟩) (all_cons (fun h r=>by cases h) (all_cons (fun h r=>by cases h) (ab_)))))))
  (fun a=>rfl)
  (all_cons (ao_ codOk (by kernel_rfl) (by (repeat intro _);show _=_;kernel_rfl) (fun k=>by (repeat intro _);show _=_;kernel_rfl)) (all_cons (ao_ codOk (by kernel_rfl) (by (repeat intro _);show _=_;kernel_rfl) (fun k=>by (repeat intro _);show _=_;kernel_rfl)) (ab_)))
  (fun k=>by (repeat intro _);show _=_;kernel_rfl)
noncomputable def fs_ (k:Nat):aY_ K TyK:=sm cod (ac_) [.mv, .mv] [.c (.r 0 0), .g [.i .i64, .s, .s]] [.x [.s, .i .i64, .o 1, .o 2, .s, .o 3, .o 4], .l .end, .l .parcel, .l .record, .l .record] (fun k v1 v2 v3 v4 v5 v6 v7 v8 v9 v10=>cJ_ k (⟨v4,v5,v7,v8,v6,v9,v10⟩:ac_) (⟨v1,v2,v3⟩:ad_)) k [] [.x [.s, .i .i64, .o 5, .o 6, .s, .o 7, .o 8], .d, .d, .d, .d, .l .end, .l .parcel, .l .record, .l .record] (fun r=>(r.Key,r.Width,(),(),r.Forged,(),(),r.Ends,r.Flight,r.Given,r.Taken,())) (fun v1 v2 v3 v4 v5 v6 v7=>(⟨v1,v2,v4,v5,v3,v6,v7⟩:ac_)) false
noncomputable abbrev lE_:List (Nat×Cut K TyK (ac_)):=[(5,ct cod [0,3,4] [.c (.r 0 0), .c (.r 5 0), .c (.r 6 0)] [.x [.s, .i .i64, .o 7, .o 8, .s, .o 9, .o 10], .d, .d, .d, .d, .x [.i .i64, .s, .s], .x [.i .i64, .i .i64, .i .i64, .i .i64, .i .i64, .i .i64, .i .i64, .b, .s], .l .end, .l .parcel, .l .record, .l .record] bL_)]
theorem g1_ (k:Nat):SummOk Tryz.prog cod 37 (fs_ k):=aF_ codOk Tryz.f37 (fun k=>av_ [(84,ia_ k),(85,kf_ k)]) lE_ false [] 5 [false,true,true,true,true] aG_ Tryz.func37 (by kernel_rfl) (by kernel_rfl) (by kernel_rfl) (by kernel_rfl)
  (fun k=>Known.of tok eok codOk (all_cons (lz_ k) (all_cons (pa_ k) (ab_))))
  (fun k=>QuietOk.of (all_cons (fun h r=>⟨rfl,rfl⟩) (all_cons (fun h r=>by cases h) (ab_))))
  (fun a=>rfl)
  (all_cons (ao_ codOk (by kernel_rfl) (by (repeat intro _);show _=_;kernel_rfl) (fun k=>by (repeat intro _);show _=_;kernel_rfl)) (ab_))
  (fun k=>by (repeat intro _);show _=_;kernel_rfl)
noncomputable def ku_ (k:Nat):aY_ K TyK:=sm cod (an_) [.bo] [.g [.i .i64, .b, .i .i64, .i .i64, .i .i64, .b, .i .i64, .l true .item, .i .i64, .l true .held, .s, .l true .str]] [] (fun k v1 v2 v3 v4 v5 v6 v7 v8 v9 v10 v11 v12=>hN_ k (⟨v1,v2,v3,v4,v5,v6,(⟨v7,v8⟩:aj_),(⟨v9,v10,v11,v12⟩:ai_)⟩:an_)) k [.g [.i .i64, .b, .i .i64, .i .i64, .i .i64, .b, .i .i64, .o 0, .i .i64, .o 1, .s, .o 2]] [.l .item, .l .held, .l .str] (fun r=>(r.Number,r.Up,r.Life,r.Peer,r.Since,r.Owes,r.Send.Base,(),r.Take.Next,(),r.Take.Open,(),r.Send.Items,r.Take.Held,r.Take.Ready,())) (fun v1 v2 v3 v4 v5 v6 v7 v8 v9 v10 v11 v12=>(⟨v1,v2,v3,v4,v5,v6,(⟨v7,v10⟩:aj_),(⟨v8,v11,v9,v12⟩:ai_)⟩:an_)) false
theorem pl_ (k:Nat):SummOk Tryz.prog cod 38 (ku_ k):=aF_ codOk Tryz.f38 (fun k=>av_ [(79,bW_ k)]) [] false [.cell 2 65] 0 [] aG_ Tryz.func38 (by kernel_rfl) (by kernel_rfl) (by kernel_rfl) (by kernel_rfl)
  (fun k=>Known.of tok eok codOk (all_cons (ch_ k) (ab_)))
  (fun k=>QuietOk.of (all_cons (fun h r=>⟨rfl,rfl⟩) (ab_)))
  (fun a=>rfl)
  (ab_)
  (fun k=>by (repeat intro _);show _=_;kernel_rfl)
noncomputable def km_ (k:Nat):aY_ K TyK:=sm cod (an_) [.bo] [.g [.i .i64, .b, .i .i64, .i .i64, .i .i64, .b, .i .i64, .l true .item, .i .i64, .l true .held, .s, .l true .str]] [] (fun k v1 v2 v3 v4 v5 v6 v7 v8 v9 v10 v11 v12=>hF_ k (⟨v1,v2,v3,v4,v5,v6,(⟨v7,v8⟩:aj_),(⟨v9,v10,v11,v12⟩:ai_)⟩:an_)) k [.g [.i .i64, .b, .i .i64, .i .i64, .i .i64, .b, .i .i64, .o 0, .i .i64, .o 1, .s, .o 2]] [.l .item, .l .held, .l .str] (fun r=>(r.Number,r.Up,r.Life,r.Peer,r.Since,r.Owes,r.Send.Base,(),r.Take.Next,(),r.Take.Open,(),r.Send.Items,r.Take.Held,r.Take.Ready,())) (fun v1 v2 v3 v4 v5 v6 v7 v8 v9 v10 v11 v12=>(⟨v1,v2,v3,v4,v5,v6,(⟨v7,v10⟩:aj_),(⟨v8,v11,v9,v12⟩:ai_)⟩:an_)) false
theorem pH_ (k:Nat):SummOk Tryz.prog cod 39 (km_ k):=aF_ codOk Tryz.f39 (fun k=>av_ [(79,bW_ k),(81,c2_ k)]) [] false [.cell 2 65] 0 [] aG_ Tryz.func39 (by kernel_rfl) (by kernel_rfl) (by kernel_rfl) (by kernel_rfl)
  (fun k=>Known.of tok eok codOk (all_cons (ch_ k) (all_cons (dm_ k) (ab_))))
  (fun k=>QuietOk.of (all_cons (fun h r=>⟨rfl,rfl⟩) (all_cons (fun h r=>by cases h) (ab_))))
  (fun a=>rfl)
  (ab_)
  (fun k=>by (repeat intro _);show _=_;kernel_rfl)
noncomputable def fO_ (k:Nat):aY_ K TyK:=sm cod (Bool×ac_) [.mv] [.c (.r 0 0)] [.x [.s, .i .i64, .o 1, .o 2, .s, .o 3, .o 4], .l .end, .l .parcel, .l .record, .l .record] (fun k v1 v2 v3 v4 v5 v6 v7=>d6_ k (⟨v1,v2,v4,v5,v3,v6,v7⟩:ac_)) k [.c (.b)] [.x [.s, .i .i64, .o 5, .o 6, .s, .o 7, .o 8], .d, .d, .d, .d, .l .end, .l .parcel, .l .record, .l .record] (fun r=>(r.1,r.2.Key,r.2.Width,(),(),r.2.Forged,(),(),r.2.Ends,r.2.Flight,r.2.Given,r.2.Taken,())) (fun v1 v2 v3 v4 v5 v6 v7 v8=>(v1,(⟨v2,v3,v5,v6,v4,v7,v8⟩:ac_))) false
theorem hu_ (k:Nat):SummOk Tryz.prog cod 40 (fO_ k):=aF_ codOk Tryz.f40 (fun k=>av_ []) [] false [.tmp 2] 5 [false,true,true,true,true] aG_ Tryz.func40 (by kernel_rfl) (by kernel_rfl) (by kernel_rfl) (by kernel_rfl)
  (fun k=>Known.of tok eok codOk (ab_))
  (fun k=>QuietOk.of (ab_))
  (fun a=>rfl)
  (ab_)
  (fun k=>by (repeat intro _);show _=_;kernel_rfl)
noncomputable def ru_ (k:Nat):aY_ K TyK:=sm cod (List aA_) [.bo] [.c (.s)] [] (lQ_) k [.c (.o 0)] [.l .part] (fun r=>((),r,())) (fun v1=>v1) false
noncomputable abbrev xP_:List (Nat×Cut K TyK (List aA_)):=[(4,ct cod [0,3] [.c (.s), .c (.o 0)] [.l .part] gP_)]
theorem vw_ (k:Nat):SummOk Tryz.prog cod 135 (ru_ k):=aF_ codOk Tryz.f135 (fun k=>av_ []) xP_ false [.tmp 2] 0 [] aG_ Tryz.func135 (by kernel_rfl) (by kernel_rfl) (by kernel_rfl) (by kernel_rfl)
  (fun k=>Known.of tok eok codOk (ab_))
  (fun k=>QuietOk.of (ab_))
  (fun a=>rfl)
  (all_cons (ao_ codOk (by kernel_rfl) (by (repeat intro _);show _=_;kernel_rfl) (fun k=>by (repeat intro _);show _=_;kernel_rfl)) (ab_))
  (fun k=>by (repeat intro _);show _=_;kernel_rfl)
noncomputable def i4_ (k:Nat):aY_ K TyK:=sm cod (aj_×Int) [.bo, .bo] [.g [.i .i64, .l true .item], .c (.s)] [] (fun k v1 v2 v3=>gA_ k (⟨v1,v2⟩:aj_) v3) k [.g [.i .i64, .o 0], .c (.i .i64)] [.l .item] (fun r=>(r.1.Base,(),r.2,r.1.Items,())) (fun v1 v2 v3=>((⟨v1,v3⟩:aj_),v2)) false
noncomputable abbrev qj_:List (Nat×Cut K TyK (aj_×Int)):=[(9,ct cod [4,8,40,41,42] [.c (.r 0 0), .c (.r 1 0), .c (.o 2), .c (.i .i64), .c (.i .i64)] [.x [.i .i64, .o 3], .x [.i .i64, .o 4], .l .part, .l .item, .l .item] cL_)]
theorem nP_ (k:Nat):SummOk Tryz.prog cod 86 (i4_ k):=aF_ codOk Tryz.f86 (fun k=>av_ [(121,dM_ k),(135,ru_ k),(125,ed_ k)]) qj_ false [.cell 4 59, .tmp 5] 0 [] aG_ Tryz.func86 (by kernel_rfl) (by kernel_rfl) (by kernel_rfl) (by kernel_rfl)
  (fun k=>Known.of tok eok codOk (all_cons (eG_ k) (all_cons (vw_ k) (all_cons (e0_ k) (ab_)))))
  (fun k=>QuietOk.of (all_cons (fun h r=>⟨rfl,rfl⟩) (all_cons (fun h r=>by cases h) (all_cons (fun h r=>by cases h) (ab_)))))
  (fun a=>rfl)
  (all_cons (ao_ codOk (by kernel_rfl) (by (repeat intro _);show _=_;kernel_rfl) (fun k=>by (repeat intro _);show _=_;kernel_rfl)) (ab_))
  (fun k=>by (repeat intro _);show _=_;kernel_rfl)
noncomputable def ks_ (k:Nat):aY_ K TyK:=sm cod (ay_) [.bo, .bo] [.g [.i .i64, .b, .i .i64, .i .i64, .i .i64, .b, .i .i64, .l true .item, .i .i64, .l true .held, .s, .l true .str], .c (.s)] [] (fun k v1 v2 v3 v4 v5 v6 v7 v8 v9 v10 v11 v12 v13=>f9_ k (⟨v1,v2,v3,v4,v5,v6,(⟨v7,v8⟩:aj_),(⟨v9,v10,v11,v12⟩:ai_)⟩:an_) v13) k [.g [.i .i64, .i .i64, .b, .i .i64, .i .i64, .i .i64, .b, .i .i64, .o 0, .i .i64, .o 1, .s, .o 2, .o 3, .s]] [.l .item, .l .held, .l .str, .l .packet] (fun r=>(r.Code,r.End.Number,r.End.Up,r.End.Life,r.End.Peer,r.End.Since,r.End.Owes,r.End.Send.Base,(),r.End.Take.Next,(),r.End.Take.Open,(),(),r.Text,r.End.Send.Items,r.End.Take.Held,r.End.Take.Ready,r.Out,())) (fun v1 v2 v3 v4 v5 v6 v7 v8 v9 v10 v11 v12 v13 v14 v15=>(⟨v1,(⟨v2,v3,v4,v5,v6,v7,(⟨v8,v12⟩:aj_),(⟨v9,v13,v10,v14⟩:ai_)⟩:an_),v15,v11⟩:ay_)) false
theorem pt_ (k:Nat):SummOk Tryz.prog cod 41 (ks_ k):=aF_ codOk Tryz.f41 (fun k=>av_ [(79,bW_ k),(86,i4_ k),(81,c2_ k)]) [] false [.cell 4 84] 0 [] aG_ Tryz.func41 (by kernel_rfl) (by kernel_rfl) (by kernel_rfl) (by kernel_rfl)
  (fun k=>Known.of tok eok codOk (all_cons (ch_ k) (all_cons (nP_ k) (all_cons (dm_ k) (ab_)))))
  (fun k=>QuietOk.of (all_cons (fun h r=>⟨rfl,rfl⟩) (all_cons (fun h r=>by cases h) (all_cons (fun h r=>by cases h) (ab_)))))
  (fun a=>rfl)
  (ab_)
  (fun k=>by (repeat intro _);show _=_;kernel_rfl)
noncomputable def jH_ (k:Nat):aY_ K TyK:=sm cod (ai_×ByteArray×Bool) [.bo] [.g [.i .i64, .l true .held, .s, .l true .str]] [] (fun k v1 v2 v3 v4=>gE_ k (⟨v1,v2,v3,v4⟩:ai_)) k [.g [.i .i64, .o 0, .s, .o 1], .c (.s), .c (.b)] [.l .held, .l .str] (fun r=>(r.1.Next,(),r.1.Open,(),r.2.1,r.2.2,r.1.Held,r.1.Ready,())) (fun v1 v2 v3 v4 v5 v6=>((⟨v1,v5,v2,v6⟩:ai_),v3,v4)) false
theorem nz_ (k:Nat):SummOk Tryz.prog cod 136 (jH_ k):=aF_ codOk Tryz.f136 (fun k=>av_ [(122,dG_ k),(126,fv_ k),(155,k8_ k)]) [] false [.cell 2 63, .tmp 3, .tmp 4] 0 [] aG_ Tryz.func136 (by kernel_rfl) (by kernel_rfl) (by kernel_rfl) (by kernel_rfl)
  (fun k=>Known.of tok eok codOk (all_cons (er_ k) (all_cons (go_ k) (all_cons (mS_ k) (ab_)))))
  (fun k=>QuietOk.of (all_cons (fun h r=>⟨rfl,rfl⟩) (all_cons (fun h r=>by cases h) (all_cons (fun h r=>by cases h) (ab_)))))
  (fun a=>rfl)
  (ab_)
  (fun k=>by (repeat intro _);show _=_;kernel_rfl)
noncomputable def ky_ (k:Nat):aY_ K TyK:=sm cod (ay_) [.bo] [.g [.i .i64, .b, .i .i64, .i .i64, .i .i64, .b, .i .i64, .l true .item, .i .i64, .l true .held, .s, .l true .str]] [] (fun k v1 v2 v3 v4 v5 v6 v7 v8 v9 v10 v11 v12=>hp_ k (⟨v1,v2,v3,v4,v5,v6,(⟨v7,v8⟩:aj_),(⟨v9,v10,v11,v12⟩:ai_)⟩:an_)) k [.g [.i .i64, .i .i64, .b, .i .i64, .i .i64, .i .i64, .b, .i .i64, .o 0, .i .i64, .o 1, .s, .o 2, .o 3, .s]] [.l .item, .l .held, .l .str, .l .packet] (fun r=>(r.Code,r.End.Number,r.End.Up,r.End.Life,r.End.Peer,r.End.Since,r.End.Owes,r.End.Send.Base,(),r.End.Take.Next,(),r.End.Take.Open,(),(),r.Text,r.End.Send.Items,r.End.Take.Held,r.End.Take.Ready,r.Out,())) (fun v1 v2 v3 v4 v5 v6 v7 v8 v9 v10 v11 v12 v13 v14 v15=>(⟨v1,(⟨v2,v3,v4,v5,v6,v7,(⟨v8,v12⟩:aj_),(⟨v9,v13,v10,v14⟩:ai_)⟩:an_),v15,v11⟩:ay_)) false
theorem ql_ (k:Nat):SummOk Tryz.prog cod 87 (ky_ k):=aF_ codOk Tryz.f87 (fun k=>av_ [(79,bW_ k),(136,jH_ k),(81,c2_ k)]) [] false [.cell 2 84] 0 [] aG_ Tryz.func87 (by kernel_rfl) (by kernel_rfl) (by kernel_rfl) (by kernel_rfl)
  (fun k=>Known.of tok eok codOk (all_cons (ch_ k) (all_cons (nz_ k) (all_cons (dm_ k) (ab_)))))
  (fun k=>QuietOk.of (all_cons (fun h r=>⟨rfl,rfl⟩) (all_cons (fun h r=>by cases h) (all_cons (fun h r=>by cases h) (ab_)))))
  (fun a=>rfl)
  (ab_)
  (fun k=>by (repeat intro _);show _=_;kernel_rfl)
noncomputable def fS_ (k:Nat):aY_ K TyK:=sm cod (ac_) [.mv, .mv] [.c (.r 0 0), .c (.i .i64)] [.x [.s, .i .i64, .o 1, .o 2, .s, .o 3, .o 4], .l .end, .l .parcel, .l .record, .l .record] (fun k v1 v2 v3 v4 v5 v6 v7 v8=>ea_ k (⟨v2,v3,v5,v6,v4,v7,v8⟩:ac_) v1) k [] [.x [.s, .i .i64, .o 5, .o 6, .s, .o 7, .o 8], .d, .d, .d, .d, .l .end, .l .parcel, .l .record, .l .record] (fun r=>(r.Key,r.Width,(),(),r.Forged,(),(),r.Ends,r.Flight,r.Given,r.Taken,())) (fun v1 v2 v3 v4 v5 v6 v7=>(⟨v1,v2,v4,v5,v3,v6,v7⟩:ac_)) false
theorem hr_ (k:Nat):SummOk Tryz.prog cod 42 (fS_ k):=aF_ codOk Tryz.f42 (fun k=>av_ [(40,fO_ k),(87,ky_ k)]) [] false [] 5 [false,true,true,true,true] aG_ Tryz.func42 (by kernel_rfl) (by kernel_rfl) (by kernel_rfl) (by kernel_rfl)
  (fun k=>Known.of tok eok codOk (all_cons (hu_ k) (all_cons (ql_ k) (ab_))))
  (fun k=>QuietOk.of (all_cons (fun h r=>by cases h) (all_cons (fun h r=>by cases h) (ab_))))
  (fun a=>rfl)
  (ab_)
  (fun k=>by (repeat intro _);show _=_;kernel_rfl)
noncomputable def vc_ (k:Nat):aY_ K TyK:=sm cod (ac_) [.bo, .bo] [.g [.s, .i .i64, .l true .end, .l true .parcel, .s, .l true .record, .l true .record], .g [.i .i64, .i .i64, .i .i64, .i .i64, .s]] [] (fun k v1 v2 v3 v4 v5 v6 v7 v8 v9 v10 v11 v12=>kQ_ k (⟨v1,v2,v3,v4,v5,v6,v7⟩:ac_) (⟨v8,v9,v10,v11,v12⟩:as_)) k [.g [.s, .i .i64, .o 0, .o 1, .s, .o 2, .o 3]] [.l .end, .l .parcel, .l .record, .l .record] (fun r=>(r.Key,r.Width,(),(),r.Forged,(),(),r.Ends,r.Flight,r.Given,r.Taken,())) (fun v1 v2 v3 v4 v5 v6 v7=>(⟨v1,v2,v4,v5,v3,v6,v7⟩:ac_)) false
noncomputable abbrev AX_:List (Nat×Cut K TyK (ac_)):=[(5,ct cod [3,4,5,6] [.c (.r 0 0), .c (.r 1 0), .c (.r 2 0), .c (.b)] [.x [.i .i64, .i .i64, .i .i64, .i .i64, .s], .x [.s, .i .i64, .o 3, .o 4, .s, .o 5, .o 6], .x [.s, .i .i64, .o 7, .o 8, .s, .o 9, .o 10], .l .end, .l .parcel, .l .record, .l .record, .l .end, .l .parcel, .l .record, .l .record] hW_),
  (6,ct cod [3,4,5,6,7] [.c (.r 0 0), .c (.r 1 0), .c (.r 2 0), .c (.b), .c (.b)] [.x [.i .i64, .i .i64, .i .i64, .i .i64, .s], .x [.s, .i .i64, .o 3, .o 4, .s, .o 5, .o 6], .x [.s, .i .i64, .o 7, .o 8, .s, .o 9, .o 10], .l .end, .l .parcel, .l .record, .l .record, .l .end, .l .parcel, .l .record, .l .record] h5_),
  (45,ct cod [4,5] [.c (.r 0 0), .c (.r 1 0)] [.x [.s, .i .i64, .o 2, .o 3, .s, .o 4, .o 5], .x [.s, .i .i64, .o 6, .o 7, .s, .o 8, .o 9], .l .end, .l .parcel, .l .record, .l .record, .l .end, .l .parcel, .l .record, .l .record] ar_),
  (11,ct cod [3,4,5,7] [.c (.r 0 0), .c (.r 1 0), .c (.r 2 0), .c (.b)] [.x [.i .i64, .i .i64, .i .i64, .i .i64, .s], .x [.s, .i .i64, .o 3, .o 4, .s, .o 5, .o 6], .x [.s, .i .i64, .o 7, .o 8, .s, .o 9, .o 10], .l .end, .l .parcel, .l .record, .l .record, .l .end, .l .parcel, .l .record, .l .record] g2_),
  (16,ct cod [3,4,5,6,7,37] [.c (.r 0 0), .c (.r 1 0), .c (.r 2 0), .c (.b), .c (.b), .c (.i .i64)] [.x [.i .i64, .i .i64, .i .i64, .i .i64, .s], .x [.s, .i .i64, .o 3, .o 4, .s, .o 5, .o 6], .x [.s, .i .i64, .o 7, .o 8, .s, .o 9, .o 10], .l .end, .l .parcel, .l .record, .l .record, .l .end, .l .parcel, .l .record, .l .record] iC_)]
theorem yw_ (k:Nat):SummOk Tryz.prog cod 11 (vc_ k):=aF_ codOk Tryz.f11 (fun k=>av_ [(34,dj_ k),(35,gl_ k),(36,fY_ k),(37,fs_ k),(38,ku_ k),(39,km_ k),(40,fO_ k),(41,ks_ k),(42,fS_ k)]) AX_ false [.cell 4 29] 0 [] aG_ Tryz.func11 (by kernel_rfl) (by kernel_rfl) (by kernel_rfl) (by kernel_rfl)
  (fun k=>Known.of tok eok codOk (all_cons (d3_ k) (all_cons (h6_ k) (all_cons (hj_ k) (all_cons (g1_ k) (all_cons (pl_ k) (all_cons (pH_ k) (all_cons (hu_ k) (all_cons (pt_ k) (all_cons (hr_ k) (ab_)))))))))))
  (fun k=>QuietOk.of (all_cons (fun h r=>⟨rfl,rfl⟩) (all_cons (fun h r=>by cases h) (all_cons (fun h r=>by cases h) (all_cons (fun h r=>by cases h) (all_cons (fun h r=>by cases h) (all_cons (fun h r=>by cases h) (all_cons (fun h r=>by cases h) (all_cons (fun h r=>by cases h) (all_cons (fun h r=>by cases h) (ab_)))))))))))
  (fun a=>rfl)
  (all_cons (ao_ codOk (by kernel_rfl) (by (repeat intro _);show _=_;kernel_rfl) (fun k=>by (repeat intro _);show _=_;kernel_rfl)) (all_cons (ao_ codOk (by kernel_rfl) (by (repeat intro _);show _=_;kernel_rfl) (fun k=>by (repeat intro _);show _=_;kernel_rfl)) (all_cons (ao_ codOk (by kernel_rfl) (by (repeat intro _);show _=_;kernel_rfl) (fun k=>by (repeat intro _);show _=_;kernel_rfl)) (all_cons (ao_ codOk (by kernel_rfl) (by (repeat intro _);show _=_;kernel_rfl) (fun k=>by (repeat intro _);show _=_;kernel_rfl)) (all_cons (ao_ codOk (by kernel_rfl) (by (repeat intro _);show _=_;kernel_rfl) (fun k=>by (repeat intro _);show _=_;kernel_rfl)) (ab_))))))
  (fun k=>by (repeat intro _);show _=_;kernel_rfl)
noncomputable def dK_ (k:Nat):aY_ K TyK:=sm cod (Bool) [.bo] [.g [.i .i64, .l true .item]] [] (fun k v1 v2=>bA_ k (⟨v1,v2⟩:aj_)) k [.c (.b)] [] (fun r=>(r,())) (fun v1=>v1) true
noncomputable abbrev nQ_:List (Nat×Cut K TyK (Bool)):=[(4,ct cod [1,3] [.c (.r 0 0), .c (.i .i64)] [.x [.i .i64, .l true .item]] aM_)]
theorem eF_ (k:Nat):SummOk Tryz.prog cod 92 (dK_ k):=aF_ codOk Tryz.f92 (fun k=>av_ [(28,bv_ k)]) nQ_ false [.tmp 2] 0 [] aG_ Tryz.func92 (by kernel_rfl) (by kernel_rfl) (by kernel_rfl) (by kernel_rfl)
  (fun k=>Known.of tok eok codOk (all_cons (bj_ k) (ab_)))
  (fun k=>QuietOk.of (all_cons (fun h r=>⟨rfl,rfl⟩) (ab_)))
  (fun a=>rfl)
  (all_cons (ao_ codOk (by kernel_rfl) (by (repeat intro _);show _=_;kernel_rfl) (fun k=>by (repeat intro _);show _=_;kernel_rfl)) (ab_))
  (fun k=>by (repeat intro _);show _=_;kernel_rfl)
noncomputable def ix_ (k:Nat):aY_ K TyK:=sm cod (Bool) [.bo, .bo] [.g [.i .i64, .l true .held, .s, .l true .str], .c (.i .i64)] [] (fun k v1 v2 v3 v4 v5=>g0_ k (⟨v1,v2,v3,v4⟩:ai_) v5) k [.c (.b)] [] (fun r=>(r,())) (fun v1=>v1) true
theorem ke_ (k:Nat):SummOk Tryz.prog cod 139 (ix_ k):=aF_ codOk Tryz.f139 (fun k=>av_ [(28,bv_ k)]) [] false [.tmp 4] 0 [] aG_ Tryz.func139 (by kernel_rfl) (by kernel_rfl) (by kernel_rfl) (by kernel_rfl)
  (fun k=>Known.of tok eok codOk (all_cons (bj_ k) (ab_)))
  (fun k=>QuietOk.of (all_cons (fun h r=>⟨rfl,rfl⟩) (ab_)))
  (fun a=>rfl)
  (ab_)
  (fun k=>by (repeat intro _);show _=_;kernel_rfl)
noncomputable def i9_ (k:Nat):aY_ K TyK:=sm cod (Bool) [.bo, .bo] [.g [.i .i64, .l true .held, .s, .l true .str], .g [.s, .b]] [] (fun k v1 v2 v3 v4 v5 v6=>ff_ k (⟨v1,v2,v3,v4⟩:ai_) (⟨v5,v6⟩:aA_)) k [.c (.b)] [] (fun r=>(r,())) (fun v1=>v1) true
theorem lO_ (k:Nat):SummOk Tryz.prog cod 140 (i9_ k):=aF_ codOk Tryz.f140 (fun k=>av_ []) [] false [.tmp 4] 0 [] aG_ Tryz.func140 (by kernel_rfl) (by kernel_rfl) (by kernel_rfl) (by kernel_rfl)
  (fun k=>Known.of tok eok codOk (ab_))
  (fun k=>QuietOk.of (ab_))
  (fun a=>rfl)
  (ab_)
  (fun k=>by (repeat intro _);show _=_;kernel_rfl)
noncomputable def dL_ (k:Nat):aY_ K TyK:=sm cod (Bool) [.bo] [.g [.i .i64, .l true .held, .s, .l true .str]] [] (fun k v1 v2 v3 v4=>c7_ k (⟨v1,v2,v3,v4⟩:ai_)) k [.c (.b)] [] (fun r=>(r,())) (fun v1=>v1) true
noncomputable abbrev nH_:List (Nat×Cut K TyK (Bool)):=[(4,ct cod [1,3] [.c (.r 0 0), .c (.i .i64)] [.x [.i .i64, .l true .held, .s, .l true .str]] cu_),
  (9,ct cod [1,4] [.c (.r 0 0), .c (.i .i64)] [.x [.i .i64, .l true .held, .s, .l true .str]] aL_)]
theorem et_ (k:Nat):SummOk Tryz.prog cod 93 (dL_ k):=aF_ codOk Tryz.f93 (fun k=>av_ [(28,bv_ k),(139,ix_ k),(140,i9_ k)]) nH_ false [.tmp 2] 0 [] aG_ Tryz.func93 (by kernel_rfl) (by kernel_rfl) (by kernel_rfl) (by kernel_rfl)
  (fun k=>Known.of tok eok codOk (all_cons (bj_ k) (all_cons (ke_ k) (all_cons (lO_ k) (ab_)))))
  (fun k=>QuietOk.of (all_cons (fun h r=>⟨rfl,rfl⟩) (all_cons (fun h r=>⟨rfl,rfl⟩) (all_cons (fun h r=>⟨rfl,rfl⟩) (ab_)))))
  (fun a=>rfl)
  (all_cons (ao_ codOk (by kernel_rfl) (by (repeat intro _);show _=_;kernel_rfl) (fun k=>by (repeat intro _);show _=_;kernel_rfl)) (all_cons (ao_ codOk (by kernel_rfl) (by (repeat intro _);show _=_;kernel_rfl) (fun k=>by (repeat intro _);show _=_;kernel_rfl)) (ab_)))
  (fun k=>by (repeat intro _);show _=_;kernel_rfl)
noncomputable def jy_ (k:Nat):aY_ K TyK:=sm cod (Bool) [.bo] [.g [.i .i64, .l true .item]] [] (fun k v1 v2=>gH_ k (⟨v1,v2⟩:aj_)) k [.c (.b)] [] (fun r=>(r,())) (fun v1=>v1) true
theorem nX_ (k:Nat):SummOk Tryz.prog cod 94 (jy_ k):=aF_ codOk Tryz.f94 (fun k=>av_ []) [] false [.tmp 2] 0 [] aG_ Tryz.func94 (by kernel_rfl) (by kernel_rfl) (by kernel_rfl) (by kernel_rfl)
  (fun k=>Known.of tok eok codOk (ab_))
  (fun k=>QuietOk.of (ab_))
  (fun a=>rfl)
  (ab_)
  (fun k=>by (repeat intro _);show _=_;kernel_rfl)
noncomputable def jE_ (k:Nat):aY_ K TyK:=sm cod (Bool) [.bo] [.g [.i .i64, .l true .held, .s, .l true .str]] [] (fun k v1 v2 v3 v4=>gv_ k (⟨v1,v2,v3,v4⟩:ai_)) k [.c (.b)] [] (fun r=>(r,())) (fun v1=>v1) true
theorem nI_ (k:Nat):SummOk Tryz.prog cod 95 (jE_ k):=aF_ codOk Tryz.f95 (fun k=>av_ []) [] false [.tmp 2] 0 [] aG_ Tryz.func95 (by kernel_rfl) (by kernel_rfl) (by kernel_rfl) (by kernel_rfl)
  (fun k=>Known.of tok eok codOk (ab_))
  (fun k=>QuietOk.of (ab_))
  (fun a=>rfl)
  (ab_)
  (fun k=>by (repeat intro _);show _=_;kernel_rfl)
noncomputable def bZ_ (k:Nat):aY_ K TyK:=sm cod (Bool) [.bo] [.g [.i .i64, .b, .i .i64, .i .i64, .i .i64, .b, .i .i64, .l true .item, .i .i64, .l true .held, .s, .l true .str]] [] (fun k v1 v2 v3 v4 v5 v6 v7 v8 v9 v10 v11 v12=>bU_ k (⟨v1,v2,v3,v4,v5,v6,(⟨v7,v8⟩:aj_),(⟨v9,v10,v11,v12⟩:ai_)⟩:an_)) k [.c (.b)] [] (fun r=>(r,())) (fun v1=>v1) true
theorem ci_ (k:Nat):SummOk Tryz.prog cod 47 (bZ_ k):=aF_ codOk Tryz.f47 (fun k=>av_ [(28,bv_ k),(92,dK_ k),(93,dL_ k),(94,jy_ k),(95,jE_ k)]) [] false [.tmp 2] 0 [] aG_ Tryz.func47 (by kernel_rfl) (by kernel_rfl) (by kernel_rfl) (by kernel_rfl)
  (fun k=>Known.of tok eok codOk (all_cons (bj_ k) (all_cons (eF_ k) (all_cons (et_ k) (all_cons (nX_ k) (all_cons (nI_ k) (ab_)))))))
  (fun k=>QuietOk.of (all_cons (fun h r=>⟨rfl,rfl⟩) (all_cons (fun h r=>⟨rfl,rfl⟩) (all_cons (fun h r=>⟨rfl,rfl⟩) (all_cons (fun h r=>⟨rfl,rfl⟩) (all_cons (fun h r=>⟨rfl,rfl⟩) (ab_)))))))
  (fun a=>rfl)
  (ab_)
  (fun k=>by (repeat intro _);show _=_;kernel_rfl)
noncomputable def hA_ (k:Nat):aY_ K TyK:=sm cod (Bool) [.bo] [.c (.l true .record)] [] (eY_) k [.c (.b)] [] (fun r=>(r,())) (fun v1=>v1) true
noncomputable abbrev lB_:List (Nat×Cut K TyK (Bool)):=[(2,ct cod [0,3] [.c (.l true .record), .c (.i .i64)] [] bM_)]
theorem kG_ (k:Nat):SummOk Tryz.prog cod 48 (hA_ k):=aF_ codOk Tryz.f48 (fun k=>av_ [(28,bv_ k)]) lB_ false [.tmp 2] 0 [] aG_ Tryz.func48 (by kernel_rfl) (by kernel_rfl) (by kernel_rfl) (by kernel_rfl)
  (fun k=>Known.of tok eok codOk (all_cons (bj_ k) (ab_)))
  (fun k=>QuietOk.of (all_cons (fun h r=>⟨rfl,rfl⟩) (ab_)))
  (fun a=>rfl)
  (all_cons (ao_ codOk (by kernel_rfl) (by (repeat intro _);show _=_;kernel_rfl) (fun k=>by (repeat intro _);show _=_;kernel_rfl)) (ab_))
  (fun k=>by (repeat intro _);show _=_;kernel_rfl)
noncomputable def de_ (k:Nat):aY_ K TyK:=sm cod (Bool) [.bo] [.g [.s, .i .i64, .l true .end, .l true .parcel, .s, .l true .record, .l true .record]] [] (fun k v1 v2 v3 v4 v5 v6 v7=>bD_ k (⟨v1,v2,v3,v4,v5,v6,v7⟩:ac_)) k [.c (.b)] [] (fun r=>(r,())) (fun v1=>v1) true
noncomputable abbrev mN_:List (Nat×Cut K TyK (Bool)):=[(4,ct cod [1,3] [.c (.r 0 0), .c (.i .i64)] [.x [.s, .i .i64, .l true .end, .l true .parcel, .s, .l true .record, .l true .record]] b6_),
  (9,ct cod [1,4] [.c (.r 0 0), .c (.i .i64)] [.x [.s, .i .i64, .l true .end, .l true .parcel, .s, .l true .record, .l true .record]] b8_)]
theorem d2_ (k:Nat):SummOk Tryz.prog cod 14 (de_ k):=aF_ codOk Tryz.f14 (fun k=>av_ [(28,bv_ k),(47,bZ_ k),(48,hA_ k)]) mN_ false [.tmp 2] 0 [] aG_ Tryz.func14 (by kernel_rfl) (by kernel_rfl) (by kernel_rfl) (by kernel_rfl)
  (fun k=>Known.of tok eok codOk (all_cons (bj_ k) (all_cons (ci_ k) (all_cons (kG_ k) (ab_)))))
  (fun k=>QuietOk.of (all_cons (fun h r=>⟨rfl,rfl⟩) (all_cons (fun h r=>⟨rfl,rfl⟩) (all_cons (fun h r=>⟨rfl,rfl⟩) (ab_)))))
  (fun a=>rfl)
  (all_cons (ao_ codOk (by kernel_rfl) (by (repeat intro _);show _=_;kernel_rfl) (fun k=>by (repeat intro _);show _=_;kernel_rfl)) (all_cons (ao_ codOk (by kernel_rfl) (by (repeat intro _);show _=_;kernel_rfl) (fun k=>by (repeat intro _);show _=_;kernel_rfl)) (ab_)))
  (fun k=>by (repeat intro _);show _=_;kernel_rfl)
noncomputable def fA_ (k:Nat):aY_ K TyK:=sm cod (aj_) [.bo] [.g [.i .i64, .l true .item]] [] (fun k v1 v2=>ep_ k (⟨v1,v2⟩:aj_)) k [.g [.i .i64, .o 0]] [.l .item] (fun r=>(r.Base,(),r.Items,())) (fun v1 v2=>(⟨v1,v2⟩:aj_)) false
theorem f3_ (k:Nat):SummOk Tryz.prog cod 137 (fA_ k):=aF_ codOk Tryz.f137 (fun k=>av_ []) [] false [.cell 2 59] 0 [] aG_ Tryz.func137 (by kernel_rfl) (by kernel_rfl) (by kernel_rfl) (by kernel_rfl)
  (fun k=>Known.of tok eok codOk (ab_))
  (fun k=>QuietOk.of (ab_))
  (fun a=>rfl)
  (ab_)
  (fun k=>by (repeat intro _);show _=_;kernel_rfl)
noncomputable def gI_ (k:Nat):aY_ K TyK:=sm cod (ai_) [.bo] [.g [.i .i64, .l true .held, .s, .l true .str]] [] (fun k v1 v2 v3 v4=>e6_ k (⟨v1,v2,v3,v4⟩:ai_)) k [.g [.i .i64, .o 0, .s, .o 1]] [.l .held, .l .str] (fun r=>(r.Next,(),r.Open,(),r.Held,r.Ready,())) (fun v1 v2 v3 v4=>(⟨v1,v3,v2,v4⟩:ai_)) false
theorem hQ_ (k:Nat):SummOk Tryz.prog cod 138 (gI_ k):=aF_ codOk Tryz.f138 (fun k=>av_ []) [] false [.cell 2 63] 0 [] aG_ Tryz.func138 (by kernel_rfl) (by kernel_rfl) (by kernel_rfl) (by kernel_rfl)
  (fun k=>Known.of tok eok codOk (ab_))
  (fun k=>QuietOk.of (ab_))
  (fun a=>rfl)
  (ab_)
  (fun k=>by (repeat intro _);show _=_;kernel_rfl)
noncomputable def dq_ (k:Nat):aY_ K TyK:=sm cod (an_) [.bo] [.g [.i .i64, .b, .i .i64, .i .i64, .i .i64, .b, .i .i64, .l true .item, .i .i64, .l true .held, .s, .l true .str]] [] (fun k v1 v2 v3 v4 v5 v6 v7 v8 v9 v10 v11 v12=>c5_ k (⟨v1,v2,v3,v4,v5,v6,(⟨v7,v8⟩:aj_),(⟨v9,v10,v11,v12⟩:ai_)⟩:an_)) k [.g [.i .i64, .b, .i .i64, .i .i64, .i .i64, .b, .i .i64, .o 0, .i .i64, .o 1, .s, .o 2]] [.l .item, .l .held, .l .str] (fun r=>(r.Number,r.Up,r.Life,r.Peer,r.Since,r.Owes,r.Send.Base,(),r.Take.Next,(),r.Take.Open,(),r.Send.Items,r.Take.Held,r.Take.Ready,())) (fun v1 v2 v3 v4 v5 v6 v7 v8 v9 v10 v11 v12=>(⟨v1,v2,v3,v4,v5,v6,(⟨v7,v10⟩:aj_),(⟨v8,v11,v9,v12⟩:ai_)⟩:an_)) false
theorem dQ_ (k:Nat):SummOk Tryz.prog cod 88 (dq_ k):=aF_ codOk Tryz.f88 (fun k=>av_ [(137,fA_ k),(138,gI_ k)]) [] false [.cell 2 65] 0 [] aG_ Tryz.func88 (by kernel_rfl) (by kernel_rfl) (by kernel_rfl) (by kernel_rfl)
  (fun k=>Known.of tok eok codOk (all_cons (f3_ k) (all_cons (hQ_ k) (ab_))))
  (fun k=>QuietOk.of (all_cons (fun h r=>by cases h) (all_cons (fun h r=>by cases h) (ab_))))
  (fun a=>rfl)
  (ab_)
  (fun k=>by (repeat intro _);show _=_;kernel_rfl)
noncomputable def lv_ (k:Nat):aY_ K TyK:=sm cod (ac_) [.bo] [.g [.s, .i .i64, .l true .end, .l true .parcel, .s, .l true .record, .l true .record]] [] (fun k v1 v2 v3 v4 v5 v6 v7=>g4_ k (⟨v1,v2,v3,v4,v5,v6,v7⟩:ac_)) k [.g [.s, .i .i64, .o 0, .o 1, .s, .o 2, .o 3]] [.l .end, .l .parcel, .l .record, .l .record] (fun r=>(r.Key,r.Width,(),(),r.Forged,(),(),r.Ends,r.Flight,r.Given,r.Taken,())) (fun v1 v2 v3 v4 v5 v6 v7=>(⟨v1,v2,v4,v5,v3,v6,v7⟩:ac_)) false
noncomputable abbrev sh_:List (Nat×Cut K TyK (ac_)):=[(4,ct cod [1,2,3,4] [.c (.r 0 0), .c (.r 1 0), .c (.r 2 0), .c (.i .i64)] [.x [.s, .i .i64, .l true .end, .l true .parcel, .s, .l true .record, .l true .record], .x [.s, .i .i64, .o 3, .o 4, .s, .o 5, .o 6], .x [.s, .i .i64, .o 7, .l true .parcel, .s, .l true .record, .l true .record], .l .end, .l .parcel, .l .record, .l .record, .l .end] dV_)]
theorem qW_ (k:Nat):SummOk Tryz.prog cod 43 (lv_ k):=aF_ codOk Tryz.f43 (fun k=>av_ [(88,dq_ k)]) sh_ false [.cell 2 29] 0 [] aG_ Tryz.func43 (by kernel_rfl) (by kernel_rfl) (by kernel_rfl) (by kernel_rfl)
  (fun k=>Known.of tok eok codOk (all_cons (dQ_ k) (ab_)))
  (fun k=>QuietOk.of (all_cons (fun h r=>by cases h) (ab_)))
  (fun a=>rfl)
  (all_cons (ao_ codOk (by kernel_rfl) (by (repeat intro _);show _=_;kernel_rfl) (fun k=>by (repeat intro _);show _=_;kernel_rfl)) (ab_))
  (fun k=>by (repeat intro _);show _=_;kernel_rfl)
noncomputable def jc_ (k:Nat):aY_ K TyK:=sm cod (aj_×List Int) [.bo] [.g [.i .i64, .l true .item]] [] (fun k v1 v2=>fB_ k (⟨v1,v2⟩:aj_)) k [.g [.i .i64, .o 0], .c (.o 1)] [.l .item, .l .int] (fun r=>(r.1.Base,(),(),r.1.Items,r.2,())) (fun v1 v2 v3=>((⟨v1,v2⟩:aj_),v3)) false
noncomputable abbrev qz_:List (Nat×Cut K TyK (aj_×List Int)):=[(6,ct cod [1,2,4,5,6] [.c (.r 0 0), .c (.r 1 0), .c (.o 2), .c (.r 3 0), .c (.i .i64)] [.x [.i .i64, .l true .item], .x [.i .i64, .o 4], .l .int, .x [.i .i64, .o 5], .l .item, .l .item] cP_),
  (7,ct cod [1,2,4,5,6] [.c (.r 0 0), .c (.r 1 0), .c (.o 2), .c (.r 3 0), .c (.i .i64)] [.x [.i .i64, .l true .item], .x [.i .i64, .o 4], .l .int, .x [.i .i64, .o 5], .l .item, .l .item] ca_)]
theorem nD_ (k:Nat):SummOk Tryz.prog cod 143 (jc_ k):=aF_ codOk Tryz.f143 (fun k=>av_ [(92,dK_ k),(137,fA_ k)]) qz_ false [.cell 2 59, .tmp 3] 0 [] aG_ Tryz.func143 (by kernel_rfl) (by kernel_rfl) (by kernel_rfl) (by kernel_rfl)
  (fun k=>Known.of tok eok codOk (all_cons (eF_ k) (all_cons (f3_ k) (ab_))))
  (fun k=>QuietOk.of (all_cons (fun h r=>⟨rfl,rfl⟩) (all_cons (fun h r=>by cases h) (ab_))))
  (fun a=>rfl)
  (all_cons (ao_ codOk (by kernel_rfl) (by (repeat intro _);show _=_;kernel_rfl) (fun k=>by (repeat intro _);show _=_;kernel_rfl)) (all_cons (ao_ codOk (by kernel_rfl) (by (repeat intro _);show _=_;kernel_rfl) (fun k=>by (repeat intro _);show _=_;kernel_rfl)) (ab_)))
  (fun k=>by (repeat intro _);show _=_;kernel_rfl)
noncomputable def jb_ (k:Nat):aY_ K TyK:=sm cod (Int×Int) [.bo] [.g [.i .i64, .l true .held, .s, .l true .str]] [] (fun k v1 v2 v3 v4=>eA_ k (⟨v1,v2,v3,v4⟩:ai_)) k [.c (.i .i64), .c (.i .i64)] [] (fun r=>(r.1,r.2,())) (fun v1 v2=>(v1,v2)) true
noncomputable abbrev pC_:List (Nat×Cut K TyK (Int×Int)):=[(5,ct cod [1,4,5] [.c (.r 0 0), .c (.i .i64), .c (.i .i64)] [.x [.i .i64, .l true .held, .s, .l true .str]] cc_),
  (9,ct cod [1,4,5,6,7] [.c (.r 0 0), .c (.i .i64), .c (.i .i64), .c (.i .i64), .c (.i .i64)] [.x [.i .i64, .l true .held, .s, .l true .str]] cR_)]
theorem nF_ (k:Nat):SummOk Tryz.prog cod 144 (jb_ k):=aF_ codOk Tryz.f144 (fun k=>av_ [(93,dL_ k)]) pC_ false [.tmp 2, .tmp 3] 0 [] aG_ Tryz.func144 (by kernel_rfl) (by kernel_rfl) (by kernel_rfl) (by kernel_rfl)
  (fun k=>Known.of tok eok codOk (all_cons (et_ k) (ab_)))
  (fun k=>QuietOk.of (all_cons (fun h r=>⟨rfl,rfl⟩) (ab_)))
  (fun a=>rfl)
  (all_cons (ao_ codOk (by kernel_rfl) (by (repeat intro _);show _=_;kernel_rfl) (fun k=>by (repeat intro _);show _=_;kernel_rfl)) (all_cons (ao_ codOk (by kernel_rfl) (by (repeat intro _);show _=_;kernel_rfl) (fun k=>by (repeat intro _);show _=_;kernel_rfl)) (ab_)))
  (fun k=>by (repeat intro _);show _=_;kernel_rfl)
noncomputable def kv_ (k:Nat):aY_ K TyK:=sm cod (ay_) [.bo] [.g [.i .i64, .b, .i .i64, .i .i64, .i .i64, .b, .i .i64, .l true .item, .i .i64, .l true .held, .s, .l true .str]] [] (fun k v1 v2 v3 v4 v5 v6 v7 v8 v9 v10 v11 v12=>hl_ k (⟨v1,v2,v3,v4,v5,v6,(⟨v7,v8⟩:aj_),(⟨v9,v10,v11,v12⟩:ai_)⟩:an_)) k [.g [.i .i64, .i .i64, .b, .i .i64, .i .i64, .i .i64, .b, .i .i64, .o 0, .i .i64, .o 1, .s, .o 2, .o 3, .s]] [.l .item, .l .held, .l .str, .l .packet] (fun r=>(r.Code,r.End.Number,r.End.Up,r.End.Life,r.End.Peer,r.End.Since,r.End.Owes,r.End.Send.Base,(),r.End.Take.Next,(),r.End.Take.Open,(),(),r.Text,r.End.Send.Items,r.End.Take.Held,r.End.Take.Ready,r.Out,())) (fun v1 v2 v3 v4 v5 v6 v7 v8 v9 v10 v11 v12 v13 v14 v15=>(⟨v1,(⟨v2,v3,v4,v5,v6,v7,(⟨v8,v12⟩:aj_),(⟨v9,v13,v10,v14⟩:ai_)⟩:an_),v15,v11⟩:ay_)) false
noncomputable abbrev qH_:List (Nat×Cut K TyK (ay_)):=[(9,ct cod [2,3,4] [.c (.r 0 0), .c (.r 1 0), .c (.o 2)] [.x [.i .i64, .i .i64, .b, .i .i64, .i .i64, .i .i64, .b, .i .i64, .o 3, .i .i64, .o 4, .s, .o 5, .o 6, .s], .x [.i .i64, .b, .i .i64, .i .i64, .i .i64, .b, .i .i64, .o 7, .i .i64, .o 8, .s, .o 9], .l .packet, .l .item, .l .held, .l .str, .l .packet, .l .item, .l .held, .l .str] em_),
  (13,ct cod [2,3,4,5,6,7] [.c (.r 0 0), .c (.r 1 0), .c (.o 2), .c (.r 3 0), .c (.o 4), .c (.i .i64)] [.x [.i .i64, .i .i64, .b, .i .i64, .i .i64, .i .i64, .b, .i .i64, .o 5, .i .i64, .o 6, .s, .o 7, .o 8, .s], .x [.i .i64, .b, .i .i64, .i .i64, .i .i64, .b, .i .i64, .o 9, .i .i64, .o 10, .s, .o 11], .l .packet, .x [.i .i64, .o 9], .l .int, .l .item, .l .held, .l .str, .l .packet, .l .item, .l .held, .l .str] cV_),
  (17,ct cod [2,3,4] [.c (.r 0 0), .c (.r 1 0), .c (.o 2)] [.x [.i .i64, .i .i64, .b, .i .i64, .i .i64, .i .i64, .b, .i .i64, .o 3, .i .i64, .o 4, .s, .o 5, .o 6, .s], .x [.i .i64, .b, .i .i64, .i .i64, .i .i64, .b, .i .i64, .o 7, .i .i64, .o 8, .s, .o 9], .l .packet, .l .item, .l .held, .l .str, .l .packet, .l .item, .l .held, .l .str] dI_),
  (22,ct cod [2,3,4] [.c (.r 0 0), .c (.r 1 0), .c (.o 2)] [.x [.i .i64, .i .i64, .b, .i .i64, .i .i64, .i .i64, .b, .i .i64, .o 3, .i .i64, .o 4, .s, .o 5, .o 6, .s], .x [.i .i64, .b, .i .i64, .i .i64, .i .i64, .b, .i .i64, .o 7, .i .i64, .o 8, .s, .o 9], .l .packet, .l .item, .l .held, .l .str, .l .packet, .l .item, .l .held, .l .str] cg_)]
theorem pk_ (k:Nat):SummOk Tryz.prog cod 99 (kv_ k):=aF_ codOk Tryz.f99 (fun k=>av_ [(47,bZ_ k),(88,dq_ k),(143,jc_ k),(144,jb_ k)]) qH_ false [.cell 2 84] 0 [] aG_ Tryz.func99 (by kernel_rfl) (by kernel_rfl) (by kernel_rfl) (by kernel_rfl)
  (fun k=>Known.of tok eok codOk (all_cons (ci_ k) (all_cons (dQ_ k) (all_cons (nD_ k) (all_cons (nF_ k) (ab_))))))
  (fun k=>QuietOk.of (all_cons (fun h r=>⟨rfl,rfl⟩) (all_cons (fun h r=>by cases h) (all_cons (fun h r=>by cases h) (all_cons (fun h r=>⟨rfl,rfl⟩) (ab_))))))
  (fun a=>rfl)
  (all_cons (ao_ codOk (by kernel_rfl) (by (repeat intro _);show _=_;kernel_rfl) (fun k=>by (repeat intro _);show _=_;kernel_rfl)) (all_cons (ao_ codOk (by kernel_rfl) (by (repeat intro _);show _=_;kernel_rfl) (fun k=>by (repeat intro _);show _=_;kernel_rfl)) (all_cons (ao_ codOk (by kernel_rfl) (by (repeat intro _);show _=_;kernel_rfl) (fun k=>by (repeat intro _);show _=_;kernel_rfl)) (all_cons (ao_ codOk (by kernel_rfl) (by (repeat intro _);show _=_;kernel_rfl) (fun k=>by (repeat intro _);show _=_;kernel_rfl)) (ab_)))))
  (fun k=>by (repeat intro _);show _=_;kernel_rfl)
noncomputable def lw_ (k:Nat):aY_ K TyK:=sm cod (ac_) [.mv] [.g [.s, .i .i64, .o 0, .o 1, .s, .o 2, .o 3]] [.l .end, .l .parcel, .l .record, .l .record] (fun k v1 v2 v3 v4 v5 v6 v7=>iA_ k (⟨v1,v2,v4,v5,v3,v6,v7⟩:ac_)) k [.g [.s, .i .i64, .o 4, .o 5, .s, .o 6, .o 7]] [.d, .d, .d, .d, .l .end, .l .parcel, .l .record, .l .record] (fun r=>(r.Key,r.Width,(),(),r.Forged,(),(),r.Ends,r.Flight,r.Given,r.Taken,())) (fun v1 v2 v3 v4 v5 v6 v7=>(⟨v1,v2,v4,v5,v3,v6,v7⟩:ac_)) false
noncomputable abbrev sr_:List (Nat×Cut K TyK (ac_)):=[(2,ct cod [1,2,3] [.c (.r 4 0), .c (.r 5 0), .c (.i .i64)] [.d, .d, .d, .d, .x [.s, .i .i64, .o 6, .o 7, .s, .o 8, .o 9], .x [.s, .i .i64, .o 10, .o 11, .s, .o 12, .o 13], .l .end, .l .parcel, .l .record, .l .record, .l .end, .l .parcel, .l .record, .l .record] bN_),
  (7,ct cod [1,2,3,4,5] [.c (.r 4 0), .c (.r 5 0), .c (.i .i64), .c (.r 6 0), .c (.i .i64)] [.d, .d, .d, .d, .x [.s, .i .i64, .o 7, .o 8, .s, .o 9, .o 10], .x [.s, .i .i64, .o 11, .o 12, .s, .o 13, .o 14], .x [.i .i64, .i .i64, .b, .i .i64, .i .i64, .i .i64, .b, .i .i64, .o 15, .i .i64, .o 16, .s, .o 17, .o 18, .s], .l .end, .l .parcel, .l .record, .l .record, .l .end, .l .parcel, .l .record, .l .record, .d, .d, .d, .l .packet] dW_)]
theorem q2_ (k:Nat):SummOk Tryz.prog cod 56 (lw_ k):=aF_ codOk Tryz.f56 (fun k=>av_ [(99,kv_ k),(78,fI_ k)]) sr_ false [.cell 2 29] 4 [true,true,true,true] aG_ Tryz.func56 (by kernel_rfl) (by kernel_rfl) (by kernel_rfl) (by kernel_rfl)
  (fun k=>Known.of tok eok codOk (all_cons (pk_ k) (all_cons (hD_ k) (ab_))))
  (fun k=>QuietOk.of (all_cons (fun h r=>by cases h) (all_cons (fun h r=>⟨rfl,rfl⟩) (ab_))))
  (fun a=>rfl)
  (all_cons (ao_ codOk (by kernel_rfl) (by (repeat intro _);show _=_;kernel_rfl) (fun k=>by (repeat intro _);show _=_;kernel_rfl)) (all_cons (ao_ codOk (by kernel_rfl) (by (repeat intro _);show _=_;kernel_rfl) (fun k=>by (repeat intro _);show _=_;kernel_rfl)) (ab_)))
  (fun k=>by (repeat intro _);show _=_;kernel_rfl)
noncomputable def gn_ (k:Nat):aY_ K TyK:=sm cod (List ad_) [.bo, .bo] [.c (.l true .parcel), .c (.i .i64)] [] (eU_) k [.c (.o 0)] [.l .parcel] (fun r=>((),r,())) (fun v1=>v1) false
theorem hX_ (k:Nat):SummOk Tryz.prog cod 59 (gn_ k):=aF_ codOk Tryz.f59 (fun k=>av_ []) [] false [.tmp 4] 0 [] aG_ Tryz.func59 (by kernel_rfl) (by kernel_rfl) (by kernel_rfl) (by kernel_rfl)
  (fun k=>Known.of tok eok codOk (ab_))
  (fun k=>QuietOk.of (ab_))
  (fun a=>rfl)
  (ab_)
  (fun k=>by (repeat intro _);show _=_;kernel_rfl)
noncomputable def kg_ (k:Nat):aY_ K TyK:=sm cod (Int) [.bo] [.g [.i .i64, .l true .item]] [] (fun k v1 v2=>nh_ k (⟨v1,v2⟩:aj_)) k [.c (.i .i64)] [] (fun r=>(r,())) (fun v1=>v1) true
noncomputable abbrev qZ_:List (Nat×Cut K TyK (Int)):=[(2,ct cod [1,3] [.c (.r 0 0), .c (.i .i64)] [.x [.i .i64, .l true .item]] dl_)]
theorem o3_ (k:Nat):SummOk Tryz.prog cod 159 (kg_ k):=aF_ codOk Tryz.f159 (fun k=>av_ []) qZ_ false [.tmp 2] 0 [] aG_ Tryz.func159 (by kernel_rfl) (by kernel_rfl) (by kernel_rfl) (by kernel_rfl)
  (fun k=>Known.of tok eok codOk (ab_))
  (fun k=>QuietOk.of (ab_))
  (fun a=>rfl)
  (all_cons (ao_ codOk (by kernel_rfl) (by (repeat intro _);show _=_;kernel_rfl) (fun k=>by (repeat intro _);show _=_;kernel_rfl)) (ab_))
  (fun k=>by (repeat intro _);show _=_;kernel_rfl)
noncomputable def i5_ (k:Nat):aY_ K TyK:=sm cod (aj_) [.bo, .bo, .bo] [.g [.i .i64, .l true .item], .c (.i .i64), .c (.i .i64)] [] (fun k v1 v2 v3 v4=>fF_ k (⟨v1,v2⟩:aj_) v3 v4) k [.g [.i .i64, .o 0]] [.l .item] (fun r=>(r.Base,(),r.Items,())) (fun v1 v2=>(⟨v1,v2⟩:aj_)) false
noncomputable abbrev pu_:List (Nat×Cut K TyK (aj_)):=[(9,ct cod [2,6,7,8] [.c (.i .i64), .c (.r 0 0), .c (.r 1 0), .c (.i .i64)] [.x [.i .i64, .o 2], .x [.i .i64, .o 3], .l .item, .l .item] bq_),
  (13,ct cod [2,6,7,8] [.c (.i .i64), .c (.r 0 0), .c (.r 1 0), .c (.i .i64)] [.x [.i .i64, .o 2], .x [.i .i64, .o 3], .l .item, .l .item] be_)]
theorem nA_ (k:Nat):SummOk Tryz.prog cod 145 (i5_ k):=aF_ codOk Tryz.f145 (fun k=>av_ [(92,dK_ k),(137,fA_ k),(159,kg_ k),(28,bv_ k)]) pu_ false [.cell 6 59] 0 [] aG_ Tryz.func145 (by kernel_rfl) (by kernel_rfl) (by kernel_rfl) (by kernel_rfl)
  (fun k=>Known.of tok eok codOk (all_cons (eF_ k) (all_cons (f3_ k) (all_cons (o3_ k) (all_cons (bj_ k) (ab_))))))
  (fun k=>QuietOk.of (all_cons (fun h r=>⟨rfl,rfl⟩) (all_cons (fun h r=>by cases h) (all_cons (fun h r=>⟨rfl,rfl⟩) (all_cons (fun h r=>⟨rfl,rfl⟩) (ab_))))))
  (fun a=>rfl)
  (all_cons (ao_ codOk (by kernel_rfl) (by (repeat intro _);show _=_;kernel_rfl) (fun k=>by (repeat intro _);show _=_;kernel_rfl)) (all_cons (ao_ codOk (by kernel_rfl) (by (repeat intro _);show _=_;kernel_rfl) (fun k=>by (repeat intro _);show _=_;kernel_rfl)) (ab_)))
  (fun k=>by (repeat intro _);show _=_;kernel_rfl)
noncomputable def kJ_ (k:Nat):aY_ K TyK:=sm cod (ai_) [.mv] [.g [.i .i64, .o 0, .s, .o 1]] [.l .held, .l .str] (fun k v1 v2 v3 v4=>i0_ k (⟨v1,v3,v2,v4⟩:ai_)) k [.g [.i .i64, .o 2, .s, .o 3]] [.d, .d, .l .held, .l .str] (fun r=>(r.Next,(),r.Open,(),r.Held,r.Ready,())) (fun v1 v2 v3 v4=>(⟨v1,v3,v2,v4⟩:ai_)) false
noncomputable abbrev wC_:List (Nat×Cut K TyK (ai_)):=[(1,ct cod [1,2] [.c (.r 2 0), .c (.r 3 0)] [.d, .d, .x [.i .i64, .o 4, .s, .o 5], .x [.i .i64, .o 6, .s, .o 7], .l .held, .l .str, .l .held, .l .str] c0_)]
theorem m7_ (k:Nat):SummOk Tryz.prog cod 160 (kJ_ k):=aF_ codOk Tryz.f160 (fun k=>av_ [(140,i9_ k)]) wC_ false [.cell 2 63] 2 [true,true] aG_ Tryz.func160 (by kernel_rfl) (by kernel_rfl) (by kernel_rfl) (by kernel_rfl)
  (fun k=>Known.of tok eok codOk (all_cons (lO_ k) (ab_)))
  (fun k=>QuietOk.of (all_cons (fun h r=>⟨rfl,rfl⟩) (ab_)))
  (fun a=>rfl)
  (all_cons (ao_ codOk (by kernel_rfl) (by (repeat intro _);show _=_;kernel_rfl) (fun k=>by (repeat intro _);show _=_;kernel_rfl)) (ab_))
  (fun k=>by (repeat intro _);show _=_;kernel_rfl)
noncomputable def je_ (k:Nat):aY_ K TyK:=sm cod (ai_) [.bo, .bo, .bo] [.g [.i .i64, .l true .held, .s, .l true .str], .c (.i .i64), .g [.s, .b]] [] (fun k v1 v2 v3 v4 v5 v6 v7=>fm_ k (⟨v1,v2,v3,v4⟩:ai_) v5 (⟨v6,v7⟩:aA_)) k [.g [.i .i64, .o 0, .s, .o 1]] [.l .held, .l .str] (fun r=>(r.Next,(),r.Open,(),r.Held,r.Ready,())) (fun v1 v2 v3 v4=>(⟨v1,v3,v2,v4⟩:ai_)) false
noncomputable abbrev oP_:List (Nat×Cut K TyK (ai_)):=[(9,ct cod [1,3,5,6,7,8,9,10] [.c (.i .i64), .c (.r 0 0), .c (.r 1 0), .c (.r 2 0), .c (.r 3 0), .c (.o 4), .c (.b), .c (.i .i64)] [.x [.i .i64, .l true .held, .s, .l true .str], .x [.s, .b], .x [.i .i64, .o 5, .s, .o 6], .x [.i .i64, .o 7, .s, .o 8], .l .held, .l .held, .l .str, .l .held, .l .str] bp_),
  (16,ct cod [1,3,5,6,7,8,9,10] [.c (.i .i64), .c (.r 0 0), .c (.r 1 0), .c (.r 2 0), .c (.r 3 0), .c (.o 4), .c (.b), .c (.i .i64)] [.x [.i .i64, .l true .held, .s, .l true .str], .x [.s, .b], .x [.i .i64, .o 5, .s, .o 6], .x [.i .i64, .o 7, .s, .o 8], .l .held, .l .held, .l .str, .l .held, .l .str] bH_),
  (19,ct cod [6,7,8] [.c (.r 0 0), .c (.r 1 0), .c (.o 2)] [.x [.i .i64, .o 3, .s, .o 4], .x [.i .i64, .o 5, .s, .o 6], .l .held, .l .held, .l .str, .l .held, .l .str] dk_)]
theorem nM_ (k:Nat):SummOk Tryz.prog cod 146 (je_ k):=aF_ codOk Tryz.f146 (fun k=>av_ [(93,dL_ k),(138,gI_ k),(139,ix_ k),(160,kJ_ k)]) oP_ false [.cell 6 63] 0 [] aG_ Tryz.func146 (by kernel_rfl) (by kernel_rfl) (by kernel_rfl) (by kernel_rfl)
  (fun k=>Known.of tok eok codOk (all_cons (et_ k) (all_cons (hQ_ k) (all_cons (ke_ k) (all_cons (m7_ k) (ab_))))))
  (fun k=>QuietOk.of (all_cons (fun h r=>⟨rfl,rfl⟩) (all_cons (fun h r=>by cases h) (all_cons (fun h r=>⟨rfl,rfl⟩) (all_cons (fun h r=>by cases h) (ab_))))))
  (fun a=>rfl)
  (all_cons (ao_ codOk (by kernel_rfl) (by (repeat intro _);show _=_;kernel_rfl) (fun k=>by (repeat intro _);show _=_;kernel_rfl)) (all_cons (ao_ codOk (by kernel_rfl) (by (repeat intro _);show _=_;kernel_rfl) (fun k=>by (repeat intro _);show _=_;kernel_rfl)) (all_cons (ao_ codOk (by kernel_rfl) (by (repeat intro _);show _=_;kernel_rfl) (fun k=>by (repeat intro _);show _=_;kernel_rfl)) (ab_))))
  (fun k=>by (repeat intro _);show _=_;kernel_rfl)
noncomputable def kt_ (k:Nat):aY_ K TyK:=sm cod (ay_) [.bo, .bo] [.g [.i .i64, .b, .i .i64, .i .i64, .i .i64, .b, .i .i64, .l true .item, .i .i64, .l true .held, .s, .l true .str], .g [.i .i64, .i .i64, .i .i64, .i .i64, .i .i64, .i .i64, .i .i64, .b, .s]] [] (fun k v1 v2 v3 v4 v5 v6 v7 v8 v9 v10 v11 v12 v13 v14 v15 v16 v17 v18 v19 v20 v21=>ho_ k (⟨v1,v2,v3,v4,v5,v6,(⟨v7,v8⟩:aj_),(⟨v9,v10,v11,v12⟩:ai_)⟩:an_) (⟨v13,v14,v15,v16,v17,v18,v19,v20,v21⟩:ae_)) k [.g [.i .i64, .i .i64, .b, .i .i64, .i .i64, .i .i64, .b, .i .i64, .o 0, .i .i64, .o 1, .s, .o 2, .o 3, .s]] [.l .item, .l .held, .l .str, .l .packet] (fun r=>(r.Code,r.End.Number,r.End.Up,r.End.Life,r.End.Peer,r.End.Since,r.End.Owes,r.End.Send.Base,(),r.End.Take.Next,(),r.End.Take.Open,(),(),r.Text,r.End.Send.Items,r.End.Take.Held,r.End.Take.Ready,r.Out,())) (fun v1 v2 v3 v4 v5 v6 v7 v8 v9 v10 v11 v12 v13 v14 v15=>(⟨v1,(⟨v2,v3,v4,v5,v6,v7,(⟨v8,v12⟩:aj_),(⟨v9,v13,v10,v14⟩:ai_)⟩:an_),v15,v11⟩:ay_)) false
noncomputable abbrev qP_:List (Nat×Cut K TyK (ay_)):=[(11,ct cod [3,4,5] [.c (.r 0 0), .c (.r 1 0), .c (.r 2 0)] [.x [.i .i64, .i .i64, .i .i64, .i .i64, .i .i64, .i .i64, .i .i64, .b, .s], .x [.i .i64, .i .i64, .b, .i .i64, .i .i64, .i .i64, .b, .i .i64, .o 3, .i .i64, .o 4, .s, .o 5, .o 6, .s], .x [.i .i64, .b, .i .i64, .i .i64, .i .i64, .b, .i .i64, .o 7, .i .i64, .o 8, .s, .o 9], .l .item, .l .held, .l .str, .l .packet, .l .item, .l .held, .l .str] dE_)]
theorem o8_ (k:Nat):SummOk Tryz.prog cod 100 (kt_ k):=aF_ codOk Tryz.f100 (fun k=>av_ [(47,bZ_ k),(88,dq_ k),(118,k0_ k),(145,i5_ k),(146,je_ k)]) qP_ false [.cell 4 84] 0 [] aG_ Tryz.func100 (by kernel_rfl) (by kernel_rfl) (by kernel_rfl) (by kernel_rfl)
  (fun k=>Known.of tok eok codOk (all_cons (ci_ k) (all_cons (dQ_ k) (all_cons (m9_ k) (all_cons (nA_ k) (all_cons (nM_ k) (ab_)))))))
  (fun k=>QuietOk.of (all_cons (fun h r=>⟨rfl,rfl⟩) (all_cons (fun h r=>by cases h) (all_cons (fun h r=>⟨rfl,rfl⟩) (all_cons (fun h r=>by cases h) (all_cons (fun h r=>by cases h) (ab_)))))))
  (fun a=>rfl)
  (all_cons (ao_ codOk (by kernel_rfl) (by (repeat intro _);show _=_;kernel_rfl) (fun k=>by (repeat intro _);show _=_;kernel_rfl)) (ab_))
  (fun k=>by (repeat intro _);show _=_;kernel_rfl)
noncomputable def kA_ (k:Nat):aY_ K TyK:=sm cod (ac_) [.mv, .mv] [.g [.s, .i .i64, .o 0, .o 1, .s, .o 2, .o 3], .c (.i .i64)] [.l .end, .l .parcel, .l .record, .l .record] (fun k v1 v2 v3 v4 v5 v6 v7 v8=>hH_ k (⟨v1,v2,v5,v6,v3,v7,v8⟩:ac_) v4) k [.g [.s, .i .i64, .o 4, .o 5, .s, .o 6, .o 7]] [.d, .d, .d, .d, .l .end, .l .parcel, .l .record, .l .record] (fun r=>(r.Key,r.Width,(),(),r.Forged,(),(),r.Ends,r.Flight,r.Given,r.Taken,())) (fun v1 v2 v3 v4 v5 v6 v7=>(⟨v1,v2,v4,v5,v3,v6,v7⟩:ac_)) false
noncomputable abbrev qM_:List (Nat×Cut K TyK (ac_)):=[(8,ct cod [2,4,5,6] [.c (.r 4 0), .c (.r 5 0), .c (.r 6 0), .c (.r 7 0)] [.d, .d, .d, .d, .x [.s, .i .i64, .o 8, .o 9, .s, .o 10, .o 11], .x [.s, .i .i64, .o 12, .o 13, .s, .o 14, .o 15], .x [.i .i64, .s, .s], .x [.i .i64, .i .i64, .i .i64, .i .i64, .i .i64, .i .i64, .i .i64, .b, .s], .l .end, .l .parcel, .l .record, .l .record, .l .end, .l .parcel, .l .record, .l .record] dd_)]
theorem qu_ (k:Nat):SummOk Tryz.prog cod 58 (kA_ k):=aF_ codOk Tryz.f58 (fun k=>av_ [(59,gn_ k),(33,fN_ k),(100,kt_ k)]) qM_ false [.cell 4 29] 4 [true,true,true,true] aG_ Tryz.func58 (by kernel_rfl) (by kernel_rfl) (by kernel_rfl) (by kernel_rfl)
  (fun k=>Known.of tok eok codOk (all_cons (hX_ k) (all_cons (hL_ k) (all_cons (o8_ k) (ab_)))))
  (fun k=>QuietOk.of (all_cons (fun h r=>by cases h) (all_cons (fun h r=>⟨rfl,rfl⟩) (all_cons (fun h r=>by cases h) (ab_)))))
  (fun a=>rfl)
  (all_cons (ao_ codOk (by kernel_rfl) (by (repeat intro _);show _=_;kernel_rfl) (fun k=>by (repeat intro _);show _=_;kernel_rfl)) (ab_))
  (fun k=>by (repeat intro _);show _=_;kernel_rfl)
noncomputable def jq_ (k:Nat):aY_ K TyK:=sm cod (ac_) [.mv, .mv] [.g [.s, .i .i64, .o 0, .o 1, .s, .o 2, .o 3], .g [.i .i64, .i .i64, .i .i64, .i .i64, .s]] [.l .end, .l .parcel, .l .record, .l .record] (fun k v1 v2 v3 v4 v5 v6 v7 v8 v9 v10 v11 v12=>gx_ k (⟨v1,v2,v9,v10,v3,v11,v12⟩:ac_) (⟨v4,v5,v6,v7,v8⟩:as_)) k [.g [.s, .i .i64, .o 4, .o 5, .s, .o 6, .o 7]] [.d, .d, .d, .d, .l .end, .l .parcel, .l .record, .l .record] (fun r=>(r.Key,r.Width,(),(),r.Forged,(),(),r.Ends,r.Flight,r.Given,r.Taken,())) (fun v1 v2 v3 v4 v5 v6 v7=>(⟨v1,v2,v4,v5,v3,v6,v7⟩:ac_)) false
noncomputable abbrev pD_:List (Nat×Cut K TyK (ac_)):=[(11,ct cod [2,4] [.c (.r 4 0), .c (.r 5 0)] [.d, .d, .d, .d, .x [.s, .i .i64, .o 6, .o 7, .s, .o 8, .o 9], .x [.s, .i .i64, .o 10, .o 11, .s, .o 12, .o 13], .l .end, .l .parcel, .l .record, .l .record, .l .end, .l .parcel, .l .record, .l .record] dc_),
  (22,ct cod [2,3,4,5] [.c (.r 4 0), .c (.r 5 0), .c (.r 6 0), .c (.r 7 0)] [.d, .d, .d, .d, .x [.s, .i .i64, .o 8, .o 9, .s, .o 10, .o 11], .x [.i .i64, .i .i64, .i .i64, .i .i64, .s], .x [.s, .i .i64, .o 12, .o 13, .s, .o 14, .o 15], .x [.i .i64, .s, .s], .l .end, .l .parcel, .l .record, .l .record, .l .end, .l .parcel, .l .record, .l .record] aJ_)]
theorem ny_ (k:Nat):SummOk Tryz.prog cod 89 (jq_ k):=aF_ codOk Tryz.f89 (fun k=>av_ [(58,kA_ k),(59,gn_ k)]) pD_ false [.cell 4 29] 4 [true,true,true,true] aG_ Tryz.func89 (by kernel_rfl) (by kernel_rfl) (by kernel_rfl) (by kernel_rfl)
  (fun k=>Known.of tok eok codOk (all_cons (qu_ k) (all_cons (hX_ k) (ab_))))
  (fun k=>QuietOk.of (all_cons (fun h r=>by cases h) (all_cons (fun h r=>by cases h) (ab_))))
  (fun a=>rfl)
  (all_cons (ao_ codOk (by kernel_rfl) (by (repeat intro _);show _=_;kernel_rfl) (fun k=>by (repeat intro _);show _=_;kernel_rfl)) (all_cons (ao_ codOk (by kernel_rfl) (by (repeat intro _);show _=_;kernel_rfl) (fun k=>by (repeat intro _);show _=_;kernel_rfl)) (ab_)))
  (fun k=>by (repeat intro _);show _=_;kernel_rfl)
noncomputable def ki_ (k:Nat):aY_ K TyK:=sm cod (an_) [.bo] [.g [.i .i64, .b, .i .i64, .i .i64, .i .i64, .b, .i .i64, .l true .item, .i .i64, .l true .held, .s, .l true .str]] [] (fun k v1 v2 v3 v4 v5 v6 v7 v8 v9 v10 v11 v12=>hB_ k (⟨v1,v2,v3,v4,v5,v6,(⟨v7,v8⟩:aj_),(⟨v9,v10,v11,v12⟩:ai_)⟩:an_)) k [.g [.i .i64, .b, .i .i64, .i .i64, .i .i64, .b, .i .i64, .o 0, .i .i64, .o 1, .s, .o 2]] [.l .item, .l .held, .l .str] (fun r=>(r.Number,r.Up,r.Life,r.Peer,r.Since,r.Owes,r.Send.Base,(),r.Take.Next,(),r.Take.Open,(),r.Send.Items,r.Take.Held,r.Take.Ready,())) (fun v1 v2 v3 v4 v5 v6 v7 v8 v9 v10 v11 v12=>(⟨v1,v2,v3,v4,v5,v6,(⟨v7,v10⟩:aj_),(⟨v8,v11,v9,v12⟩:ai_)⟩:an_)) false
theorem oC_ (k:Nat):SummOk Tryz.prog cod 101 (ki_ k):=aF_ codOk Tryz.f101 (fun k=>av_ [(47,bZ_ k)]) [] false [.cell 2 65] 0 [] aG_ Tryz.func101 (by kernel_rfl) (by kernel_rfl) (by kernel_rfl) (by kernel_rfl)
  (fun k=>Known.of tok eok codOk (all_cons (ci_ k) (ab_)))
  (fun k=>QuietOk.of (all_cons (fun h r=>⟨rfl,rfl⟩) (ab_)))
  (fun a=>rfl)
  (ab_)
  (fun k=>by (repeat intro _);show _=_;kernel_rfl)
noncomputable def ka_ (k:Nat):aY_ K TyK:=sm cod (an_) [.bo] [.g [.i .i64, .b, .i .i64, .i .i64, .i .i64, .b, .i .i64, .l true .item, .i .i64, .l true .held, .s, .l true .str]] [] (fun k v1 v2 v3 v4 v5 v6 v7 v8 v9 v10 v11 v12=>hm_ k (⟨v1,v2,v3,v4,v5,v6,(⟨v7,v8⟩:aj_),(⟨v9,v10,v11,v12⟩:ai_)⟩:an_)) k [.g [.i .i64, .b, .i .i64, .i .i64, .i .i64, .b, .i .i64, .o 0, .i .i64, .o 1, .s, .o 2]] [.l .item, .l .held, .l .str] (fun r=>(r.Number,r.Up,r.Life,r.Peer,r.Since,r.Owes,r.Send.Base,(),r.Take.Next,(),r.Take.Open,(),r.Send.Items,r.Take.Held,r.Take.Ready,())) (fun v1 v2 v3 v4 v5 v6 v7 v8 v9 v10 v11 v12=>(⟨v1,v2,v3,v4,v5,v6,(⟨v7,v10⟩:aj_),(⟨v8,v11,v9,v12⟩:ai_)⟩:an_)) false
theorem qk_ (k:Nat):SummOk Tryz.prog cod 102 (ka_ k):=aF_ codOk Tryz.f102 (fun k=>av_ [(47,bZ_ k),(88,dq_ k)]) [] false [.cell 2 65] 0 [] aG_ Tryz.func102 (by kernel_rfl) (by kernel_rfl) (by kernel_rfl) (by kernel_rfl)
  (fun k=>Known.of tok eok codOk (all_cons (ci_ k) (all_cons (dQ_ k) (ab_))))
  (fun k=>QuietOk.of (all_cons (fun h r=>⟨rfl,rfl⟩) (all_cons (fun h r=>by cases h) (ab_))))
  (fun a=>rfl)
  (ab_)
  (fun k=>by (repeat intro _);show _=_;kernel_rfl)
noncomputable def rx_ (k:Nat):aY_ K TyK:=sm cod (List aA_) [.bo] [.c (.s)] [] (jV_) k [.c (.o 0)] [.l .part] (fun r=>((),r,())) (fun v1=>v1) false
noncomputable abbrev yU_:List (Nat×Cut K TyK (List aA_)):=[(4,ct cod [0,3] [.c (.s), .c (.o 0)] [.l .part] e8_)]
theorem vR_ (k:Nat):SummOk Tryz.prog cod 161 (rx_ k):=aF_ codOk Tryz.f161 (fun k=>av_ []) yU_ false [.tmp 2] 0 [] aG_ Tryz.func161 (by kernel_rfl) (by kernel_rfl) (by kernel_rfl) (by kernel_rfl)
  (fun k=>Known.of tok eok codOk (ab_))
  (fun k=>QuietOk.of (ab_))
  (fun a=>rfl)
  (all_cons (ao_ codOk (by kernel_rfl) (by (repeat intro _);show _=_;kernel_rfl) (fun k=>by (repeat intro _);show _=_;kernel_rfl)) (ab_))
  (fun k=>by (repeat intro _);show _=_;kernel_rfl)
noncomputable def i6_ (k:Nat):aY_ K TyK:=sm cod (aj_×Int) [.bo, .bo] [.g [.i .i64, .l true .item], .c (.s)] [] (fun k v1 v2 v3=>dB_ k (⟨v1,v2⟩:aj_) v3) k [.g [.i .i64, .o 0], .c (.i .i64)] [.l .item] (fun r=>(r.1.Base,(),r.2,r.1.Items,())) (fun v1 v2 v3=>((⟨v1,v3⟩:aj_),v2)) false
noncomputable abbrev qa_:List (Nat×Cut K TyK (aj_×Int)):=[(9,ct cod [4,6,8,9] [.c (.r 0 0), .c (.o 1), .c (.r 2 0), .c (.i .i64)] [.x [.i .i64, .o 3], .l .part, .x [.i .i64, .o 4], .l .item, .l .item] cQ_)]
theorem nE_ (k:Nat):SummOk Tryz.prog cod 147 (i6_ k):=aF_ codOk Tryz.f147 (fun k=>av_ [(92,dK_ k),(161,rx_ k),(137,fA_ k)]) qa_ false [.cell 4 59, .tmp 5] 0 [] aG_ Tryz.func147 (by kernel_rfl) (by kernel_rfl) (by kernel_rfl) (by kernel_rfl)
  (fun k=>Known.of tok eok codOk (all_cons (eF_ k) (all_cons (vR_ k) (all_cons (f3_ k) (ab_)))))
  (fun k=>QuietOk.of (all_cons (fun h r=>⟨rfl,rfl⟩) (all_cons (fun h r=>by cases h) (all_cons (fun h r=>by cases h) (ab_)))))
  (fun a=>rfl)
  (all_cons (ao_ codOk (by kernel_rfl) (by (repeat intro _);show _=_;kernel_rfl) (fun k=>by (repeat intro _);show _=_;kernel_rfl)) (ab_))
  (fun k=>by (repeat intro _);show _=_;kernel_rfl)
noncomputable def kx_ (k:Nat):aY_ K TyK:=sm cod (ay_) [.bo, .bo] [.g [.i .i64, .b, .i .i64, .i .i64, .i .i64, .b, .i .i64, .l true .item, .i .i64, .l true .held, .s, .l true .str], .c (.s)] [] (fun k v1 v2 v3 v4 v5 v6 v7 v8 v9 v10 v11 v12 v13=>hz_ k (⟨v1,v2,v3,v4,v5,v6,(⟨v7,v8⟩:aj_),(⟨v9,v10,v11,v12⟩:ai_)⟩:an_) v13) k [.g [.i .i64, .i .i64, .b, .i .i64, .i .i64, .i .i64, .b, .i .i64, .o 0, .i .i64, .o 1, .s, .o 2, .o 3, .s]] [.l .item, .l .held, .l .str, .l .packet] (fun r=>(r.Code,r.End.Number,r.End.Up,r.End.Life,r.End.Peer,r.End.Since,r.End.Owes,r.End.Send.Base,(),r.End.Take.Next,(),r.End.Take.Open,(),(),r.Text,r.End.Send.Items,r.End.Take.Held,r.End.Take.Ready,r.Out,())) (fun v1 v2 v3 v4 v5 v6 v7 v8 v9 v10 v11 v12 v13 v14 v15=>(⟨v1,(⟨v2,v3,v4,v5,v6,v7,(⟨v8,v12⟩:aj_),(⟨v9,v13,v10,v14⟩:ai_)⟩:an_),v15,v11⟩:ay_)) false
theorem pi_ (k:Nat):SummOk Tryz.prog cod 103 (kx_ k):=aF_ codOk Tryz.f103 (fun k=>av_ [(47,bZ_ k),(147,i6_ k),(88,dq_ k)]) [] false [.cell 4 84] 0 [] aG_ Tryz.func103 (by kernel_rfl) (by kernel_rfl) (by kernel_rfl) (by kernel_rfl)
  (fun k=>Known.of tok eok codOk (all_cons (ci_ k) (all_cons (nE_ k) (all_cons (dQ_ k) (ab_)))))
  (fun k=>QuietOk.of (all_cons (fun h r=>⟨rfl,rfl⟩) (all_cons (fun h r=>by cases h) (all_cons (fun h r=>by cases h) (ab_)))))
  (fun a=>rfl)
  (ab_)
  (fun k=>by (repeat intro _);show _=_;kernel_rfl)
noncomputable def iW_ (k:Nat):aY_ K TyK:=sm cod (ai_×ByteArray×Bool) [.bo] [.g [.i .i64, .l true .held, .s, .l true .str]] [] (fun k v1 v2 v3 v4=>fq_ k (⟨v1,v2,v3,v4⟩:ai_)) k [.g [.i .i64, .o 0, .s, .o 1], .c (.s), .c (.b)] [.l .held, .l .str] (fun r=>(r.1.Next,(),r.1.Open,(),r.2.1,r.2.2,r.1.Held,r.1.Ready,())) (fun v1 v2 v3 v4 v5 v6=>((⟨v1,v5,v2,v6⟩:ai_),v3,v4)) false
theorem nU_ (k:Nat):SummOk Tryz.prog cod 148 (iW_ k):=aF_ codOk Tryz.f148 (fun k=>av_ [(93,dL_ k),(138,gI_ k),(160,kJ_ k)]) [] false [.cell 2 63, .tmp 3, .tmp 4] 0 [] aG_ Tryz.func148 (by kernel_rfl) (by kernel_rfl) (by kernel_rfl) (by kernel_rfl)
  (fun k=>Known.of tok eok codOk (all_cons (et_ k) (all_cons (hQ_ k) (all_cons (m7_ k) (ab_)))))
  (fun k=>QuietOk.of (all_cons (fun h r=>⟨rfl,rfl⟩) (all_cons (fun h r=>by cases h) (all_cons (fun h r=>by cases h) (ab_)))))
  (fun a=>rfl)
  (ab_)
  (fun k=>by (repeat intro _);show _=_;kernel_rfl)
noncomputable def kn_ (k:Nat):aY_ K TyK:=sm cod (ay_) [.bo] [.g [.i .i64, .b, .i .i64, .i .i64, .i .i64, .b, .i .i64, .l true .item, .i .i64, .l true .held, .s, .l true .str]] [] (fun k v1 v2 v3 v4 v5 v6 v7 v8 v9 v10 v11 v12=>hq_ k (⟨v1,v2,v3,v4,v5,v6,(⟨v7,v8⟩:aj_),(⟨v9,v10,v11,v12⟩:ai_)⟩:an_)) k [.g [.i .i64, .i .i64, .b, .i .i64, .i .i64, .i .i64, .b, .i .i64, .o 0, .i .i64, .o 1, .s, .o 2, .o 3, .s]] [.l .item, .l .held, .l .str, .l .packet] (fun r=>(r.Code,r.End.Number,r.End.Up,r.End.Life,r.End.Peer,r.End.Since,r.End.Owes,r.End.Send.Base,(),r.End.Take.Next,(),r.End.Take.Open,(),(),r.Text,r.End.Send.Items,r.End.Take.Held,r.End.Take.Ready,r.Out,())) (fun v1 v2 v3 v4 v5 v6 v7 v8 v9 v10 v11 v12 v13 v14 v15=>(⟨v1,(⟨v2,v3,v4,v5,v6,v7,(⟨v8,v12⟩:aj_),(⟨v9,v13,v10,v14⟩:ai_)⟩:an_),v15,v11⟩:ay_)) false
theorem qm_ (k:Nat):SummOk Tryz.prog cod 104 (kn_ k):=aF_ codOk Tryz.f104 (fun k=>av_ [(47,bZ_ k),(148,iW_ k),(88,dq_ k)]) [] false [.cell 2 84] 0 [] aG_ Tryz.func104 (by kernel_rfl) (by kernel_rfl) (by kernel_rfl) (by kernel_rfl)
  (fun k=>Known.of tok eok codOk (all_cons (ci_ k) (all_cons (nU_ k) (all_cons (dQ_ k) (ab_)))))
  (fun k=>QuietOk.of (all_cons (fun h r=>⟨rfl,rfl⟩) (all_cons (fun h r=>by cases h) (all_cons (fun h r=>by cases h) (ab_)))))
  (fun a=>rfl)
  (ab_)
  (fun k=>by (repeat intro _);show _=_;kernel_rfl)
noncomputable def m0_ (k:Nat):aY_ K TyK:=sm cod (ac_) [.mv, .mv] [.g [.s, .i .i64, .o 0, .o 1, .s, .o 2, .o 3], .g [.i .i64, .i .i64, .i .i64, .i .i64, .s]] [.l .end, .l .parcel, .l .record, .l .record] (fun k v1 v2 v3 v4 v5 v6 v7 v8 v9 v10 v11 v12=>if_ k (⟨v1,v2,v9,v10,v3,v11,v12⟩:ac_) (⟨v4,v5,v6,v7,v8⟩:as_)) k [.g [.s, .i .i64, .o 4, .o 5, .s, .o 6, .o 7]] [.d, .d, .d, .d, .l .end, .l .parcel, .l .record, .l .record] (fun r=>(r.Key,r.Width,(),(),r.Forged,(),(),r.Ends,r.Flight,r.Given,r.Taken,())) (fun v1 v2 v3 v4 v5 v6 v7=>(⟨v1,v2,v4,v5,v3,v6,v7⟩:ac_)) false
noncomputable abbrev uZ_:List (Nat×Cut K TyK (ac_)):=[(18,ct cod [2,4] [.c (.r 4 0), .c (.r 5 0)] [.d, .d, .d, .d, .x [.s, .i .i64, .o 6, .o 7, .s, .o 8, .o 9], .x [.s, .i .i64, .o 10, .o 11, .s, .o 12, .o 13], .l .end, .l .parcel, .l .record, .l .record, .l .end, .l .parcel, .l .record, .l .record] bb_)]
theorem td_ (k:Nat):SummOk Tryz.prog cod 60 (m0_ k):=aF_ codOk Tryz.f60 (fun k=>av_ [(101,ki_ k),(102,ka_ k),(103,kx_ k),(104,kn_ k)]) uZ_ false [.cell 4 29] 4 [true,true,true,true] aG_ Tryz.func60 (by kernel_rfl) (by kernel_rfl) (by kernel_rfl) (by kernel_rfl)
  (fun k=>Known.of tok eok codOk (all_cons (oC_ k) (all_cons (qk_ k) (all_cons (pi_ k) (all_cons (qm_ k) (ab_))))))
  (fun k=>QuietOk.of (all_cons (fun h r=>by cases h) (all_cons (fun h r=>by cases h) (all_cons (fun h r=>by cases h) (all_cons (fun h r=>by cases h) (ab_))))))
  (fun a=>rfl)
  (all_cons (ao_ codOk (by kernel_rfl) (by (repeat intro _);show _=_;kernel_rfl) (fun k=>by (repeat intro _);show _=_;kernel_rfl)) (ab_))
  (fun k=>by (repeat intro _);show _=_;kernel_rfl)
noncomputable def oD_ (k:Nat):aY_ K TyK:=sm cod (ac_) [.mv, .mv] [.g [.s, .i .i64, .o 0, .o 1, .s, .o 2, .o 3], .g [.i .i64, .i .i64, .i .i64, .i .i64, .s]] [.l .end, .l .parcel, .l .record, .l .record] (fun k v1 v2 v3 v4 v5 v6 v7 v8 v9 v10 v11 v12=>ln_ k (⟨v1,v2,v9,v10,v3,v11,v12⟩:ac_) (⟨v4,v5,v6,v7,v8⟩:as_)) k [.g [.s, .i .i64, .o 4, .o 5, .s, .o 6, .o 7]] [.d, .d, .d, .d, .l .end, .l .parcel, .l .record, .l .record] (fun r=>(r.Key,r.Width,(),(),r.Forged,(),(),r.Ends,r.Flight,r.Given,r.Taken,())) (fun v1 v2 v3 v4 v5 v6 v7=>(⟨v1,v2,v4,v5,v3,v6,v7⟩:ac_)) false
theorem u9_ (k:Nat):SummOk Tryz.prog cod 44 (oD_ k):=aF_ codOk Tryz.f44 (fun k=>av_ [(56,lw_ k),(28,bv_ k),(89,jq_ k),(60,m0_ k)]) [] false [.cell 4 29] 4 [true,true,true,true] aG_ Tryz.func44 (by kernel_rfl) (by kernel_rfl) (by kernel_rfl) (by kernel_rfl)
  (fun k=>Known.of tok eok codOk (all_cons (q2_ k) (all_cons (bj_ k) (all_cons (ny_ k) (all_cons (td_ k) (ab_))))))
  (fun k=>QuietOk.of (all_cons (fun h r=>by cases h) (all_cons (fun h r=>⟨rfl,rfl⟩) (all_cons (fun h r=>by cases h) (all_cons (fun h r=>by cases h) (ab_))))))
  (fun a=>rfl)
  (ab_)
  (fun k=>by (repeat intro _);show _=_;kernel_rfl)
noncomputable def t1_ (k:Nat):aY_ K TyK:=sm cod (ac_) [.bo, .bo] [.g [.s, .i .i64, .l true .end, .l true .parcel, .s, .l true .record, .l true .record], .g [.i .i64, .i .i64, .i .i64, .i .i64, .s]] [] (fun k v1 v2 v3 v4 v5 v6 v7 v8 v9 v10 v11 v12=>qt_ k (⟨v1,v2,v3,v4,v5,v6,v7⟩:ac_) (⟨v8,v9,v10,v11,v12⟩:as_)) k [.g [.s, .i .i64, .o 0, .o 1, .s, .o 2, .o 3]] [.l .end, .l .parcel, .l .record, .l .record] (fun r=>(r.Key,r.Width,(),(),r.Forged,(),(),r.Ends,r.Flight,r.Given,r.Taken,())) (fun v1 v2 v3 v4 v5 v6 v7=>(⟨v1,v2,v4,v5,v3,v6,v7⟩:ac_)) false
theorem yN_ (k:Nat):SummOk Tryz.prog cod 12 (t1_ k):=aF_ codOk Tryz.f12 (fun k=>av_ [(14,de_ k),(43,lv_ k),(44,oD_ k)]) [] false [.cell 4 29] 0 [] aG_ Tryz.func12 (by kernel_rfl) (by kernel_rfl) (by kernel_rfl) (by kernel_rfl)
  (fun k=>Known.of tok eok codOk (all_cons (d2_ k) (all_cons (qW_ k) (all_cons (u9_ k) (ab_)))))
  (fun k=>QuietOk.of (all_cons (fun h r=>⟨rfl,rfl⟩) (all_cons (fun h r=>by cases h) (all_cons (fun h r=>by cases h) (ab_)))))
  (fun a=>rfl)
  (ab_)
  (fun k=>by (repeat intro _);show _=_;kernel_rfl)
noncomputable def iV_ (k:Nat):aY_ K TyK:=sm cod (Bool) [.bo, .bo] [.c (.l true .record), .c (.l true .record)] [] (fz_) k [.c (.b)] [] (fun r=>(r,())) (fun v1=>v1) true
noncomputable abbrev p1_:List (Nat×Cut K TyK (Bool)):=[(4,ct cod [0,1,5] [.c (.l true .record), .c (.l true .record), .c (.i .i64)] [] cI_)]
theorem n0_ (k:Nat):SummOk Tryz.prog cod 45 (iV_ k):=aF_ codOk Tryz.f45 (fun k=>av_ []) p1_ false [.tmp 4] 0 [] aG_ Tryz.func45 (by kernel_rfl) (by kernel_rfl) (by kernel_rfl) (by kernel_rfl)
  (fun k=>Known.of tok eok codOk (ab_))
  (fun k=>QuietOk.of (ab_))
  (fun a=>rfl)
  (all_cons (ao_ codOk (by kernel_rfl) (by (repeat intro _);show _=_;kernel_rfl) (fun k=>by (repeat intro _);show _=_;kernel_rfl)) (ab_))
  (fun k=>by (repeat intro _);show _=_;kernel_rfl)
noncomputable def nr_ (k:Nat):aY_ K TyK:=sm cod (Bool) [.bo, .bo] [.g [.i .i64, .l true .item], .g [.i .i64, .l true .item]] [] (fun k v1 v2 v3 v4=>jW_ k (⟨v1,v2⟩:aj_) (⟨v3,v4⟩:aj_)) k [.c (.b)] [] (fun r=>(r,())) (fun v1=>v1) true
noncomputable abbrev ub_:List (Nat×Cut K TyK (Bool)):=[(4,ct cod [2,3,5] [.c (.r 0 0), .c (.r 1 0), .c (.i .i64)] [.x [.i .i64, .l true .item], .x [.i .i64, .l true .item]] ez_)]
theorem sb_ (k:Nat):SummOk Tryz.prog cod 90 (nr_ k):=aF_ codOk Tryz.f90 (fun k=>av_ []) ub_ false [.tmp 4] 0 [] aG_ Tryz.func90 (by kernel_rfl) (by kernel_rfl) (by kernel_rfl) (by kernel_rfl)
  (fun k=>Known.of tok eok codOk (ab_))
  (fun k=>QuietOk.of (ab_))
  (fun a=>rfl)
  (all_cons (ao_ codOk (by kernel_rfl) (by (repeat intro _);show _=_;kernel_rfl) (fun k=>by (repeat intro _);show _=_;kernel_rfl)) (ab_))
  (fun k=>by (repeat intro _);show _=_;kernel_rfl)
noncomputable def iu_ (k:Nat):aY_ K TyK:=sm cod (Bool) [.bo, .bo] [.c (.l true .str), .c (.l true .str)] [] (g8_) k [.c (.b)] [] (fun r=>(r,())) (fun v1=>v1) true
noncomputable abbrev sN_:List (Nat×Cut K TyK (Bool)):=[(4,ct cod [0,1,5] [.c (.l true .str), .c (.l true .str), .c (.i .i64)] [] dP_)]
theorem kl_ (k:Nat):SummOk Tryz.prog cod 51 (iu_ k):=aF_ codOk Tryz.f51 (fun k=>av_ []) sN_ false [.tmp 4] 0 [] aG_ Tryz.func51 (by kernel_rfl) (by kernel_rfl) (by kernel_rfl) (by kernel_rfl)
  (fun k=>Known.of tok eok codOk (ab_))
  (fun k=>QuietOk.of (ab_))
  (fun a=>rfl)
  (all_cons (ao_ codOk (by kernel_rfl) (by (repeat intro _);show _=_;kernel_rfl) (fun k=>by (repeat intro _);show _=_;kernel_rfl)) (ab_))
  (fun k=>by (repeat intro _);show _=_;kernel_rfl)
noncomputable def m4_ (k:Nat):aY_ K TyK:=sm cod (Bool) [.bo, .bo] [.g [.i .i64, .l true .held, .s, .l true .str], .g [.i .i64, .l true .held, .s, .l true .str]] [] (fun k v1 v2 v3 v4 v5 v6 v7 v8=>j5_ k (⟨v1,v2,v3,v4⟩:ai_) (⟨v5,v6,v7,v8⟩:ai_)) k [.c (.b)] [] (fun r=>(r,())) (fun v1=>v1) true
noncomputable abbrev uK_:List (Nat×Cut K TyK (Bool)):=[(4,ct cod [2,3,5] [.c (.r 0 0), .c (.r 1 0), .c (.i .i64)] [.x [.i .i64, .l true .held, .s, .l true .str], .x [.i .i64, .l true .held, .s, .l true .str]] ew_)]
theorem sn_ (k:Nat):SummOk Tryz.prog cod 91 (m4_ k):=aF_ codOk Tryz.f91 (fun k=>av_ [(51,iu_ k)]) uK_ false [.tmp 4] 0 [] aG_ Tryz.func91 (by kernel_rfl) (by kernel_rfl) (by kernel_rfl) (by kernel_rfl)
  (fun k=>Known.of tok eok codOk (all_cons (kl_ k) (ab_)))
  (fun k=>QuietOk.of (all_cons (fun h r=>⟨rfl,rfl⟩) (ab_)))
  (fun a=>rfl)
  (all_cons (ao_ codOk (by kernel_rfl) (by (repeat intro _);show _=_;kernel_rfl) (fun k=>by (repeat intro _);show _=_;kernel_rfl)) (ab_))
  (fun k=>by (repeat intro _);show _=_;kernel_rfl)
noncomputable def pm_ (k:Nat):aY_ K TyK:=sm cod (Bool) [.bo, .bo] [.g [.i .i64, .b, .i .i64, .i .i64, .i .i64, .b, .i .i64, .l true .item, .i .i64, .l true .held, .s, .l true .str], .g [.i .i64, .b, .i .i64, .i .i64, .i .i64, .b, .i .i64, .l true .item, .i .i64, .l true .held, .s, .l true .str]] [] (fun k v1 v2 v3 v4 v5 v6 v7 v8 v9 v10 v11 v12 v13 v14 v15 v16 v17 v18 v19 v20 v21 v22 v23 v24=>lG_ k (⟨v1,v2,v3,v4,v5,v6,(⟨v7,v8⟩:aj_),(⟨v9,v10,v11,v12⟩:ai_)⟩:an_) (⟨v13,v14,v15,v16,v17,v18,(⟨v19,v20⟩:aj_),(⟨v21,v22,v23,v24⟩:ai_)⟩:an_)) k [.c (.b)] [] (fun r=>(r,())) (fun v1=>v1) true
theorem u8_ (k:Nat):SummOk Tryz.prog cod 46 (pm_ k):=aF_ codOk Tryz.f46 (fun k=>av_ [(90,nr_ k),(91,m4_ k)]) [] false [.tmp 4] 0 [] aG_ Tryz.func46 (by kernel_rfl) (by kernel_rfl) (by kernel_rfl) (by kernel_rfl)
  (fun k=>Known.of tok eok codOk (all_cons (sb_ k) (all_cons (sn_ k) (ab_))))
  (fun k=>QuietOk.of (all_cons (fun h r=>⟨rfl,rfl⟩) (all_cons (fun h r=>⟨rfl,rfl⟩) (ab_))))
  (fun a=>rfl)
  (ab_)
  (fun k=>by (repeat intro _);show _=_;kernel_rfl)
noncomputable def l5_ (k:Nat):aY_ K TyK:=sm cod (Bool) [.bo, .bo] [.g [.s, .i .i64, .l true .end, .l true .parcel, .s, .l true .record, .l true .record], .g [.s, .i .i64, .l true .end, .l true .parcel, .s, .l true .record, .l true .record]] [] (fun k v1 v2 v3 v4 v5 v6 v7 v8 v9 v10 v11 v12 v13 v14=>gO_ k (⟨v1,v2,v3,v4,v5,v6,v7⟩:ac_) (⟨v8,v9,v10,v11,v12,v13,v14⟩:ac_)) k [.c (.b)] [] (fun r=>(r,())) (fun v1=>v1) true
noncomputable abbrev sK_:List (Nat×Cut K TyK (Bool)):=[(4,ct cod [2,3,5] [.c (.r 0 0), .c (.r 1 0), .c (.i .i64)] [.x [.s, .i .i64, .l true .end, .l true .parcel, .s, .l true .record, .l true .record], .x [.s, .i .i64, .l true .end, .l true .parcel, .s, .l true .record, .l true .record]] dU_),
  (9,ct cod [2,3,6] [.c (.r 0 0), .c (.r 1 0), .c (.i .i64)] [.x [.s, .i .i64, .l true .end, .l true .parcel, .s, .l true .record, .l true .record], .x [.s, .i .i64, .l true .end, .l true .parcel, .s, .l true .record, .l true .record]] dR_)]
theorem qY_ (k:Nat):SummOk Tryz.prog cod 13 (l5_ k):=aF_ codOk Tryz.f13 (fun k=>av_ [(45,iV_ k),(46,pm_ k)]) sK_ false [.tmp 4] 0 [] aG_ Tryz.func13 (by kernel_rfl) (by kernel_rfl) (by kernel_rfl) (by kernel_rfl)
  (fun k=>Known.of tok eok codOk (all_cons (n0_ k) (all_cons (u8_ k) (ab_))))
  (fun k=>QuietOk.of (all_cons (fun h r=>⟨rfl,rfl⟩) (all_cons (fun h r=>⟨rfl,rfl⟩) (ab_))))
  (fun a=>rfl)
  (all_cons (ao_ codOk (by kernel_rfl) (by (repeat intro _);show _=_;kernel_rfl) (fun k=>by (repeat intro _);show _=_;kernel_rfl)) (all_cons (ao_ codOk (by kernel_rfl) (by (repeat intro _);show _=_;kernel_rfl) (fun k=>by (repeat intro _);show _=_;kernel_rfl)) (ab_)))
  (fun k=>by (repeat intro _);show _=_;kernel_rfl)
noncomputable def jI_ (k:Nat):aY_ K TyK:=sm cod (Bool) [.bo] [.g [.s, .i .i64, .l true .end, .l true .parcel, .s, .l true .record, .l true .record]] [] (fun k v1 v2 v3 v4 v5 v6 v7=>ie_ k (⟨v1,v2,v3,v4,v5,v6,v7⟩:ac_)) k [.c (.b)] [] (fun r=>(r,())) (fun v1=>v1) true
noncomputable abbrev uQ_:List (Nat×Cut K TyK (Bool)):=[(5,ct cod [1,3,16,17,18] [.c (.r 0 0), .c (.m 1), .c (.l true .record), .c (.i .i64), .c (.i .i64)] [.x [.s, .i .i64, .l true .end, .l true .parcel, .s, .l true .record, .l true .record], .m .pair .lstr] cX_),
  (12,ct cod [3,7,41,42,43] [.c (.m 0), .c (.m 1), .c (.l true .record), .c (.i .i64), .c (.i .i64)] [.m .pair .lstr, .m .pair .int] aO_),
  (17,ct cod [3,7,10,41,42,43] [.c (.m 0), .c (.m 1), .c (.r 2 0), .c (.l true .record), .c (.i .i64), .c (.i .i64)] [.m .pair .lstr, .m .pair .int, .x [.i .i64, .i .i64, .i .i64]] a0_)]
theorem ll_ (k:Nat):SummOk Tryz.prog cod 15 (jI_ k):=aF_ codOk Tryz.f15 (fun k=>av_ [(34,dj_ k)]) uQ_ false [.tmp 2] 0 [] aG_ Tryz.func15 (by kernel_rfl) (by kernel_rfl) (by kernel_rfl) (by kernel_rfl)
  (fun k=>Known.of tok eok codOk (all_cons (d3_ k) (ab_)))
  (fun k=>QuietOk.of (all_cons (fun h r=>⟨rfl,rfl⟩) (ab_)))
  (fun a=>rfl)
  (all_cons (ao_ codOk (by kernel_rfl) (by (repeat intro _);show _=_;kernel_rfl) (fun k=>by (repeat intro _);show _=_;kernel_rfl)) (all_cons (ao_ codOk (by kernel_rfl) (by (repeat intro _);show _=_;kernel_rfl) (fun k=>by (repeat intro _);show _=_;kernel_rfl)) (all_cons (ao_ codOk (by kernel_rfl) (by (repeat intro _);show _=_;kernel_rfl) (fun k=>by (repeat intro _);show _=_;kernel_rfl)) (ab_))))
  (fun k=>by (repeat intro _);show _=_;kernel_rfl)
noncomputable def pw_ (k:Nat):aY_ K TyK:=sm cod (ac_) [.bo, .bo, .bo] [.g [.s, .i .i64, .l true .end, .l true .parcel, .s, .l true .record, .l true .record], .c (.i .i64), .c (.i .i64)] [] (fun k v1 v2 v3 v4 v5 v6 v7 v8 v9=>lF_ k (⟨v1,v2,v3,v4,v5,v6,v7⟩:ac_) v8 v9) k [.g [.s, .i .i64, .o 0, .o 1, .s, .o 2, .o 3]] [.l .end, .l .parcel, .l .record, .l .record] (fun r=>(r.Key,r.Width,(),(),r.Forged,(),(),r.Ends,r.Flight,r.Given,r.Taken,())) (fun v1 v2 v3 v4 v5 v6 v7=>(⟨v1,v2,v4,v5,v3,v6,v7⟩:ac_)) false
noncomputable abbrev wi_:List (Nat×Cut K TyK (ac_)):=[(7,ct cod [1,2,6,7,8] [.c (.i .i64), .c (.i .i64), .c (.r 0 0), .c (.r 1 0), .c (.m 2)] [.x [.s, .i .i64, .o 3, .o 4, .s, .o 5, .o 6], .x [.s, .i .i64, .o 7, .o 8, .s, .o 9, .o 10], .m .key .int, .l .end, .l .parcel, .l .record, .l .record, .l .end, .l .parcel, .l .record, .l .record] do_),
  (13,ct cod [1,2,6,7,8,40,41,42] [.c (.i .i64), .c (.i .i64), .c (.r 0 0), .c (.r 1 0), .c (.m 2), .c (.o 3), .c (.i .i64), .c (.i .i64)] [.x [.s, .i .i64, .o 4, .o 5, .s, .o 6, .o 7], .x [.s, .i .i64, .o 8, .o 9, .s, .o 10, .o 11], .m .key .int, .l .parcel, .l .end, .l .parcel, .l .record, .l .record, .l .end, .l .parcel, .l .record, .l .record] dr_),
  (17,ct cod [1,2,6,7,8,11,12,40,41,42] [.c (.i .i64), .c (.i .i64), .c (.r 0 0), .c (.r 1 0), .c (.m 2), .c (.r 3 0), .c (.r 4 0), .c (.o 5), .c (.i .i64), .c (.i .i64)] [.x [.s, .i .i64, .o 6, .o 7, .s, .o 8, .o 9], .x [.s, .i .i64, .o 10, .o 11, .s, .o 12, .o 13], .m .key .int, .x [.i .i64, .s, .s], .x [.i .i64, .s], .l .parcel, .l .end, .l .parcel, .l .record, .l .record, .l .end, .l .parcel, .l .record, .l .record] br_),
  (21,ct cod [1,2,6,7,8,13] [.c (.i .i64), .c (.i .i64), .c (.r 0 0), .c (.r 1 0), .c (.m 2), .c (.i .i64)] [.x [.s, .i .i64, .o 3, .o 4, .s, .o 5, .o 6], .x [.s, .i .i64, .o 7, .o 8, .s, .o 9, .o 10], .m .key .int, .l .end, .l .parcel, .l .record, .l .record, .l .end, .l .parcel, .l .record, .l .record] ck_),
  (19,ct cod [1,2,6,7,8,40,41,42] [.c (.i .i64), .c (.i .i64), .c (.r 0 0), .c (.r 1 0), .c (.m 2), .c (.o 3), .c (.i .i64), .c (.i .i64)] [.x [.s, .i .i64, .o 4, .o 5, .s, .o 6, .o 7], .x [.s, .i .i64, .o 8, .o 9, .s, .o 10, .o 11], .m .key .int, .l .parcel, .l .end, .l .parcel, .l .record, .l .record, .l .end, .l .parcel, .l .record, .l .record] ds_),
  (24,ct cod [1,2,6,7,8,13,14] [.c (.i .i64), .c (.i .i64), .c (.r 0 0), .c (.r 1 0), .c (.m 2), .c (.i .i64), .c (.i .i64)] [.x [.s, .i .i64, .o 3, .o 4, .s, .o 5, .o 6], .x [.s, .i .i64, .o 7, .o 8, .s, .o 9, .o 10], .m .key .int, .l .end, .l .parcel, .l .record, .l .record, .l .end, .l .parcel, .l .record, .l .record] ev_)]
theorem tM_ (k:Nat):SummOk Tryz.prog cod 20 (pw_ k):=aF_ codOk Tryz.f20 (fun k=>av_ [(34,dj_ k),(35,gl_ k),(36,fY_ k),(37,fs_ k),(42,fS_ k)]) wi_ false [.cell 6 29] 0 [] aG_ Tryz.func20 (by kernel_rfl) (by kernel_rfl) (by kernel_rfl) (by kernel_rfl)
  (fun k=>Known.of tok eok codOk (all_cons (d3_ k) (all_cons (h6_ k) (all_cons (hj_ k) (all_cons (g1_ k) (all_cons (hr_ k) (ab_)))))))
  (fun k=>QuietOk.of (all_cons (fun h r=>⟨rfl,rfl⟩) (all_cons (fun h r=>by cases h) (all_cons (fun h r=>by cases h) (all_cons (fun h r=>by cases h) (all_cons (fun h r=>by cases h) (ab_)))))))
  (fun a=>rfl)
  (all_cons (ao_ codOk (by kernel_rfl) (by (repeat intro _);show _=_;kernel_rfl) (fun k=>by (repeat intro _);show _=_;kernel_rfl)) (all_cons (ao_ codOk (by kernel_rfl) (by (repeat intro _);show _=_;kernel_rfl) (fun k=>by (repeat intro _);show _=_;kernel_rfl)) (all_cons (ao_ codOk (by kernel_rfl) (by (repeat intro _);show _=_;kernel_rfl) (fun k=>by (repeat intro _);show _=_;kernel_rfl)) (all_cons (ao_ codOk (by kernel_rfl) (by (repeat intro _);show _=_;kernel_rfl) (fun k=>by (repeat intro _);show _=_;kernel_rfl)) (all_cons (ao_ codOk (by kernel_rfl) (by (repeat intro _);show _=_;kernel_rfl) (fun k=>by (repeat intro _);show _=_;kernel_rfl)) (all_cons (ao_ codOk (by kernel_rfl) (by (repeat intro _);show _=_;kernel_rfl) (fun k=>by (repeat intro _);show _=_;kernel_rfl)) (ab_)))))))
  (fun k=>by (repeat intro _);show _=_;kernel_rfl)
noncomputable def oW_ (k:Nat):aY_ K TyK:=sm cod (Bool) [.bo] [.g [.s, .i .i64, .l true .end, .l true .parcel, .s, .l true .record, .l true .record]] [] (fun k v1 v2 v3 v4 v5 v6 v7=>l0_ k (⟨v1,v2,v3,v4,v5,v6,v7⟩:ac_)) k [.c (.b)] [] (fun r=>(r,())) (fun v1=>v1) true
noncomputable abbrev wr_:List (Nat×Cut K TyK (Bool)):=[(4,ct cod [1,9,10,11] [.c (.r 0 0), .c (.l true .end), .c (.i .i64), .c (.i .i64)] [.x [.s, .i .i64, .l true .end, .l true .parcel, .s, .l true .record, .l true .record]] fd_)]
theorem tE_ (k:Nat):SummOk Tryz.prog cod 49 (oW_ k):=aF_ codOk Tryz.f49 (fun k=>av_ [(34,dj_ k)]) wr_ false [.tmp 2] 0 [] aG_ Tryz.func49 (by kernel_rfl) (by kernel_rfl) (by kernel_rfl) (by kernel_rfl)
  (fun k=>Known.of tok eok codOk (all_cons (d3_ k) (ab_)))
  (fun k=>QuietOk.of (all_cons (fun h r=>⟨rfl,rfl⟩) (ab_)))
  (fun a=>rfl)
  (all_cons (ao_ codOk (by kernel_rfl) (by (repeat intro _);show _=_;kernel_rfl) (fun k=>by (repeat intro _);show _=_;kernel_rfl)) (ab_))
  (fun k=>by (repeat intro _);show _=_;kernel_rfl)
noncomputable def nf_ (k:Nat):aY_ K TyK:=sm cod (Bool) [.bo] [.g [.s, .i .i64, .l true .end, .l true .parcel, .s, .l true .record, .l true .record]] [] (fun k v1 v2 v3 v4 v5 v6 v7=>j1_ k (⟨v1,v2,v3,v4,v5,v6,v7⟩:ac_)) k [.c (.b)] [] (fun r=>(r,())) (fun v1=>v1) true
noncomputable abbrev um_:List (Nat×Cut K TyK (Bool)):=[(4,ct cod [1,3] [.c (.r 0 0), .c (.i .i64)] [.x [.s, .i .i64, .l true .end, .l true .parcel, .s, .l true .record, .l true .record]] du_),
  (9,ct cod [1,3,4,5,6] [.c (.r 0 0), .c (.i .i64), .c (.r 1 0), .c (.i .i64), .c (.i .i64)] [.x [.s, .i .i64, .l true .end, .l true .parcel, .s, .l true .record, .l true .record], .x [.i .i64, .i .i64, .i .i64, .s]] eq_),
  (10,ct cod [1,3,4,5,6] [.c (.r 0 0), .c (.i .i64), .c (.r 1 0), .c (.i .i64), .c (.i .i64)] [.x [.s, .i .i64, .l true .end, .l true .parcel, .s, .l true .record, .l true .record], .x [.i .i64, .i .i64, .i .i64, .s]] cp_),
  (15,ct cod [1,3,4,5,7,8] [.c (.r 0 0), .c (.i .i64), .c (.r 1 0), .c (.i .i64), .c (.b), .c (.i .i64)] [.x [.s, .i .i64, .l true .end, .l true .parcel, .s, .l true .record, .l true .record], .x [.i .i64, .i .i64, .i .i64, .s]] c4_),
  (16,ct cod [1,3,4,5,7,8] [.c (.r 0 0), .c (.i .i64), .c (.r 1 0), .c (.i .i64), .c (.b), .c (.i .i64)] [.x [.s, .i .i64, .l true .end, .l true .parcel, .s, .l true .record, .l true .record], .x [.i .i64, .i .i64, .i .i64, .s]] bC_)]
theorem sO_ (k:Nat):SummOk Tryz.prog cod 50 (nf_ k):=aF_ codOk Tryz.f50 (fun k=>av_ [(14,de_ k)]) um_ false [.tmp 2] 0 [] aG_ Tryz.func50 (by kernel_rfl) (by kernel_rfl) (by kernel_rfl) (by kernel_rfl)
  (fun k=>Known.of tok eok codOk (all_cons (d2_ k) (ab_)))
  (fun k=>QuietOk.of (all_cons (fun h r=>⟨rfl,rfl⟩) (ab_)))
  (fun a=>rfl)
  (all_cons (ao_ codOk (by kernel_rfl) (by (repeat intro _);show _=_;kernel_rfl) (fun k=>by (repeat intro _);show _=_;kernel_rfl)) (all_cons (ao_ codOk (by kernel_rfl) (by (repeat intro _);show _=_;kernel_rfl) (fun k=>by (repeat intro _);show _=_;kernel_rfl)) (all_cons (ao_ codOk (by kernel_rfl) (by (repeat intro _);show _=_;kernel_rfl) (fun k=>by (repeat intro _);show _=_;kernel_rfl)) (all_cons (ao_ codOk (by kernel_rfl) (by (repeat intro _);show _=_;kernel_rfl) (fun k=>by (repeat intro _);show _=_;kernel_rfl)) (all_cons (ao_ codOk (by kernel_rfl) (by (repeat intro _);show _=_;kernel_rfl) (fun k=>by (repeat intro _);show _=_;kernel_rfl)) (ab_))))))
  (fun k=>by (repeat intro _);show _=_;kernel_rfl)
noncomputable def ni_ (k:Nat):aY_ K TyK:=sm cod (List ByteArray) [.bo, .bo, .bo, .bo] [.c (.l true .record), .c (.i .i64), .c (.i .i64), .c (.i .i64)] [] (h1_) k [.c (.o 0)] [.l .str] (fun r=>((),r,())) (fun v1=>v1) false
noncomputable abbrev t8_:List (Nat×Cut K TyK (List ByteArray)):=[(3,ct cod [0,1,2,3,9,10] [.c (.l true .record), .c (.i .i64), .c (.i .i64), .c (.i .i64), .c (.o 0), .c (.i .i64)] [.l .str] eC_),
  (4,ct cod [0,1,2,3,9,10] [.c (.l true .record), .c (.i .i64), .c (.i .i64), .c (.i .i64), .c (.o 0), .c (.i .i64)] [.l .str] dA_)]
theorem tc_ (k:Nat):SummOk Tryz.prog cod 52 (ni_ k):=aF_ codOk Tryz.f52 (fun k=>av_ []) t8_ false [.tmp 8] 0 [] aG_ Tryz.func52 (by kernel_rfl) (by kernel_rfl) (by kernel_rfl) (by kernel_rfl)
  (fun k=>Known.of tok eok codOk (ab_))
  (fun k=>QuietOk.of (ab_))
  (fun a=>rfl)
  (all_cons (ao_ codOk (by kernel_rfl) (by (repeat intro _);show _=_;kernel_rfl) (fun k=>by (repeat intro _);show _=_;kernel_rfl)) (all_cons (ao_ codOk (by kernel_rfl) (by (repeat intro _);show _=_;kernel_rfl) (fun k=>by (repeat intro _);show _=_;kernel_rfl)) (ab_)))
  (fun k=>by (repeat intro _);show _=_;kernel_rfl)
noncomputable def m3_ (k:Nat):aY_ K TyK:=sm cod (Bool) [.bo, .bo] [.g [.s, .i .i64, .l true .end, .l true .parcel, .s, .l true .record, .l true .record], .c (.i .i64)] [] (fun k v1 v2 v3 v4 v5 v6 v7 v8=>jY_ k (⟨v1,v2,v3,v4,v5,v6,v7⟩:ac_) v8) k [.c (.b)] [] (fun r=>(r,())) (fun v1=>v1) true
noncomputable abbrev uy_:List (Nat×Cut K TyK (Bool)):=[(9,ct cod [1,2,6] [.c (.i .i64), .c (.r 0 0), .c (.i .i64)] [.x [.s, .i .i64, .l true .end, .l true .parcel, .s, .l true .record, .l true .record]] fr_),
  (15,ct cod [7,8] [.c (.r 0 0), .c (.i .i64)] [.x [.s, .i .i64, .o 1, .o 2, .s, .o 3, .o 4], .l .end, .l .parcel, .l .record, .l .record] cn_)]
theorem sW_ (k:Nat):SummOk Tryz.prog cod 16 (m3_ k):=aF_ codOk Tryz.f16 (fun k=>av_ [(14,de_ k),(20,pw_ k),(49,oW_ k),(15,jI_ k),(50,nf_ k),(52,ni_ k),(51,iu_ k)]) uy_ false [.tmp 4] 0 [] aG_ Tryz.func16 (by kernel_rfl) (by kernel_rfl) (by kernel_rfl) (by kernel_rfl)
  (fun k=>Known.of tok eok codOk (all_cons (d2_ k) (all_cons (tM_ k) (all_cons (tE_ k) (all_cons (ll_ k) (all_cons (sO_ k) (all_cons (tc_ k) (all_cons (kl_ k) (ab_)))))))))
  (fun k=>QuietOk.of (all_cons (fun h r=>⟨rfl,rfl⟩) (all_cons (fun h r=>by cases h) (all_cons (fun h r=>⟨rfl,rfl⟩) (all_cons (fun h r=>⟨rfl,rfl⟩) (all_cons (fun h r=>⟨rfl,rfl⟩) (all_cons (fun h r=>by cases h) (all_cons (fun h r=>⟨rfl,rfl⟩) (ab_)))))))))
  (fun a=>rfl)
  (all_cons (ao_ codOk (by kernel_rfl) (by (repeat intro _);show _=_;kernel_rfl) (fun k=>by (repeat intro _);show _=_;kernel_rfl)) (all_cons (ao_ codOk (by kernel_rfl) (by (repeat intro _);show _=_;kernel_rfl) (fun k=>by (repeat intro _);show _=_;kernel_rfl)) (ab_)))
  (fun k=>by (repeat intro _);show _=_;kernel_rfl)
noncomputable def uz_ (k:Nat):aY_ K TyK:=sm cod (Bool) [.pe, .pe] [.c (.l false .byte), .c (.l false .byte)] [] (mK_) k [.c (.b)] [] (fun r=>(r,())) (fun v1=>v1) true
noncomputable abbrev ue_:List (Nat×Cut K TyK (Bool)):=[(11,ct cod [0,7,8,9,10,11] [.c (.l false .byte), .c (.r 0 0), .c (.r 1 0), .c (.o 2), .c (.b), .c (.i .i64)] [.x [.s, .i .i64, .o 3, .o 4, .s, .o 5, .o 6], .x [.s, .i .i64, .o 7, .o 8, .s, .o 9, .o 10], .l .event, .l .end, .l .parcel, .l .record, .l .record, .l .end, .l .parcel, .l .record, .l .record] bO_)]
theorem ok_laws_FnTop (k:Nat):SummOk Tryz.prog cod 3 (uz_ k):=aF_ codOk Tryz.f3 (fun k=>av_ [(6,gU_ k),(7,iY_ k),(8,jt_ k),(9,hZ_ k),(10,iT_ k),(11,vc_ k),(12,t1_ k),(13,l5_ k),(14,de_ k),(15,jI_ k),(16,m3_ k)]) ue_ false [.tmp 4] 0 [] aG_ Tryz.func3 (by kernel_rfl) (by kernel_rfl) (by kernel_rfl) (by kernel_rfl)
  (fun k=>Known.of tok eok codOk (all_cons (j6_ k) (all_cons (nx_ k) (all_cons (nY_ k) (all_cons (lI_ k) (all_cons (nJ_ k) (all_cons (yw_ k) (all_cons (yN_ k) (all_cons (qY_ k) (all_cons (d2_ k) (all_cons (ll_ k) (all_cons (sW_ k) (ab_)))))))))))))
  (fun k=>QuietOk.of (all_cons (fun h r=>⟨rfl,rfl⟩) (all_cons (fun h r=>by cases h) (all_cons (fun h r=>by cases h) (all_cons (fun h r=>by cases h) (all_cons (fun h r=>⟨rfl,rfl⟩) (all_cons (fun h r=>by cases h) (all_cons (fun h r=>by cases h) (all_cons (fun h r=>⟨rfl,rfl⟩) (all_cons (fun h r=>⟨rfl,rfl⟩) (all_cons (fun h r=>⟨rfl,rfl⟩) (all_cons (fun h r=>⟨rfl,rfl⟩) (ab_)))))))))))))
  (fun a=>rfl)
  (all_cons (ao_ codOk (by kernel_rfl) (by (repeat intro _);show _=_;kernel_rfl) (fun k=>by (repeat intro _);show _=_;kernel_rfl)) (ab_))
  (fun k=>by (repeat intro _);show _=_;kernel_rfl)
end Km.X
