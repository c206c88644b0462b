/- A part of the proof of FnLines: each function does what its reading says. There is no condition. -/
import Derived.Test.YtgffmpjadffjkaaGreatDoorKmSeat
import Derived.Test.YtgffmpjadffjkaaGreatDoorKxDef3
set_option linter.unusedVariables false
namespace Km.X
open Go Km Go.Proofs
set_option maxRecDepth 100000
set_option maxHeartbeats 4000000
variable [Glob] [GlobFacts]
noncomputable def w7 (k:Nat):bU K TyK:=sm cod (List ByteArray) [.bo, .bo] [.c (.s), .c (.i .u8)] [] (yE) k [.c (.o 0)] [.l .str] (fun r=>((),r,())) (fun v1=>v1) false
noncomputable abbrev R0:List (Nat×Cut K TyK (List ByteArray)):=[(4,ct cod [0,1,5,6,7] [.c (.s), .c (.i .u8), .c (.o 0), .c (.i .i64), .c (.i .i64)] [.l .str] kE),
  (5,ct cod [0,1,5,6,7] [.c (.s), .c (.i .u8), .c (.o 0), .c (.i .i64), .c (.i .i64)] [.l .str] nL)]
theorem BY (k:Nat):SummOk Tryz.prog cod 8 (w7 k):=bA codOk Tryz.f8 (fun k=>aU []) R0 false [.tmp 4] 0 [] mixed Tryz.func8 (by kernel_rfl) (by kernel_rfl) (by kernel_rfl) (by kernel_rfl)
  (fun k=>Known.of tok eok codOk (aB) gok)
  (fun k=>QuietOk.of (aB))
  (fun a=>rfl)
  (all_cons (aI codOk (by kernel_rfl) (by (repeat intro _);show _=_;kernel_rfl) (fun k=>by (repeat intro _);show _=_;kernel_rfl)) (all_cons (aI codOk (by kernel_rfl) (by (repeat intro _);show _=_;kernel_rfl) (fun k=>by (repeat intro _);show _=_;kernel_rfl)) (aB)))
  (fun k=>by (repeat intro _);show _=_;kernel_rfl)
noncomputable def cQ (k:Nat):bU K TyK:=sm cod (Bool) [.bo, .bo, .bo] [.c (.i .i64), .c (.i .i64), .c (.i .i64)] [] (a6) k [.c (.b)] [] (fun r=>(r,())) (fun v1=>v1) true
theorem cG (k:Nat):SummOk Tryz.prog cod 22 (cQ k):=bA codOk Tryz.f22 (fun k=>aU []) [] false [.tmp 6] 0 [] mixed Tryz.func22 (by kernel_rfl) (by kernel_rfl) (by kernel_rfl) (by kernel_rfl)
  (fun k=>Known.of tok eok codOk (aB) gok)
  (fun k=>QuietOk.of (aB))
  (fun a=>rfl)
  (aB)
  (fun k=>by (repeat intro _);show _=_;kernel_rfl)
noncomputable def B2 (k:Nat):bU K TyK:=sm cod (aN) [.bo] [.c (.i .i64)] [] (qS) k [.g [.i .i64, .b, .i .i64, .i .i64, .i .i64, .b, .i .i64, .o 0, .i .i64, .o 1, .s, .o 2]] [.l .item, .l .held, .l .str] (fun r=>(r.Number,r.Up,r.Life,r.Peer,r.Since,r.Owes,r.Send.Base,(),r.Take.Next,(),r.Take.Open,(),r.Send.Items,r.Take.Held,r.Take.Ready,())) (fun v1 v2 v3 v4 v5 v6 v7 v8 v9 v10 v11 v12=>(⟨v1,v2,v3,v4,v5,v6,(⟨v7,v10⟩:aM),(⟨v8,v11,v9,v12⟩:aL)⟩:aN)) false
theorem LY (k:Nat):SummOk Tryz.prog cod 23 (B2 k):=bA codOk Tryz.f23 (fun k=>aU [(22,cQ k)]) [] false [.cell 2 61] 0 [] mixed Tryz.func23 (by kernel_rfl) (by kernel_rfl) (by kernel_rfl) (by kernel_rfl)
  (fun k=>Known.of tok eok codOk (all_cons (cG k) (aB)) gok)
  (fun k=>QuietOk.of (all_cons (fun h r=>⟨rfl,rfl⟩) (aB)))
  (fun a=>rfl)
  (aB)
  (fun k=>by (repeat intro _);show _=_;kernel_rfl)
noncomputable def rK (k:Nat):bU K TyK:=sm cod (aC) [.bo, .bo] [.c (.s), .c (.i .i64)] [] (nG) k [.g [.s, .i .i64, .o 0, .o 1, .s, .o 2, .o 3]] [.l .end, .l .parcel, .l .record, .l .record] (fun r=>(r.Key,r.Width,(),(),r.Forged,(),(),r.Ends,r.Flight,r.Given,r.Taken,())) (fun v1 v2 v3 v4 v5 v6 v7=>(⟨v1,v2,v4,v5,v3,v6,v7⟩:aC)) false
theorem vO (k:Nat):SummOk Tryz.prog cod 9 (rK k):=bA codOk Tryz.f9 (fun k=>aU [(22,cQ k),(23,B2 k)]) [] false [.cell 4 33] 0 [] mixed Tryz.func9 (by kernel_rfl) (by kernel_rfl) (by kernel_rfl) (by kernel_rfl)
  (fun k=>Known.of tok eok codOk (all_cons (cG k) (all_cons (LY k) (aB))) gok)
  (fun k=>QuietOk.of (all_cons (fun h r=>⟨rfl,rfl⟩) (all_cons (fun h r=>by cases h) (aB))))
  (fun a=>rfl)
  (aB)
  (fun k=>by (repeat intro _);show _=_;kernel_rfl)
noncomputable def eQ (k:Nat):bU K TyK:=sm cod (ByteArray) [.bo] [.c (.i .i64)] [] (aW) k [.c (.s)] [] (fun r=>(r,())) (fun v1=>v1) true
noncomputable def MH (k:Nat):bU K TyK:=sm cod (ByteArray) [.bo] [.c (.i .i64)] [] (fun _=>aW (k+1)) 0 [.c (.s)] [] (fun r=>(r,())) (fun v1=>v1) true
theorem BN (k:Nat) (ih:SummOk Tryz.prog cod 18 (eQ k)):SummOk Tryz.prog cod 18 (MH k):=bA codOk Tryz.f18 (fun _=>aU [(18,eQ k)]) [] false [.tmp 2] 0 [] mixed Tryz.func18 (by kernel_rfl) (by kernel_rfl) (by kernel_rfl) (by kernel_rfl)
  (fun _=>Known.of tok eok codOk (all_cons ih (aB)) gok)
  (fun _=>QuietOk.of (all_cons (fun h r=>⟨rfl,rfl⟩) (aB)))
  (fun a=>rfl)
  (aB)
  (fun _=>by (repeat intro _);show _=_;kernel_rfl)
theorem gF:∀k:Nat,SummOk Tryz.prog cod 18 (eQ k)
  | 0=>d8_ Tryz.f18 Tryz.func18 (by kernel_rfl) (by kernel_rfl) (by (repeat intro _);rfl)
  | k+1=>BN k (gF k)
noncomputable def nO (k:Nat):bU K TyK:=sm cod (Int) [.bo] [.c (.s)] [] (gG) k [.c (.i .i64)] [] (fun r=>(r,())) (fun v1=>v1) true
noncomputable abbrev KW:List (Nat×Cut K TyK (Int)):=[(5,ct cod [0,3,4] [.c (.s), .c (.i .i64), .c (.i .i64)] [] fT)]
theorem pF (k:Nat):SummOk Tryz.prog cod 26 (nO k):=bA codOk Tryz.f26 (fun k=>aU [(18,eQ k)]) KW false [.tmp 2] 0 [] mixed Tryz.func26 (by kernel_rfl) (by kernel_rfl) (by kernel_rfl) (by kernel_rfl)
  (fun k=>Known.of tok eok codOk (all_cons (gF k) (aB)) gok)
  (fun k=>QuietOk.of (all_cons (fun h r=>⟨rfl,rfl⟩) (aB)))
  (fun a=>rfl)
  (all_cons (aI codOk (by kernel_rfl) (by (repeat intro _);show _=_;kernel_rfl) (fun k=>by (repeat intro _);show _=_;kernel_rfl)) (aB))
  (fun k=>by (repeat intro _);show _=_;kernel_rfl)
noncomputable def iS (k:Nat):bU K TyK:=sm cod (Bool) [.bo] [.g [.i .i64, .l true .item]] [] (fun k v1 v2=>dC k (⟨v1,v2⟩:aM)) k [.c (.b)] [] (fun r=>(r,())) (fun v1=>v1) true
noncomputable abbrev F7:List (Nat×Cut K TyK (Bool)):=[(4,ct cod [1,3] [.c (.r 0 0), .c (.i .i64)] [.x [.i .i64, .l true .item]] bM)]
theorem kQ (k:Nat):SummOk Tryz.prog cod 114 (iS k):=bA codOk Tryz.f114 (fun k=>aU [(22,cQ k)]) F7 false [.tmp 2] 0 [] mixed Tryz.func114 (by kernel_rfl) (by kernel_rfl) (by kernel_rfl) (by kernel_rfl)
  (fun k=>Known.of tok eok codOk (all_cons (cG k) (aB)) gok)
  (fun k=>QuietOk.of (all_cons (fun h r=>⟨rfl,rfl⟩) (aB)))
  (fun a=>rfl)
  (all_cons (aI codOk (by kernel_rfl) (by (repeat intro _);show _=_;kernel_rfl) (fun k=>by (repeat intro _);show _=_;kernel_rfl)) (aB))
  (fun k=>by (repeat intro _);show _=_;kernel_rfl)
noncomputable def uK (k:Nat):bU K TyK:=sm cod (Bool) [.bo, .bo] [.g [.i .i64, .l true .held, .s, .l true .str], .c (.i .i64)] [] (fun k v1 v2 v3 v4 v5=>rB k (⟨v1,v2,v3,v4⟩:aL) v5) k [.c (.b)] [] (fun r=>(r,())) (fun v1=>v1) true
theorem zX (k:Nat):SummOk Tryz.prog cod 153 (uK k):=bA codOk Tryz.f153 (fun k=>aU [(22,cQ k)]) [] false [.tmp 4] 0 [] mixed Tryz.func153 (by kernel_rfl) (by kernel_rfl) (by kernel_rfl) (by kernel_rfl)
  (fun k=>Known.of tok eok codOk (all_cons (cG k) (aB)) gok)
  (fun k=>QuietOk.of (all_cons (fun h r=>⟨rfl,rfl⟩) (aB)))
  (fun a=>rfl)
  (aB)
  (fun k=>by (repeat intro _);show _=_;kernel_rfl)
noncomputable def wW (k:Nat):bU K TyK:=sm cod (Bool) [.bo, .bo] [.g [.i .i64, .l true .held, .s, .l true .str], .g [.s, .b]] [] (fun k v1 v2 v3 v4 v5 v6=>mQ k (⟨v1,v2,v3,v4⟩:aL) (⟨v5,v6⟩:cA)) k [.c (.b)] [] (fun r=>(r,())) (fun v1=>v1) true
theorem CR (k:Nat):SummOk Tryz.prog cod 154 (wW k):=bA codOk Tryz.f154 (fun k=>aU []) [] false [.tmp 4] 0 [] mixed Tryz.func154 (by kernel_rfl) (by kernel_rfl) (by kernel_rfl) (by kernel_rfl)
  (fun k=>Known.of tok eok codOk (aB) gok)
  (fun k=>QuietOk.of (aB))
  (fun a=>rfl)
  (aB)
  (fun k=>by (repeat intro _);show _=_;kernel_rfl)
noncomputable def iZ (k:Nat):bU K TyK:=sm cod (Bool) [.bo] [.g [.i .i64, .l true .held, .s, .l true .str]] [] (fun k v1 v2 v3 v4=>gH k (⟨v1,v2,v3,v4⟩:aL)) k [.c (.b)] [] (fun r=>(r,())) (fun v1=>v1) true
noncomputable abbrev GF:List (Nat×Cut K TyK (Bool)):=[(4,ct cod [1,3] [.c (.r 0 0), .c (.i .i64)] [.x [.i .i64, .l true .held, .s, .l true .str]] eR),
  (9,ct cod [1,4] [.c (.r 0 0), .c (.i .i64)] [.x [.i .i64, .l true .held, .s, .l true .str]] bL)]
theorem kK (k:Nat):SummOk Tryz.prog cod 115 (iZ k):=bA codOk Tryz.f115 (fun k=>aU [(22,cQ k),(153,uK k),(154,wW k)]) GF false [.tmp 2] 0 [] mixed Tryz.func115 (by kernel_rfl) (by kernel_rfl) (by kernel_rfl) (by kernel_rfl)
  (fun k=>Known.of tok eok codOk (all_cons (cG k) (all_cons (zX k) (all_cons (CR k) (aB)))) gok)
  (fun k=>QuietOk.of (all_cons (fun h r=>⟨rfl,rfl⟩) (all_cons (fun h r=>⟨rfl,rfl⟩) (all_cons (fun h r=>⟨rfl,rfl⟩) (aB)))))
  (fun a=>rfl)
  (all_cons (aI codOk (by kernel_rfl) (by (repeat intro _);show _=_;kernel_rfl) (fun k=>by (repeat intro _);show _=_;kernel_rfl)) (all_cons (aI codOk (by kernel_rfl) (by (repeat intro _);show _=_;kernel_rfl) (fun k=>by (repeat intro _);show _=_;kernel_rfl)) (aB)))
  (fun k=>by (repeat intro _);show _=_;kernel_rfl)
noncomputable def wG (k:Nat):bU K TyK:=sm cod (Bool) [.bo] [.g [.i .i64, .l true .item]] [] (fun k v1 v2=>pX k (⟨v1,v2⟩:aM)) k [.c (.b)] [] (fun r=>(r,())) (fun v1=>v1) true
theorem GG (k:Nat):SummOk Tryz.prog cod 116 (wG k):=bA codOk Tryz.f116 (fun k=>aU []) [] false [.tmp 2] 0 [] mixed Tryz.func116 (by kernel_rfl) (by kernel_rfl) (by kernel_rfl) (by kernel_rfl)
  (fun k=>Known.of tok eok codOk (aB) gok)
  (fun k=>QuietOk.of (aB))
  (fun a=>rfl)
  (aB)
  (fun k=>by (repeat intro _);show _=_;kernel_rfl)
noncomputable def wV (k:Nat):bU K TyK:=sm cod (Bool) [.bo] [.g [.i .i64, .l true .held, .s, .l true .str]] [] (fun k v1 v2 v3 v4=>qC k (⟨v1,v2,v3,v4⟩:aL)) k [.c (.b)] [] (fun r=>(r,())) (fun v1=>v1) true
theorem GD (k:Nat):SummOk Tryz.prog cod 117 (wV k):=bA codOk Tryz.f117 (fun k=>aU []) [] false [.tmp 2] 0 [] mixed Tryz.func117 (by kernel_rfl) (by kernel_rfl) (by kernel_rfl) (by kernel_rfl)
  (fun k=>Known.of tok eok codOk (aB) gok)
  (fun k=>QuietOk.of (aB))
  (fun a=>rfl)
  (aB)
  (fun k=>by (repeat intro _);show _=_;kernel_rfl)
noncomputable def d4 (k:Nat):bU K TyK:=sm cod (Bool) [.bo] [.g [.i .i64, .b, .i .i64, .i .i64, .i .i64, .b, .i .i64, .l true .item, .i .i64, .l true .held, .s, .l true .str]] [] (fun k v1 v2 v3 v4 v5 v6 v7 v8 v9 v10 v11 v12=>dT k (⟨v1,v2,v3,v4,v5,v6,(⟨v7,v8⟩:aM),(⟨v9,v10,v11,v12⟩:aL)⟩:aN)) k [.c (.b)] [] (fun r=>(r,())) (fun v1=>v1) true
theorem eI (k:Nat):SummOk Tryz.prog cod 82 (d4 k):=bA codOk Tryz.f82 (fun k=>aU [(22,cQ k),(114,iS k),(115,iZ k),(116,wG k),(117,wV k)]) [] false [.tmp 2] 0 [] mixed Tryz.func82 (by kernel_rfl) (by kernel_rfl) (by kernel_rfl) (by kernel_rfl)
  (fun k=>Known.of tok eok codOk (all_cons (cG k) (all_cons (kQ k) (all_cons (kK k) (all_cons (GG k) (all_cons (GD k) (aB)))))) gok)
  (fun k=>QuietOk.of (all_cons (fun h r=>⟨rfl,rfl⟩) (all_cons (fun h r=>⟨rfl,rfl⟩) (all_cons (fun h r=>⟨rfl,rfl⟩) (all_cons (fun h r=>⟨rfl,rfl⟩) (all_cons (fun h r=>⟨rfl,rfl⟩) (aB)))))))
  (fun a=>rfl)
  (aB)
  (fun k=>by (repeat intro _);show _=_;kernel_rfl)
noncomputable def N2 (k:Nat):bU K TyK:=sm cod (List cA) [.bo] [.c (.s)] [] (yF) k [.c (.o 0)] [.l .part] (fun r=>((),r,())) (fun v1=>v1) false
noncomputable abbrev Y1:List (Nat×Cut K TyK (List cA)):=[(4,ct cod [0,3] [.c (.s), .c (.o 0)] [.l .part] mI)]
theorem UR (k:Nat):SummOk Tryz.prog cod 118 (N2 k):=bA codOk Tryz.f118 (fun k=>aU []) Y1 false [.tmp 2] 0 [] mixed Tryz.func118 (by kernel_rfl) (by kernel_rfl) (by kernel_rfl) (by kernel_rfl)
  (fun k=>Known.of tok eok codOk (aB) gok)
  (fun k=>QuietOk.of (aB))
  (fun a=>rfl)
  (all_cons (aI codOk (by kernel_rfl) (by (repeat intro _);show _=_;kernel_rfl) (fun k=>by (repeat intro _);show _=_;kernel_rfl)) (aB))
  (fun k=>by (repeat intro _);show _=_;kernel_rfl)
noncomputable def mY (k:Nat):bU K TyK:=sm cod (aM) [.bo] [.g [.i .i64, .l true .item]] [] (fun k v1 v2=>mF k (⟨v1,v2⟩:aM)) k [.g [.i .i64, .o 0]] [.l .item] (fun r=>(r.Base,(),r.Items,())) (fun v1 v2=>(⟨v1,v2⟩:aM)) false
theorem oR (k:Nat):SummOk Tryz.prog cod 119 (mY k):=bA codOk Tryz.f119 (fun k=>aU []) [] false [.cell 2 56] 0 [] mixed Tryz.func119 (by kernel_rfl) (by kernel_rfl) (by kernel_rfl) (by kernel_rfl)
  (fun k=>Known.of tok eok codOk (aB) gok)
  (fun k=>QuietOk.of (aB))
  (fun a=>rfl)
  (aB)
  (fun k=>by (repeat intro _);show _=_;kernel_rfl)
noncomputable def wS (k:Nat):bU K TyK:=sm cod (aM×Int) [.bo, .bo] [.g [.i .i64, .l true .item], .c (.s)] [] (fun k v1 v2 v3=>pV k (⟨v1,v2⟩:aM) v3) k [.g [.i .i64, .o 0], .c (.i .i64)] [.l .item] (fun r=>(r.1.Base,(),r.2,r.1.Items,())) (fun v1 v2 v3=>((⟨v1,v3⟩:aM),v2)) false
noncomputable abbrev H3:List (Nat×Cut K TyK (aM×Int)):=[(9,ct cod [4,6,8,9] [.c (.r 0 0), .c (.o 1), .c (.r 2 0), .c (.i .i64)] [.x [.i .i64, .o 3], .l .part, .x [.i .i64, .o 4], .l .item, .l .item] fQ)]
theorem GY (k:Nat):SummOk Tryz.prog cod 83 (wS k):=bA codOk Tryz.f83 (fun k=>aU [(114,iS k),(118,N2 k),(119,mY k)]) H3 false [.cell 4 56, .tmp 5] 0 [] mixed Tryz.func83 (by kernel_rfl) (by kernel_rfl) (by kernel_rfl) (by kernel_rfl)
  (fun k=>Known.of tok eok codOk (all_cons (kQ k) (all_cons (UR k) (all_cons (oR k) (aB)))) gok)
  (fun k=>QuietOk.of (all_cons (fun h r=>⟨rfl,rfl⟩) (all_cons (fun h r=>by cases h) (all_cons (fun h r=>by cases h) (aB)))))
  (fun a=>rfl)
  (all_cons (aI codOk (by kernel_rfl) (by (repeat intro _);show _=_;kernel_rfl) (fun k=>by (repeat intro _);show _=_;kernel_rfl)) (aB))
  (fun k=>by (repeat intro _);show _=_;kernel_rfl)
noncomputable def qE (k:Nat):bU K TyK:=sm cod (aL) [.bo] [.g [.i .i64, .l true .held, .s, .l true .str]] [] (fun k v1 v2 v3 v4=>oD k (⟨v1,v2,v3,v4⟩:aL)) k [.g [.i .i64, .o 0, .s, .o 1]] [.l .held, .l .str] (fun r=>(r.Next,(),r.Open,(),r.Held,r.Ready,())) (fun v1 v2 v3 v4=>(⟨v1,v3,v2,v4⟩:aL)) false
theorem tB (k:Nat):SummOk Tryz.prog cod 120 (qE k):=bA codOk Tryz.f120 (fun k=>aU []) [] false [.cell 2 59] 0 [] mixed Tryz.func120 (by kernel_rfl) (by kernel_rfl) (by kernel_rfl) (by kernel_rfl)
  (fun k=>Known.of tok eok codOk (aB) gok)
  (fun k=>QuietOk.of (aB))
  (fun a=>rfl)
  (aB)
  (fun k=>by (repeat intro _);show _=_;kernel_rfl)
noncomputable def iF (k:Nat):bU K TyK:=sm cod (aN) [.bo] [.g [.i .i64, .b, .i .i64, .i .i64, .i .i64, .b, .i .i64, .l true .item, .i .i64, .l true .held, .s, .l true .str]] [] (fun k v1 v2 v3 v4 v5 v6 v7 v8 v9 v10 v11 v12=>gK k (⟨v1,v2,v3,v4,v5,v6,(⟨v7,v8⟩:aM),(⟨v9,v10,v11,v12⟩:aL)⟩:aN)) k [.g [.i .i64, .b, .i .i64, .i .i64, .i .i64, .b, .i .i64, .o 0, .i .i64, .o 1, .s, .o 2]] [.l .item, .l .held, .l .str] (fun r=>(r.Number,r.Up,r.Life,r.Peer,r.Since,r.Owes,r.Send.Base,(),r.Take.Next,(),r.Take.Open,(),r.Send.Items,r.Take.Held,r.Take.Ready,())) (fun v1 v2 v3 v4 v5 v6 v7 v8 v9 v10 v11 v12=>(⟨v1,v2,v3,v4,v5,v6,(⟨v7,v10⟩:aM),(⟨v8,v11,v9,v12⟩:aL)⟩:aN)) false
theorem jG (k:Nat):SummOk Tryz.prog cod 84 (iF k):=bA codOk Tryz.f84 (fun k=>aU [(119,mY k),(120,qE k)]) [] false [.cell 2 61] 0 [] mixed Tryz.func84 (by kernel_rfl) (by kernel_rfl) (by kernel_rfl) (by kernel_rfl)
  (fun k=>Known.of tok eok codOk (all_cons (oR k) (all_cons (tB k) (aB))) gok)
  (fun k=>QuietOk.of (all_cons (fun h r=>by cases h) (all_cons (fun h r=>by cases h) (aB))))
  (fun a=>rfl)
  (aB)
  (fun k=>by (repeat intro _);show _=_;kernel_rfl)
noncomputable def s6 (k:Nat):bU K TyK:=sm cod (aY) [.bo, .bo] [.g [.i .i64, .b, .i .i64, .i .i64, .i .i64, .b, .i .i64, .l true .item, .i .i64, .l true .held, .s, .l true .str], .c (.s)] [] (fun k v1 v2 v3 v4 v5 v6 v7 v8 v9 v10 v11 v12 v13=>jR k (⟨v1,v2,v3,v4,v5,v6,(⟨v7,v8⟩:aM),(⟨v9,v10,v11,v12⟩:aL)⟩:aN) v13) k [.g [.i .i64, .i .i64, .b, .i .i64, .i .i64, .i .i64, .b, .i .i64, .o 0, .i .i64, .o 1, .s, .o 2, .o 3, .s]] [.l .item, .l .held, .l .str, .l .packet] (fun r=>(r.Code,r.End.Number,r.End.Up,r.End.Life,r.End.Peer,r.End.Since,r.End.Owes,r.End.Send.Base,(),r.End.Take.Next,(),r.End.Take.Open,(),(),r.Text,r.End.Send.Items,r.End.Take.Held,r.End.Take.Ready,r.Out,())) (fun v1 v2 v3 v4 v5 v6 v7 v8 v9 v10 v11 v12 v13 v14 v15=>(⟨v1,(⟨v2,v3,v4,v5,v6,v7,(⟨v8,v12⟩:aM),(⟨v9,v13,v10,v14⟩:aL)⟩:aN),v15,v11⟩:aY)) false
theorem xD (k:Nat):SummOk Tryz.prog cod 48 (s6 k):=bA codOk Tryz.f48 (fun k=>aU [(82,d4 k),(83,wS k),(84,iF k)]) [] false [.cell 4 82] 0 [] mixed Tryz.func48 (by kernel_rfl) (by kernel_rfl) (by kernel_rfl) (by kernel_rfl)
  (fun k=>Known.of tok eok codOk (all_cons (eI k) (all_cons (GY k) (all_cons (jG k) (aB)))) gok)
  (fun k=>QuietOk.of (all_cons (fun h r=>⟨rfl,rfl⟩) (all_cons (fun h r=>by cases h) (all_cons (fun h r=>by cases h) (aB)))))
  (fun a=>rfl)
  (aB)
  (fun k=>by (repeat intro _);show _=_;kernel_rfl)
noncomputable def sF (k:Nat):bU K TyK:=sm cod (Bool) [.bo] [.c (.l true .record)] [] (lY) k [.c (.b)] [] (fun r=>(r,())) (fun v1=>v1) true
noncomputable abbrev BR:List (Nat×Cut K TyK (Bool)):=[(2,ct cod [0,3] [.c (.l true .record), .c (.i .i64)] [] dO)]
theorem AN (k:Nat):SummOk Tryz.prog cod 86 (sF k):=bA codOk Tryz.f86 (fun k=>aU [(22,cQ k)]) BR false [.tmp 2] 0 [] mixed Tryz.func86 (by kernel_rfl) (by kernel_rfl) (by kernel_rfl) (by kernel_rfl)
  (fun k=>Known.of tok eok codOk (all_cons (cG k) (aB)) gok)
  (fun k=>QuietOk.of (all_cons (fun h r=>⟨rfl,rfl⟩) (aB)))
  (fun a=>rfl)
  (all_cons (aI codOk (by kernel_rfl) (by (repeat intro _);show _=_;kernel_rfl) (fun k=>by (repeat intro _);show _=_;kernel_rfl)) (aB))
  (fun k=>by (repeat intro _);show _=_;kernel_rfl)
noncomputable def hI (k:Nat):bU K TyK:=sm cod (Bool) [.bo] [.g [.s, .i .i64, .l true .end, .l true .parcel, .s, .l true .record, .l true .record]] [] (fun k v1 v2 v3 v4 v5 v6 v7=>fD k (⟨v1,v2,v3,v4,v5,v6,v7⟩:aC)) k [.c (.b)] [] (fun r=>(r,())) (fun v1=>v1) true
noncomputable abbrev DU:List (Nat×Cut K TyK (Bool)):=[(4,ct cod [1,3] [.c (.r 0 0), .c (.i .i64)] [.x [.s, .i .i64, .l true .end, .l true .parcel, .s, .l true .record, .l true .record]] d7),
  (9,ct cod [1,4] [.c (.r 0 0), .c (.i .i64)] [.x [.s, .i .i64, .l true .end, .l true .parcel, .s, .l true .record, .l true .record]] d6)]
theorem jL (k:Nat):SummOk Tryz.prog cod 54 (hI k):=bA codOk Tryz.f54 (fun k=>aU [(22,cQ k),(82,d4 k),(86,sF k)]) DU false [.tmp 2] 0 [] mixed Tryz.func54 (by kernel_rfl) (by kernel_rfl) (by kernel_rfl) (by kernel_rfl)
  (fun k=>Known.of tok eok codOk (all_cons (cG k) (all_cons (eI k) (all_cons (AN k) (aB)))) gok)
  (fun k=>QuietOk.of (all_cons (fun h r=>⟨rfl,rfl⟩) (all_cons (fun h r=>⟨rfl,rfl⟩) (all_cons (fun h r=>⟨rfl,rfl⟩) (aB)))))
  (fun a=>rfl)
  (all_cons (aI codOk (by kernel_rfl) (by (repeat intro _);show _=_;kernel_rfl) (fun k=>by (repeat intro _);show _=_;kernel_rfl)) (all_cons (aI codOk (by kernel_rfl) (by (repeat intro _);show _=_;kernel_rfl) (fun k=>by (repeat intro _);show _=_;kernel_rfl)) (aB)))
  (fun k=>by (repeat intro _);show _=_;kernel_rfl)
noncomputable def vJ (k:Nat):bU K TyK:=sm cod (aC) [.bo] [.g [.s, .i .i64, .l true .end, .l true .parcel, .s, .l true .record, .l true .record]] [] (fun k v1 v2 v3 v4 v5 v6 v7=>iL k (⟨v1,v2,v3,v4,v5,v6,v7⟩:aC)) k [.g [.s, .i .i64, .o 0, .o 1, .s, .o 2, .o 3]] [.l .end, .l .parcel, .l .record, .l .record] (fun r=>(r.Key,r.Width,(),(),r.Forged,(),(),r.Ends,r.Flight,r.Given,r.Taken,())) (fun v1 v2 v3 v4 v5 v6 v7=>(⟨v1,v2,v4,v5,v3,v6,v7⟩:aC)) false
noncomputable abbrev OT:List (Nat×Cut K TyK (aC)):=[(4,ct cod [1,2,3,4] [.c (.r 0 0), .c (.r 1 0), .c (.r 2 0), .c (.i .i64)] [.x [.s, .i .i64, .l true .end, .l true .parcel, .s, .l true .record, .l true .record], .x [.s, .i .i64, .o 3, .o 4, .s, .o 5, .o 6], .x [.s, .i .i64, .o 7, .l true .parcel, .s, .l true .record, .l true .record], .l .end, .l .parcel, .l .record, .l .record, .l .end] jF)]
theorem zI (k:Nat):SummOk Tryz.prog cod 55 (vJ k):=bA codOk Tryz.f55 (fun k=>aU [(84,iF k)]) OT false [.cell 2 33] 0 [] mixed Tryz.func55 (by kernel_rfl) (by kernel_rfl) (by kernel_rfl) (by kernel_rfl)
  (fun k=>Known.of tok eok codOk (all_cons (jG k) (aB)) gok)
  (fun k=>QuietOk.of (all_cons (fun h r=>by cases h) (aB)))
  (fun a=>rfl)
  (all_cons (aI codOk (by kernel_rfl) (by (repeat intro _);show _=_;kernel_rfl) (fun k=>by (repeat intro _);show _=_;kernel_rfl)) (aB))
  (fun k=>by (repeat intro _);show _=_;kernel_rfl)
noncomputable def wM (k:Nat):bU K TyK:=sm cod (aM×List Int) [.bo] [.g [.i .i64, .l true .item]] [] (fun k v1 v2=>pT k (⟨v1,v2⟩:aM)) k [.g [.i .i64, .o 0], .c (.o 1)] [.l .item, .l .int] (fun r=>(r.1.Base,(),(),r.1.Items,r.2,())) (fun v1 v2 v3=>((⟨v1,v2⟩:aM),v3)) false
noncomputable abbrev H4:List (Nat×Cut K TyK (aM×List Int)):=[(6,ct cod [1,2,4,5,6] [.c (.r 0 0), .c (.r 1 0), .c (.o 2), .c (.r 3 0), .c (.i .i64)] [.x [.i .i64, .l true .item], .x [.i .i64, .o 4], .l .int, .x [.i .i64, .o 5], .l .item, .l .item] fN),
  (7,ct cod [1,2,4,5,6] [.c (.r 0 0), .c (.r 1 0), .c (.o 2), .c (.r 3 0), .c (.i .i64)] [.x [.i .i64, .l true .item], .x [.i .i64, .o 4], .l .int, .x [.i .i64, .o 5], .l .item, .l .item] eH)]
theorem GR (k:Nat):SummOk Tryz.prog cod 122 (wM k):=bA codOk Tryz.f122 (fun k=>aU [(114,iS k),(119,mY k)]) H4 false [.cell 2 56, .tmp 3] 0 [] mixed Tryz.func122 (by kernel_rfl) (by kernel_rfl) (by kernel_rfl) (by kernel_rfl)
  (fun k=>Known.of tok eok codOk (all_cons (kQ k) (all_cons (oR k) (aB))) gok)
  (fun k=>QuietOk.of (all_cons (fun h r=>⟨rfl,rfl⟩) (all_cons (fun h r=>by cases h) (aB))))
  (fun a=>rfl)
  (all_cons (aI codOk (by kernel_rfl) (by (repeat intro _);show _=_;kernel_rfl) (fun k=>by (repeat intro _);show _=_;kernel_rfl)) (all_cons (aI codOk (by kernel_rfl) (by (repeat intro _);show _=_;kernel_rfl) (fun k=>by (repeat intro _);show _=_;kernel_rfl)) (aB)))
  (fun k=>by (repeat intro _);show _=_;kernel_rfl)
noncomputable def wH (k:Nat):bU K TyK:=sm cod (Int×Int) [.bo] [.g [.i .i64, .l true .held, .s, .l true .str]] [] (fun k v1 v2 v3 v4=>kC k (⟨v1,v2,v3,v4⟩:aL)) k [.c (.i .i64), .c (.i .i64)] [] (fun r=>(r.1,r.2,())) (fun v1 v2=>(v1,v2)) true
noncomputable abbrev KN:List (Nat×Cut K TyK (Int×Int)):=[(5,ct cod [1,4,5] [.c (.r 0 0), .c (.i .i64), .c (.i .i64)] [.x [.i .i64, .l true .held, .s, .l true .str]] eG),
  (9,ct cod [1,4,5,6,7] [.c (.r 0 0), .c (.i .i64), .c (.i .i64), .c (.i .i64), .c (.i .i64)] [.x [.i .i64, .l true .held, .s, .l true .str]] fR)]
theorem GN (k:Nat):SummOk Tryz.prog cod 123 (wH k):=bA codOk Tryz.f123 (fun k=>aU [(115,iZ k)]) KN false [.tmp 2, .tmp 3] 0 [] mixed Tryz.func123 (by kernel_rfl) (by kernel_rfl) (by kernel_rfl) (by kernel_rfl)
  (fun k=>Known.of tok eok codOk (all_cons (kK k) (aB)) gok)
  (fun k=>QuietOk.of (all_cons (fun h r=>⟨rfl,rfl⟩) (aB)))
  (fun a=>rfl)
  (all_cons (aI codOk (by kernel_rfl) (by (repeat intro _);show _=_;kernel_rfl) (fun k=>by (repeat intro _);show _=_;kernel_rfl)) (all_cons (aI codOk (by kernel_rfl) (by (repeat intro _);show _=_;kernel_rfl) (fun k=>by (repeat intro _);show _=_;kernel_rfl)) (aB)))
  (fun k=>by (repeat intro _);show _=_;kernel_rfl)
noncomputable def zL (k:Nat):bU K TyK:=sm cod (aY) [.bo] [.g [.i .i64, .b, .i .i64, .i .i64, .i .i64, .b, .i .i64, .l true .item, .i .i64, .l true .held, .s, .l true .str]] [] (fun k v1 v2 v3 v4 v5 v6 v7 v8 v9 v10 v11 v12=>sE k (⟨v1,v2,v3,v4,v5,v6,(⟨v7,v8⟩:aM),(⟨v9,v10,v11,v12⟩:aL)⟩:aN)) k [.g [.i .i64, .i .i64, .b, .i .i64, .i .i64, .i .i64, .b, .i .i64, .o 0, .i .i64, .o 1, .s, .o 2, .o 3, .s]] [.l .item, .l .held, .l .str, .l .packet] (fun r=>(r.Code,r.End.Number,r.End.Up,r.End.Life,r.End.Peer,r.End.Since,r.End.Owes,r.End.Send.Base,(),r.End.Take.Next,(),r.End.Take.Open,(),(),r.Text,r.End.Send.Items,r.End.Take.Held,r.End.Take.Ready,r.Out,())) (fun v1 v2 v3 v4 v5 v6 v7 v8 v9 v10 v11 v12 v13 v14 v15=>(⟨v1,(⟨v2,v3,v4,v5,v6,v7,(⟨v8,v12⟩:aM),(⟨v9,v13,v10,v14⟩:aL)⟩:aN),v15,v11⟩:aY)) false
noncomputable abbrev MZ:List (Nat×Cut K TyK (aY)):=[(9,ct cod [2,3,4] [.c (.r 0 0), .c (.r 1 0), .c (.o 2)] [.x [.i .i64, .i .i64, .b, .i .i64, .i .i64, .i .i64, .b, .i .i64, .o 3, .i .i64, .o 4, .s, .o 5, .o 6, .s], .x [.i .i64, .b, .i .i64, .i .i64, .i .i64, .b, .i .i64, .o 7, .i .i64, .o 8, .s, .o 9], .l .packet, .l .item, .l .held, .l .str, .l .packet, .l .item, .l .held, .l .str] jS),
  (13,ct cod [2,3,4,5,6,7] [.c (.r 0 0), .c (.r 1 0), .c (.o 2), .c (.r 3 0), .c (.o 4), .c (.i .i64)] [.x [.i .i64, .i .i64, .b, .i .i64, .i .i64, .i .i64, .b, .i .i64, .o 5, .i .i64, .o 6, .s, .o 7, .o 8, .s], .x [.i .i64, .b, .i .i64, .i .i64, .i .i64, .b, .i .i64, .o 9, .i .i64, .o 10, .s, .o 11], .l .packet, .x [.i .i64, .o 9], .l .int, .l .item, .l .held, .l .str, .l .packet, .l .item, .l .held, .l .str] fU),
  (17,ct cod [2,3,4] [.c (.r 0 0), .c (.r 1 0), .c (.o 2)] [.x [.i .i64, .i .i64, .b, .i .i64, .i .i64, .i .i64, .b, .i .i64, .o 3, .i .i64, .o 4, .s, .o 5, .o 6, .s], .x [.i .i64, .b, .i .i64, .i .i64, .i .i64, .b, .i .i64, .o 7, .i .i64, .o 8, .s, .o 9], .l .packet, .l .item, .l .held, .l .str, .l .packet, .l .item, .l .held, .l .str] iY),
  (22,ct cod [2,3,4] [.c (.r 0 0), .c (.r 1 0), .c (.o 2)] [.x [.i .i64, .i .i64, .b, .i .i64, .i .i64, .i .i64, .b, .i .i64, .o 3, .i .i64, .o 4, .s, .o 5, .o 6, .s], .x [.i .i64, .b, .i .i64, .i .i64, .i .i64, .b, .i .i64, .o 7, .i .i64, .o 8, .s, .o 9], .l .packet, .l .item, .l .held, .l .str, .l .packet, .l .item, .l .held, .l .str] eM)]
theorem I4 (k:Nat):SummOk Tryz.prog cod 87 (zL k):=bA codOk Tryz.f87 (fun k=>aU [(82,d4 k),(84,iF k),(122,wM k),(123,wH k)]) MZ false [.cell 2 82] 0 [] mixed Tryz.func87 (by kernel_rfl) (by kernel_rfl) (by kernel_rfl) (by kernel_rfl)
  (fun k=>Known.of tok eok codOk (all_cons (eI k) (all_cons (jG k) (all_cons (GR k) (all_cons (GN k) (aB))))) gok)
  (fun k=>QuietOk.of (all_cons (fun h r=>⟨rfl,rfl⟩) (all_cons (fun h r=>by cases h) (all_cons (fun h r=>by cases h) (all_cons (fun h r=>⟨rfl,rfl⟩) (aB))))))
  (fun a=>rfl)
  (all_cons (aI codOk (by kernel_rfl) (by (repeat intro _);show _=_;kernel_rfl) (fun k=>by (repeat intro _);show _=_;kernel_rfl)) (all_cons (aI codOk (by kernel_rfl) (by (repeat intro _);show _=_;kernel_rfl) (fun k=>by (repeat intro _);show _=_;kernel_rfl)) (all_cons (aI codOk (by kernel_rfl) (by (repeat intro _);show _=_;kernel_rfl) (fun k=>by (repeat intro _);show _=_;kernel_rfl)) (all_cons (aI codOk (by kernel_rfl) (by (repeat intro _);show _=_;kernel_rfl) (fun k=>by (repeat intro _);show _=_;kernel_rfl)) (aB)))))
  (fun k=>by (repeat intro _);show _=_;kernel_rfl)
noncomputable def AX (k:Nat):bU K TyK:=sm cod (Bool) [.bo] [.g [.i .i64, .i .i64, .i .i64, .i .i64, .i .i64, .i .i64, .i .i64, .b, .s]] [] (fun k v1 v2 v3 v4 v5 v6 v7 v8 v9=>oZ k (⟨v1,v2,v3,v4,v5,v6,v7,v8,v9⟩:aF)) k [.c (.b)] [] (fun r=>(r,())) (fun v1=>v1) true
theorem FU (k:Nat):SummOk Tryz.prog cod 124 (AX k):=bA codOk Tryz.f124 (fun k=>aU [(22,cQ k)]) [] false [.tmp 2] 0 [] mixed Tryz.func124 (by kernel_rfl) (by kernel_rfl) (by kernel_rfl) (by kernel_rfl)
  (fun k=>Known.of tok eok codOk (all_cons (cG k) (aB)) gok)
  (fun k=>QuietOk.of (all_cons (fun h r=>⟨rfl,rfl⟩) (aB)))
  (fun a=>rfl)
  (aB)
  (fun k=>by (repeat intro _);show _=_;kernel_rfl)
noncomputable def wI (k:Nat):bU K TyK:=sm cod (ByteArray) [.bo, .bo] [.c (.i .i64), .c (.i .i64)] [] (dU) k [.c (.s)] [] (fun r=>(r,())) (fun v1=>v1) true
noncomputable abbrev KI:List (Nat×Cut K TyK (ByteArray)):=[(3,ct cod [0,1,5,6] [.c (.i .i64), .c (.i .i64), .c (.s), .c (.i .i64)] [] fI)]
theorem GS (k:Nat):SummOk Tryz.prog cod 155 (wI k):=bA codOk Tryz.f155 (fun k=>aU []) KI false [.tmp 4] 0 [] mixed Tryz.func155 (by kernel_rfl) (by kernel_rfl) (by kernel_rfl) (by kernel_rfl)
  (fun k=>Known.of tok eok codOk (aB) gok)
  (fun k=>QuietOk.of (aB))
  (fun a=>rfl)
  (all_cons (aI codOk (by kernel_rfl) (by (repeat intro _);show _=_;kernel_rfl) (fun k=>by (repeat intro _);show _=_;kernel_rfl)) (aB))
  (fun k=>by (repeat intro _);show _=_;kernel_rfl)
noncomputable def B9 (k:Nat):bU K TyK:=sm cod (ByteArray) [.bo] [.g [.i .i64, .i .i64, .i .i64, .i .i64, .i .i64, .i .i64, .i .i64, .b, .s]] [] (fun k v1 v2 v3 v4 v5 v6 v7 v8 v9=>qV k (⟨v1,v2,v3,v4,v5,v6,v7,v8,v9⟩:aF)) k [.c (.s)] [] (fun r=>(r,())) (fun v1=>v1) true
noncomputable abbrev OQ:List (Nat×Cut K TyK (ByteArray)):=[(7,ct cod [1,3,4] [.c (.r 0 0), .c (.s), .c (.i .i64)] [.x [.i .i64, .i .i64, .i .i64, .i .i64, .i .i64, .i .i64, .i .i64, .b, .s]] lJ)]
theorem ME (k:Nat):SummOk Tryz.prog cod 126 (B9 k):=bA codOk Tryz.f126 (fun k=>aU [(155,wI k)]) OQ false [.tmp 2] 0 [] mixed Tryz.func126 (by kernel_rfl) (by kernel_rfl) (by kernel_rfl) (by kernel_rfl)
  (fun k=>Known.of tok eok codOk (all_cons (GS k) (aB)) gok)
  (fun k=>QuietOk.of (all_cons (fun h r=>⟨rfl,rfl⟩) (aB)))
  (fun a=>rfl)
  (all_cons (aI codOk (by kernel_rfl) (by (repeat intro _);show _=_;kernel_rfl) (fun k=>by (repeat intro _);show _=_;kernel_rfl)) (aB))
  (fun k=>by (repeat intro _);show _=_;kernel_rfl)
noncomputable def NL (k:Nat):bU K TyK:=sm cod (ByteArray) [.bo, .bo, .bo] [.c (.s), .c (.s), .c (.i .i64)] [] (HO) k [.c (.s)] [] (fun r=>(r,())) (fun v1=>v1) true
noncomputable abbrev ak_:List (Nat×Cut K TyK (ByteArray)):=[(6,ct cod [2,7,8,9] [.c (.i .i64), .c (.s), .c (.i .u64), .c (.i .i64)] [] oM),
  (11,ct cod [2,8,10,11] [.c (.i .i64), .c (.i .u64), .c (.s), .c (.i .i64)] [] mL)]
theorem W2 (k:Nat):SummOk Tryz.prog cod 125 (NL k):=bA codOk Tryz.f125 (fun k=>aU [(22,cQ k)]) ak_ false [.tmp 6] 0 [] mixed Tryz.func125 (by kernel_rfl) (by kernel_rfl) (by kernel_rfl) (by kernel_rfl)
  (fun k=>Known.of tok eok codOk (all_cons (cG k) (aB)) gok)
  (fun k=>QuietOk.of (all_cons (fun h r=>⟨rfl,rfl⟩) (aB)))
  (fun a=>rfl)
  (all_cons (aI codOk (by kernel_rfl) (by (repeat intro _);show _=_;kernel_rfl) (fun k=>by (repeat intro _);show _=_;kernel_rfl)) (all_cons (aI codOk (by kernel_rfl) (by (repeat intro _);show _=_;kernel_rfl) (fun k=>by (repeat intro _);show _=_;kernel_rfl)) (aB)))
  (fun k=>by (repeat intro _);show _=_;kernel_rfl)
noncomputable def oF (k:Nat):bU K TyK:=sm cod (ByteArray) [.bo, .bo, .bo] [.g [.i .i64, .i .i64, .i .i64, .i .i64, .i .i64, .i .i64, .i .i64, .b, .s], .c (.s), .c (.i .i64)] [] (fun k v1 v2 v3 v4 v5 v6 v7 v8 v9 v10 v11=>hH k (⟨v1,v2,v3,v4,v5,v6,v7,v8,v9⟩:aF) v10 v11) k [.c (.s)] [] (fun r=>(r,())) (fun v1=>v1) true
theorem sJ (k:Nat):SummOk Tryz.prog cod 88 (oF k):=bA codOk Tryz.f88 (fun k=>aU [(124,AX k),(22,cQ k),(126,B9 k),(125,NL k)]) [] false [.tmp 6] 0 [] mixed Tryz.func88 (by kernel_rfl) (by kernel_rfl) (by kernel_rfl) (by kernel_rfl)
  (fun k=>Known.of tok eok codOk (all_cons (FU k) (all_cons (cG k) (all_cons (ME k) (all_cons (W2 k) (aB))))) gok)
  (fun k=>QuietOk.of (all_cons (fun h r=>⟨rfl,rfl⟩) (all_cons (fun h r=>⟨rfl,rfl⟩) (all_cons (fun h r=>⟨rfl,rfl⟩) (all_cons (fun h r=>⟨rfl,rfl⟩) (aB))))))
  (fun a=>rfl)
  (aB)
  (fun k=>by (repeat intro _);show _=_;kernel_rfl)
noncomputable def vE (k:Nat):bU K TyK:=sm cod (aC) [.mv] [.g [.s, .i .i64, .o 0, .o 1, .s, .o 2, .o 3]] [.l .end, .l .parcel, .l .record, .l .record] (fun k v1 v2 v3 v4 v5 v6 v7=>rA k (⟨v1,v2,v4,v5,v3,v6,v7⟩:aC)) k [.g [.s, .i .i64, .o 4, .o 5, .s, .o 6, .o 7]] [.d, .d, .d, .d, .l .end, .l .parcel, .l .record, .l .record] (fun r=>(r.Key,r.Width,(),(),r.Forged,(),(),r.Ends,r.Flight,r.Given,r.Taken,())) (fun v1 v2 v3 v4 v5 v6 v7=>(⟨v1,v2,v4,v5,v3,v6,v7⟩:aC)) false
noncomputable abbrev P7:List (Nat×Cut K TyK (aC)):=[(2,ct cod [1,2,3] [.c (.r 4 0), .c (.r 5 0), .c (.i .i64)] [.d, .d, .d, .d, .x [.s, .i .i64, .o 6, .o 7, .s, .o 8, .o 9], .x [.s, .i .i64, .o 10, .o 11, .s, .o 12, .o 13], .l .end, .l .parcel, .l .record, .l .record, .l .end, .l .parcel, .l .record, .l .record] dW),
  (7,ct cod [1,2,3,4,5] [.c (.r 4 0), .c (.r 5 0), .c (.i .i64), .c (.r 6 0), .c (.i .i64)] [.d, .d, .d, .d, .x [.s, .i .i64, .o 7, .o 8, .s, .o 9, .o 10], .x [.s, .i .i64, .o 11, .o 12, .s, .o 13, .o 14], .x [.i .i64, .i .i64, .b, .i .i64, .i .i64, .i .i64, .b, .i .i64, .o 15, .i .i64, .o 16, .s, .o 17, .o 18, .s], .l .end, .l .parcel, .l .record, .l .record, .l .end, .l .parcel, .l .record, .l .record, .d, .d, .d, .l .packet] jC)]
theorem yX (k:Nat):SummOk Tryz.prog cod 56 (vE k):=bA codOk Tryz.f56 (fun k=>aU [(87,zL k),(88,oF k)]) P7 false [.cell 2 33] 4 [true,true,true,true] mixed Tryz.func56 (by kernel_rfl) (by kernel_rfl) (by kernel_rfl) (by kernel_rfl)
  (fun k=>Known.of tok eok codOk (all_cons (I4 k) (all_cons (sJ k) (aB))) gok)
  (fun k=>QuietOk.of (all_cons (fun h r=>by cases h) (all_cons (fun h r=>⟨rfl,rfl⟩) (aB))))
  (fun a=>rfl)
  (all_cons (aI codOk (by kernel_rfl) (by (repeat intro _);show _=_;kernel_rfl) (fun k=>by (repeat intro _);show _=_;kernel_rfl)) (all_cons (aI codOk (by kernel_rfl) (by (repeat intro _);show _=_;kernel_rfl) (fun k=>by (repeat intro _);show _=_;kernel_rfl)) (aB)))
  (fun k=>by (repeat intro _);show _=_;kernel_rfl)
noncomputable def lT (k:Nat):bU K TyK:=sm cod (List aE) [.bo, .bo] [.c (.l true .parcel), .c (.i .i64)] [] (jH) k [.c (.o 0)] [.l .parcel] (fun r=>((),r,())) (fun v1=>v1) false
theorem oI (k:Nat):SummOk Tryz.prog cod 59 (lT k):=bA codOk Tryz.f59 (fun k=>aU []) [] false [.tmp 4] 0 [] mixed Tryz.func59 (by kernel_rfl) (by kernel_rfl) (by kernel_rfl) (by kernel_rfl)
  (fun k=>Known.of tok eok codOk (aB) gok)
  (fun k=>QuietOk.of (aB))
  (fun a=>rfl)
  (aB)
  (fun k=>by (repeat intro _);show _=_;kernel_rfl)
noncomputable def C6 (k:Nat):bU K TyK:=sm cod (Int) [.bo] [.c (.s)] [] (n9) k [.c (.i .i64)] [] (fun r=>(r,())) (fun v1=>v1) true
noncomputable abbrev PM:List (Nat×Cut K TyK (Int)):=[(3,ct cod [0,3,4] [.c (.s), .c (.i .i64), .c (.i .i64)] [] jE)]
theorem MG (k:Nat):SummOk Tryz.prog cod 127 (C6 k):=bA codOk Tryz.f127 (fun k=>aU []) PM false [.tmp 2] 0 [] mixed Tryz.func127 (by kernel_rfl) (by kernel_rfl) (by kernel_rfl) (by kernel_rfl)
  (fun k=>Known.of tok eok codOk (aB) gok)
  (fun k=>QuietOk.of (aB))
  (fun a=>rfl)
  (all_cons (aI codOk (by kernel_rfl) (by (repeat intro _);show _=_;kernel_rfl) (fun k=>by (repeat intro _);show _=_;kernel_rfl)) (aB))
  (fun k=>by (repeat intro _);show _=_;kernel_rfl)
noncomputable def tQ (k:Nat):bU K TyK:=sm cod (aF×Bool) [.bo, .bo, .bo] [.c (.s), .c (.s), .c (.i .i64)] [] (nM) k [.g [.i .i64, .i .i64, .i .i64, .i .i64, .i .i64, .i .i64, .i .i64, .b, .s], .c (.b)] [] (fun r=>(r.1.Kind,r.1.From,r.1.Mine,r.1.Yours,r.1.Next,r.1.Mask,r.1.Seq,r.1.Last,r.1.Part,r.2,())) (fun v1 v2 v3 v4 v5 v6 v7 v8 v9 v10=>((⟨v1,v2,v3,v4,v5,v6,v7,v8,v9⟩:aF),v10)) true
noncomputable abbrev EJ:List (Nat×Cut K TyK (aF×Bool)):=[(11,ct cod [0,1,2,6,9] [.c (.s), .c (.s), .c (.i .i64), .c (.r 0 0), .c (.r 1 0)] [.x [.i .i64, .i .i64, .i .i64, .i .i64, .i .i64, .i .i64, .i .i64, .b, .s], .x [.i .i64, .i .i64, .i .i64, .i .i64, .i .i64, .i .i64, .i .i64, .b, .s]] fB)]
theorem BO (k:Nat):SummOk Tryz.prog cod 89 (tQ k):=bA codOk Tryz.f89 (fun k=>aU [(22,cQ k),(127,C6 k),(88,oF k)]) EJ false [.cell 6 128, .tmp 7] 0 [] mixed Tryz.func89 (by kernel_rfl) (by kernel_rfl) (by kernel_rfl) (by kernel_rfl)
  (fun k=>Known.of tok eok codOk (all_cons (cG k) (all_cons (MG k) (all_cons (sJ k) (aB)))) gok)
  (fun k=>QuietOk.of (all_cons (fun h r=>⟨rfl,rfl⟩) (all_cons (fun h r=>⟨rfl,rfl⟩) (all_cons (fun h r=>⟨rfl,rfl⟩) (aB)))))
  (fun a=>rfl)
  (all_cons (aI codOk (by kernel_rfl) (by (repeat intro _);show _=_;kernel_rfl) (fun k=>by (repeat intro _);show _=_;kernel_rfl)) (aB))
  (fun k=>by (repeat intro _);show _=_;kernel_rfl)
noncomputable def yW (k:Nat):bU K TyK:=sm cod (Int) [.bo] [.g [.i .i64, .l true .item]] [] (fun k v1 v2=>EZ k (⟨v1,v2⟩:aM)) k [.c (.i .i64)] [] (fun r=>(r,())) (fun v1=>v1) true
noncomputable abbrev LO:List (Nat×Cut K TyK (Int)):=[(2,ct cod [1,3] [.c (.r 0 0), .c (.i .i64)] [.x [.i .i64, .l true .item]] hC)]
theorem KK (k:Nat):SummOk Tryz.prog cod 156 (yW k):=bA codOk Tryz.f156 (fun k=>aU []) LO false [.tmp 2] 0 [] mixed Tryz.func156 (by kernel_rfl) (by kernel_rfl) (by kernel_rfl) (by kernel_rfl)
  (fun k=>Known.of tok eok codOk (aB) gok)
  (fun k=>QuietOk.of (aB))
  (fun a=>rfl)
  (all_cons (aI codOk (by kernel_rfl) (by (repeat intro _);show _=_;kernel_rfl) (fun k=>by (repeat intro _);show _=_;kernel_rfl)) (aB))
  (fun k=>by (repeat intro _);show _=_;kernel_rfl)
noncomputable def wF (k:Nat):bU K TyK:=sm cod (aM) [.bo, .bo, .bo] [.g [.i .i64, .l true .item], .c (.i .i64), .c (.i .i64)] [] (fun k v1 v2 v3 v4=>qK k (⟨v1,v2⟩:aM) v3 v4) k [.g [.i .i64, .o 0]] [.l .item] (fun r=>(r.Base,(),r.Items,())) (fun v1 v2=>(⟨v1,v2⟩:aM)) false
noncomputable abbrev JI:List (Nat×Cut K TyK (aM)):=[(9,ct cod [2,6,7,8] [.c (.i .i64), .c (.r 0 0), .c (.r 1 0), .c (.i .i64)] [.x [.i .i64, .o 2], .x [.i .i64, .o 3], .l .item, .l .item] cX),
  (13,ct cod [2,6,7,8] [.c (.i .i64), .c (.r 0 0), .c (.r 1 0), .c (.i .i64)] [.x [.i .i64, .o 2], .x [.i .i64, .o 3], .l .item, .l .item] cN)]
theorem F6 (k:Nat):SummOk Tryz.prog cod 128 (wF k):=bA codOk Tryz.f128 (fun k=>aU [(114,iS k),(119,mY k),(156,yW k),(22,cQ k)]) JI false [.cell 6 56] 0 [] mixed Tryz.func128 (by kernel_rfl) (by kernel_rfl) (by kernel_rfl) (by kernel_rfl)
  (fun k=>Known.of tok eok codOk (all_cons (kQ k) (all_cons (oR k) (all_cons (KK k) (all_cons (cG k) (aB))))) gok)
  (fun k=>QuietOk.of (all_cons (fun h r=>⟨rfl,rfl⟩) (all_cons (fun h r=>by cases h) (all_cons (fun h r=>⟨rfl,rfl⟩) (all_cons (fun h r=>⟨rfl,rfl⟩) (aB))))))
  (fun a=>rfl)
  (all_cons (aI codOk (by kernel_rfl) (by (repeat intro _);show _=_;kernel_rfl) (fun k=>by (repeat intro _);show _=_;kernel_rfl)) (all_cons (aI codOk (by kernel_rfl) (by (repeat intro _);show _=_;kernel_rfl) (fun k=>by (repeat intro _);show _=_;kernel_rfl)) (aB)))
  (fun k=>by (repeat intro _);show _=_;kernel_rfl)
noncomputable def AM (k:Nat):bU K TyK:=sm cod (aL) [.mv] [.g [.i .i64, .o 0, .s, .o 1]] [.l .held, .l .str] (fun k v1 v2 v3 v4=>xN k (⟨v1,v3,v2,v4⟩:aL)) k [.g [.i .i64, .o 2, .s, .o 3]] [.d, .d, .l .held, .l .str] (fun r=>(r.Next,(),r.Open,(),r.Held,r.Ready,())) (fun v1 v2 v3 v4=>(⟨v1,v3,v2,v4⟩:aL)) false
noncomputable abbrev UW:List (Nat×Cut K TyK (aL)):=[(1,ct cod [1,2] [.c (.r 2 0), .c (.r 3 0)] [.d, .d, .x [.i .i64, .o 4, .s, .o 5], .x [.i .i64, .o 6, .s, .o 7], .l .held, .l .str, .l .held, .l .str] fZ)]
theorem FH (k:Nat):SummOk Tryz.prog cod 121 (AM k):=bA codOk Tryz.f121 (fun k=>aU [(154,wW k)]) UW false [.cell 2 59] 2 [true,true] mixed Tryz.func121 (by kernel_rfl) (by kernel_rfl) (by kernel_rfl) (by kernel_rfl)
  (fun k=>Known.of tok eok codOk (all_cons (CR k) (aB)) gok)
  (fun k=>QuietOk.of (all_cons (fun h r=>⟨rfl,rfl⟩) (aB)))
  (fun a=>rfl)
  (all_cons (aI codOk (by kernel_rfl) (by (repeat intro _);show _=_;kernel_rfl) (fun k=>by (repeat intro _);show _=_;kernel_rfl)) (aB))
  (fun k=>by (repeat intro _);show _=_;kernel_rfl)
noncomputable def xW (k:Nat):bU K TyK:=sm cod (aL) [.bo, .bo, .bo] [.g [.i .i64, .l true .held, .s, .l true .str], .c (.i .i64), .g [.s, .b]] [] (fun k v1 v2 v3 v4 v5 v6 v7=>qD k (⟨v1,v2,v3,v4⟩:aL) v5 (⟨v6,v7⟩:cA)) k [.g [.i .i64, .o 0, .s, .o 1]] [.l .held, .l .str] (fun r=>(r.Next,(),r.Open,(),r.Held,r.Ready,())) (fun v1 v2 v3 v4=>(⟨v1,v3,v2,v4⟩:aL)) false
noncomputable abbrev I8:List (Nat×Cut K TyK (aL)):=[(9,ct cod [1,3,5,6,7,8,9,10] [.c (.i .i64), .c (.r 0 0), .c (.r 1 0), .c (.r 2 0), .c (.r 3 0), .c (.o 4), .c (.b), .c (.i .i64)] [.x [.i .i64, .l true .held, .s, .l true .str], .x [.s, .b], .x [.i .i64, .o 5, .s, .o 6], .x [.i .i64, .o 7, .s, .o 8], .l .held, .l .held, .l .str, .l .held, .l .str] cZ),
  (16,ct cod [1,3,5,6,7,8,9,10] [.c (.i .i64), .c (.r 0 0), .c (.r 1 0), .c (.r 2 0), .c (.r 3 0), .c (.o 4), .c (.b), .c (.i .i64)] [.x [.i .i64, .l true .held, .s, .l true .str], .x [.s, .b], .x [.i .i64, .o 5, .s, .o 6], .x [.i .i64, .o 7, .s, .o 8], .l .held, .l .held, .l .str, .l .held, .l .str] dQ),
  (19,ct cod [6,7,8] [.c (.r 0 0), .c (.r 1 0), .c (.o 2)] [.x [.i .i64, .o 3, .s, .o 4], .x [.i .i64, .o 5, .s, .o 6], .l .held, .l .held, .l .str, .l .held, .l .str] gQ)]
theorem G4 (k:Nat):SummOk Tryz.prog cod 129 (xW k):=bA codOk Tryz.f129 (fun k=>aU [(115,iZ k),(120,qE k),(153,uK k),(121,AM k)]) I8 false [.cell 6 59] 0 [] mixed Tryz.func129 (by kernel_rfl) (by kernel_rfl) (by kernel_rfl) (by kernel_rfl)
  (fun k=>Known.of tok eok codOk (all_cons (kK k) (all_cons (tB k) (all_cons (zX k) (all_cons (FH k) (aB))))) gok)
  (fun k=>QuietOk.of (all_cons (fun h r=>⟨rfl,rfl⟩) (all_cons (fun h r=>by cases h) (all_cons (fun h r=>⟨rfl,rfl⟩) (all_cons (fun h r=>by cases h) (aB))))))
  (fun a=>rfl)
  (all_cons (aI codOk (by kernel_rfl) (by (repeat intro _);show _=_;kernel_rfl) (fun k=>by (repeat intro _);show _=_;kernel_rfl)) (all_cons (aI codOk (by kernel_rfl) (by (repeat intro _);show _=_;kernel_rfl) (fun k=>by (repeat intro _);show _=_;kernel_rfl)) (all_cons (aI codOk (by kernel_rfl) (by (repeat intro _);show _=_;kernel_rfl) (fun k=>by (repeat intro _);show _=_;kernel_rfl)) (aB))))
  (fun k=>by (repeat intro _);show _=_;kernel_rfl)
noncomputable def zB (k:Nat):bU K TyK:=sm cod (aY) [.bo, .bo] [.g [.i .i64, .b, .i .i64, .i .i64, .i .i64, .b, .i .i64, .l true .item, .i .i64, .l true .held, .s, .l true .str], .g [.i .i64, .i .i64, .i .i64, .i .i64, .i .i64, .i .i64, .i .i64, .b, .s]] [] (fun k v1 v2 v3 v4 v5 v6 v7 v8 v9 v10 v11 v12 v13 v14 v15 v16 v17 v18 v19 v20 v21=>sB k (⟨v1,v2,v3,v4,v5,v6,(⟨v7,v8⟩:aM),(⟨v9,v10,v11,v12⟩:aL)⟩:aN) (⟨v13,v14,v15,v16,v17,v18,v19,v20,v21⟩:aF)) k [.g [.i .i64, .i .i64, .b, .i .i64, .i .i64, .i .i64, .b, .i .i64, .o 0, .i .i64, .o 1, .s, .o 2, .o 3, .s]] [.l .item, .l .held, .l .str, .l .packet] (fun r=>(r.Code,r.End.Number,r.End.Up,r.End.Life,r.End.Peer,r.End.Since,r.End.Owes,r.End.Send.Base,(),r.End.Take.Next,(),r.End.Take.Open,(),(),r.Text,r.End.Send.Items,r.End.Take.Held,r.End.Take.Ready,r.Out,())) (fun v1 v2 v3 v4 v5 v6 v7 v8 v9 v10 v11 v12 v13 v14 v15=>(⟨v1,(⟨v2,v3,v4,v5,v6,v7,(⟨v8,v12⟩:aM),(⟨v9,v13,v10,v14⟩:aL)⟩:aN),v15,v11⟩:aY)) false
noncomputable abbrev MJ:List (Nat×Cut K TyK (aY)):=[(11,ct cod [3,4,5] [.c (.r 0 0), .c (.r 1 0), .c (.r 2 0)] [.x [.i .i64, .i .i64, .i .i64, .i .i64, .i .i64, .i .i64, .i .i64, .b, .s], .x [.i .i64, .i .i64, .b, .i .i64, .i .i64, .i .i64, .b, .i .i64, .o 3, .i .i64, .o 4, .s, .o 5, .o 6, .s], .x [.i .i64, .b, .i .i64, .i .i64, .i .i64, .b, .i .i64, .o 7, .i .i64, .o 8, .s, .o 9], .l .item, .l .held, .l .str, .l .packet, .l .item, .l .held, .l .str] iR)]
theorem IZ (k:Nat):SummOk Tryz.prog cod 90 (zB k):=bA codOk Tryz.f90 (fun k=>aU [(82,d4 k),(84,iF k),(124,AX k),(128,wF k),(129,xW k)]) MJ false [.cell 4 82] 0 [] mixed Tryz.func90 (by kernel_rfl) (by kernel_rfl) (by kernel_rfl) (by kernel_rfl)
  (fun k=>Known.of tok eok codOk (all_cons (eI k) (all_cons (jG k) (all_cons (FU k) (all_cons (F6 k) (all_cons (G4 k) (aB)))))) gok)
  (fun k=>QuietOk.of (all_cons (fun h r=>⟨rfl,rfl⟩) (all_cons (fun h r=>by cases h) (all_cons (fun h r=>⟨rfl,rfl⟩) (all_cons (fun h r=>by cases h) (all_cons (fun h r=>by cases h) (aB)))))))
  (fun a=>rfl)
  (all_cons (aI codOk (by kernel_rfl) (by (repeat intro _);show _=_;kernel_rfl) (fun k=>by (repeat intro _);show _=_;kernel_rfl)) (aB))
  (fun k=>by (repeat intro _);show _=_;kernel_rfl)
noncomputable def tD (k:Nat):bU K TyK:=sm cod (aC) [.mv, .mv] [.g [.s, .i .i64, .o 0, .o 1, .s, .o 2, .o 3], .c (.i .i64)] [.l .end, .l .parcel, .l .record, .l .record] (fun k v1 v2 v3 v4 v5 v6 v7 v8=>oU k (⟨v1,v2,v5,v6,v3,v7,v8⟩:aC) v4) k [.g [.s, .i .i64, .o 4, .o 5, .s, .o 6, .o 7]] [.d, .d, .d, .d, .l .end, .l .parcel, .l .record, .l .record] (fun r=>(r.Key,r.Width,(),(),r.Forged,(),(),r.Ends,r.Flight,r.Given,r.Taken,())) (fun v1 v2 v3 v4 v5 v6 v7=>(⟨v1,v2,v4,v5,v3,v6,v7⟩:aC)) false
noncomputable abbrev MI:List (Nat×Cut K TyK (aC)):=[(8,ct cod [2,4,5,6] [.c (.r 4 0), .c (.r 5 0), .c (.r 6 0), .c (.r 7 0)] [.d, .d, .d, .d, .x [.s, .i .i64, .o 8, .o 9, .s, .o 10, .o 11], .x [.s, .i .i64, .o 12, .o 13, .s, .o 14, .o 15], .x [.i .i64, .s, .s], .x [.i .i64, .i .i64, .i .i64, .i .i64, .i .i64, .i .i64, .i .i64, .b, .s], .l .end, .l .parcel, .l .record, .l .record, .l .end, .l .parcel, .l .record, .l .record] gZ)]
theorem xX (k:Nat):SummOk Tryz.prog cod 58 (tD k):=bA codOk Tryz.f58 (fun k=>aU [(59,lT k),(89,tQ k),(90,zB k)]) MI false [.cell 4 33] 4 [true,true,true,true] mixed Tryz.func58 (by kernel_rfl) (by kernel_rfl) (by kernel_rfl) (by kernel_rfl)
  (fun k=>Known.of tok eok codOk (all_cons (oI k) (all_cons (BO k) (all_cons (IZ k) (aB)))) gok)
  (fun k=>QuietOk.of (all_cons (fun h r=>by cases h) (all_cons (fun h r=>⟨rfl,rfl⟩) (all_cons (fun h r=>by cases h) (aB)))))
  (fun a=>rfl)
  (all_cons (aI codOk (by kernel_rfl) (by (repeat intro _);show _=_;kernel_rfl) (fun k=>by (repeat intro _);show _=_;kernel_rfl)) (aB))
  (fun k=>by (repeat intro _);show _=_;kernel_rfl)
noncomputable def w9 (k:Nat):bU K TyK:=sm cod (aC) [.mv, .mv] [.g [.s, .i .i64, .o 0, .o 1, .s, .o 2, .o 3], .g [.i .i64, .i .i64, .i .i64, .i .i64, .s]] [.l .end, .l .parcel, .l .record, .l .record] (fun k v1 v2 v3 v4 v5 v6 v7 v8 v9 v10 v11 v12=>qB k (⟨v1,v2,v9,v10,v3,v11,v12⟩:aC) (⟨v4,v5,v6,v7,v8⟩:bI)) k [.g [.s, .i .i64, .o 4, .o 5, .s, .o 6, .o 7]] [.d, .d, .d, .d, .l .end, .l .parcel, .l .record, .l .record] (fun r=>(r.Key,r.Width,(),(),r.Forged,(),(),r.Ends,r.Flight,r.Given,r.Taken,())) (fun v1 v2 v3 v4 v5 v6 v7=>(⟨v1,v2,v4,v5,v3,v6,v7⟩:aC)) false
noncomputable abbrev IX:List (Nat×Cut K TyK (aC)):=[(11,ct cod [2,4] [.c (.r 4 0), .c (.r 5 0)] [.d, .d, .d, .d, .x [.s, .i .i64, .o 6, .o 7, .s, .o 8, .o 9], .x [.s, .i .i64, .o 10, .o 11, .s, .o 12, .o 13], .l .end, .l .parcel, .l .record, .l .record, .l .end, .l .parcel, .l .record, .l .record] gX),
  (22,ct cod [2,3,4,5] [.c (.r 4 0), .c (.r 5 0), .c (.r 6 0), .c (.r 7 0)] [.d, .d, .d, .d, .x [.s, .i .i64, .o 8, .o 9, .s, .o 10, .o 11], .x [.i .i64, .i .i64, .i .i64, .i .i64, .s], .x [.s, .i .i64, .o 12, .o 13, .s, .o 14, .o 15], .x [.i .i64, .s, .s], .l .end, .l .parcel, .l .record, .l .record, .l .end, .l .parcel, .l .record, .l .record] bO)]
theorem G3 (k:Nat):SummOk Tryz.prog cod 93 (w9 k):=bA codOk Tryz.f93 (fun k=>aU [(58,tD k),(59,lT k)]) IX false [.cell 4 33] 4 [true,true,true,true] mixed Tryz.func93 (by kernel_rfl) (by kernel_rfl) (by kernel_rfl) (by kernel_rfl)
  (fun k=>Known.of tok eok codOk (all_cons (xX k) (all_cons (oI k) (aB))) gok)
  (fun k=>QuietOk.of (all_cons (fun h r=>by cases h) (all_cons (fun h r=>by cases h) (aB))))
  (fun a=>rfl)
  (all_cons (aI codOk (by kernel_rfl) (by (repeat intro _);show _=_;kernel_rfl) (fun k=>by (repeat intro _);show _=_;kernel_rfl)) (all_cons (aI codOk (by kernel_rfl) (by (repeat intro _);show _=_;kernel_rfl) (fun k=>by (repeat intro _);show _=_;kernel_rfl)) (aB)))
  (fun k=>by (repeat intro _);show _=_;kernel_rfl)
noncomputable def zC (k:Nat):bU K TyK:=sm cod (aN) [.bo] [.g [.i .i64, .b, .i .i64, .i .i64, .i .i64, .b, .i .i64, .l true .item, .i .i64, .l true .held, .s, .l true .str]] [] (fun k v1 v2 v3 v4 v5 v6 v7 v8 v9 v10 v11 v12=>sC k (⟨v1,v2,v3,v4,v5,v6,(⟨v7,v8⟩:aM),(⟨v9,v10,v11,v12⟩:aL)⟩:aN)) k [.g [.i .i64, .b, .i .i64, .i .i64, .i .i64, .b, .i .i64, .o 0, .i .i64, .o 1, .s, .o 2]] [.l .item, .l .held, .l .str] (fun r=>(r.Number,r.Up,r.Life,r.Peer,r.Since,r.Owes,r.Send.Base,(),r.Take.Next,(),r.Take.Open,(),r.Send.Items,r.Take.Held,r.Take.Ready,())) (fun v1 v2 v3 v4 v5 v6 v7 v8 v9 v10 v11 v12=>(⟨v1,v2,v3,v4,v5,v6,(⟨v7,v10⟩:aM),(⟨v8,v11,v9,v12⟩:aL)⟩:aN)) false
theorem LG (k:Nat):SummOk Tryz.prog cod 91 (zC k):=bA codOk Tryz.f91 (fun k=>aU [(82,d4 k)]) [] false [.cell 2 61] 0 [] mixed Tryz.func91 (by kernel_rfl) (by kernel_rfl) (by kernel_rfl) (by kernel_rfl)
  (fun k=>Known.of tok eok codOk (all_cons (eI k) (aB)) gok)
  (fun k=>QuietOk.of (all_cons (fun h r=>⟨rfl,rfl⟩) (aB)))
  (fun a=>rfl)
  (aB)
  (fun k=>by (repeat intro _);show _=_;kernel_rfl)
noncomputable def zF (k:Nat):bU K TyK:=sm cod (aN) [.bo] [.g [.i .i64, .b, .i .i64, .i .i64, .i .i64, .b, .i .i64, .l true .item, .i .i64, .l true .held, .s, .l true .str]] [] (fun k v1 v2 v3 v4 v5 v6 v7 v8 v9 v10 v11 v12=>sK k (⟨v1,v2,v3,v4,v5,v6,(⟨v7,v8⟩:aM),(⟨v9,v10,v11,v12⟩:aL)⟩:aN)) k [.g [.i .i64, .b, .i .i64, .i .i64, .i .i64, .b, .i .i64, .o 0, .i .i64, .o 1, .s, .o 2]] [.l .item, .l .held, .l .str] (fun r=>(r.Number,r.Up,r.Life,r.Peer,r.Since,r.Owes,r.Send.Base,(),r.Take.Next,(),r.Take.Open,(),r.Send.Items,r.Take.Held,r.Take.Ready,())) (fun v1 v2 v3 v4 v5 v6 v7 v8 v9 v10 v11 v12=>(⟨v1,v2,v3,v4,v5,v6,(⟨v7,v10⟩:aM),(⟨v8,v11,v9,v12⟩:aL)⟩:aN)) false
theorem H7 (k:Nat):SummOk Tryz.prog cod 92 (zF k):=bA codOk Tryz.f92 (fun k=>aU [(82,d4 k),(84,iF k)]) [] false [.cell 2 61] 0 [] mixed Tryz.func92 (by kernel_rfl) (by kernel_rfl) (by kernel_rfl) (by kernel_rfl)
  (fun k=>Known.of tok eok codOk (all_cons (eI k) (all_cons (jG k) (aB))) gok)
  (fun k=>QuietOk.of (all_cons (fun h r=>⟨rfl,rfl⟩) (all_cons (fun h r=>by cases h) (aB))))
  (fun a=>rfl)
  (aB)
  (fun k=>by (repeat intro _);show _=_;kernel_rfl)
noncomputable def xK (k:Nat):bU K TyK:=sm cod (aL×ByteArray×Bool) [.bo] [.g [.i .i64, .l true .held, .s, .l true .str]] [] (fun k v1 v2 v3 v4=>pR k (⟨v1,v2,v3,v4⟩:aL)) k [.g [.i .i64, .o 0, .s, .o 1], .c (.s), .c (.b)] [.l .held, .l .str] (fun r=>(r.1.Next,(),r.1.Open,(),r.2.1,r.2.2,r.1.Held,r.1.Ready,())) (fun v1 v2 v3 v4 v5 v6=>((⟨v1,v5,v2,v6⟩:aL),v3,v4)) false
theorem GB (k:Nat):SummOk Tryz.prog cod 85 (xK k):=bA codOk Tryz.f85 (fun k=>aU [(115,iZ k),(120,qE k),(121,AM k)]) [] false [.cell 2 59, .tmp 3, .tmp 4] 0 [] mixed Tryz.func85 (by kernel_rfl) (by kernel_rfl) (by kernel_rfl) (by kernel_rfl)
  (fun k=>Known.of tok eok codOk (all_cons (kK k) (all_cons (tB k) (all_cons (FH k) (aB)))) gok)
  (fun k=>QuietOk.of (all_cons (fun h r=>⟨rfl,rfl⟩) (all_cons (fun h r=>by cases h) (all_cons (fun h r=>by cases h) (aB)))))
  (fun a=>rfl)
  (aB)
  (fun k=>by (repeat intro _);show _=_;kernel_rfl)
noncomputable def tG (k:Nat):bU K TyK:=sm cod (aY) [.bo] [.g [.i .i64, .b, .i .i64, .i .i64, .i .i64, .b, .i .i64, .l true .item, .i .i64, .l true .held, .s, .l true .str]] [] (fun k v1 v2 v3 v4 v5 v6 v7 v8 v9 v10 v11 v12=>oT k (⟨v1,v2,v3,v4,v5,v6,(⟨v7,v8⟩:aM),(⟨v9,v10,v11,v12⟩:aL)⟩:aN)) k [.g [.i .i64, .i .i64, .b, .i .i64, .i .i64, .i .i64, .b, .i .i64, .o 0, .i .i64, .o 1, .s, .o 2, .o 3, .s]] [.l .item, .l .held, .l .str, .l .packet] (fun r=>(r.Code,r.End.Number,r.End.Up,r.End.Life,r.End.Peer,r.End.Since,r.End.Owes,r.End.Send.Base,(),r.End.Take.Next,(),r.End.Take.Open,(),(),r.Text,r.End.Send.Items,r.End.Take.Held,r.End.Take.Ready,r.Out,())) (fun v1 v2 v3 v4 v5 v6 v7 v8 v9 v10 v11 v12 v13 v14 v15=>(⟨v1,(⟨v2,v3,v4,v5,v6,v7,(⟨v8,v12⟩:aM),(⟨v9,v13,v10,v14⟩:aL)⟩:aN),v15,v11⟩:aY)) false
theorem xG (k:Nat):SummOk Tryz.prog cod 52 (tG k):=bA codOk Tryz.f52 (fun k=>aU [(82,d4 k),(85,xK k),(84,iF k)]) [] false [.cell 2 82] 0 [] mixed Tryz.func52 (by kernel_rfl) (by kernel_rfl) (by kernel_rfl) (by kernel_rfl)
  (fun k=>Known.of tok eok codOk (all_cons (eI k) (all_cons (GB k) (all_cons (jG k) (aB)))) gok)
  (fun k=>QuietOk.of (all_cons (fun h r=>⟨rfl,rfl⟩) (all_cons (fun h r=>by cases h) (all_cons (fun h r=>by cases h) (aB)))))
  (fun a=>rfl)
  (aB)
  (fun k=>by (repeat intro _);show _=_;kernel_rfl)
noncomputable def w8 (k:Nat):bU K TyK:=sm cod (aC) [.mv, .mv] [.g [.s, .i .i64, .o 0, .o 1, .s, .o 2, .o 3], .g [.i .i64, .i .i64, .i .i64, .i .i64, .s]] [.l .end, .l .parcel, .l .record, .l .record] (fun k v1 v2 v3 v4 v5 v6 v7 v8 v9 v10 v11 v12=>qP k (⟨v1,v2,v9,v10,v3,v11,v12⟩:aC) (⟨v4,v5,v6,v7,v8⟩:bI)) k [.g [.s, .i .i64, .o 4, .o 5, .s, .o 6, .o 7]] [.d, .d, .d, .d, .l .end, .l .parcel, .l .record, .l .record] (fun r=>(r.Key,r.Width,(),(),r.Forged,(),(),r.Ends,r.Flight,r.Given,r.Taken,())) (fun v1 v2 v3 v4 v5 v6 v7=>(⟨v1,v2,v4,v5,v3,v6,v7⟩:aC)) false
noncomputable abbrev RJ:List (Nat×Cut K TyK (aC)):=[(18,ct cod [2,4] [.c (.r 4 0), .c (.r 5 0)] [.d, .d, .d, .d, .x [.s, .i .i64, .o 6, .o 7, .s, .o 8, .o 9], .x [.s, .i .i64, .o 10, .o 11, .s, .o 12, .o 13], .l .end, .l .parcel, .l .record, .l .record, .l .end, .l .parcel, .l .record, .l .record] cK)]
theorem B1 (k:Nat):SummOk Tryz.prog cod 60 (w8 k):=bA codOk Tryz.f60 (fun k=>aU [(91,zC k),(92,zF k),(48,s6 k),(52,tG k)]) RJ false [.cell 4 33] 4 [true,true,true,true] mixed Tryz.func60 (by kernel_rfl) (by kernel_rfl) (by kernel_rfl) (by kernel_rfl)
  (fun k=>Known.of tok eok codOk (all_cons (LG k) (all_cons (H7 k) (all_cons (xD k) (all_cons (xG k) (aB))))) gok)
  (fun k=>QuietOk.of (all_cons (fun h r=>by cases h) (all_cons (fun h r=>by cases h) (all_cons (fun h r=>by cases h) (all_cons (fun h r=>by cases h) (aB))))))
  (fun a=>rfl)
  (all_cons (aI codOk (by kernel_rfl) (by (repeat intro _);show _=_;kernel_rfl) (fun k=>by (repeat intro _);show _=_;kernel_rfl)) (aB))
  (fun k=>by (repeat intro _);show _=_;kernel_rfl)
noncomputable def H2 (k:Nat):bU K TyK:=sm cod (aC) [.mv, .mv] [.g [.s, .i .i64, .o 0, .o 1, .s, .o 2, .o 3], .g [.i .i64, .i .i64, .i .i64, .i .i64, .s]] [.l .end, .l .parcel, .l .record, .l .record] (fun k v1 v2 v3 v4 v5 v6 v7 v8 v9 v10 v11 v12=>CA k (⟨v1,v2,v9,v10,v3,v11,v12⟩:aC) (⟨v4,v5,v6,v7,v8⟩:bI)) k [.g [.s, .i .i64, .o 4, .o 5, .s, .o 6, .o 7]] [.d, .d, .d, .d, .l .end, .l .parcel, .l .record, .l .record] (fun r=>(r.Key,r.Width,(),(),r.Forged,(),(),r.Ends,r.Flight,r.Given,r.Taken,())) (fun v1 v2 v3 v4 v5 v6 v7=>(⟨v1,v2,v4,v5,v3,v6,v7⟩:aC)) false
theorem QO (k:Nat):SummOk Tryz.prog cod 61 (H2 k):=bA codOk Tryz.f61 (fun k=>aU [(56,vE k),(22,cQ k),(93,w9 k),(60,w8 k)]) [] false [.cell 4 33] 4 [true,true,true,true] mixed Tryz.func61 (by kernel_rfl) (by kernel_rfl) (by kernel_rfl) (by kernel_rfl)
  (fun k=>Known.of tok eok codOk (all_cons (yX k) (all_cons (cG k) (all_cons (G3 k) (all_cons (B1 k) (aB))))) gok)
  (fun k=>QuietOk.of (all_cons (fun h r=>by cases h) (all_cons (fun h r=>⟨rfl,rfl⟩) (all_cons (fun h r=>by cases h) (all_cons (fun h r=>by cases h) (aB))))))
  (fun a=>rfl)
  (aB)
  (fun k=>by (repeat intro _);show _=_;kernel_rfl)
noncomputable def BT (k:Nat):bU K TyK:=sm cod (aC) [.bo, .bo] [.g [.s, .i .i64, .l true .end, .l true .parcel, .s, .l true .record, .l true .record], .g [.i .i64, .i .i64, .i .i64, .i .i64, .s]] [] (fun k v1 v2 v3 v4 v5 v6 v7 v8 v9 v10 v11 v12=>uU k (⟨v1,v2,v3,v4,v5,v6,v7⟩:aC) (⟨v8,v9,v10,v11,v12⟩:bI)) k [.g [.s, .i .i64, .o 0, .o 1, .s, .o 2, .o 3]] [.l .end, .l .parcel, .l .record, .l .record] (fun r=>(r.Key,r.Width,(),(),r.Forged,(),(),r.Ends,r.Flight,r.Given,r.Taken,())) (fun v1 v2 v3 v4 v5 v6 v7=>(⟨v1,v2,v4,v5,v3,v6,v7⟩:aC)) false
theorem EF (k:Nat):SummOk Tryz.prog cod 32 (BT k):=bA codOk Tryz.f32 (fun k=>aU [(54,hI k),(55,vJ k),(61,H2 k)]) [] false [.cell 4 33] 0 [] mixed Tryz.func32 (by kernel_rfl) (by kernel_rfl) (by kernel_rfl) (by kernel_rfl)
  (fun k=>Known.of tok eok codOk (all_cons (jL k) (all_cons (zI k) (all_cons (QO k) (aB)))) gok)
  (fun k=>QuietOk.of (all_cons (fun h r=>⟨rfl,rfl⟩) (all_cons (fun h r=>by cases h) (all_cons (fun h r=>by cases h) (aB)))))
  (fun a=>rfl)
  (aB)
  (fun k=>by (repeat intro _);show _=_;kernel_rfl)
noncomputable def DJ (k:Nat):bU K TyK:=sm cod (aC×ByteArray) [.mv, .bo] [.g [.s, .i .i64, .o 0, .o 1, .s, .o 2, .o 3], .c (.s)] [.l .end, .l .parcel, .l .record, .l .record] (fun k v1 v2 v3 v4 v5 v6 v7 v8=>u6 k (⟨v1,v2,v5,v6,v3,v7,v8⟩:aC) v4) k [.g [.s, .i .i64, .o 4, .o 5, .s, .o 6, .o 7], .c (.s)] [.d, .d, .d, .d, .l .end, .l .parcel, .l .record, .l .record] (fun r=>(r.1.Key,r.1.Width,(),(),r.1.Forged,(),(),r.2,r.1.Ends,r.1.Flight,r.1.Given,r.1.Taken,())) (fun v1 v2 v3 v4 v5 v6 v7 v8=>((⟨v1,v2,v5,v6,v3,v7,v8⟩:aC),v4)) false
noncomputable abbrev PK:List (Nat×Cut K TyK (aC×ByteArray)):=[(3,ct cod [2,4,6,7] [.c (.r 4 0), .c (.r 5 0), .c (.s), .c (.i .i64)] [.d, .d, .d, .d, .x [.s, .i .i64, .o 6, .o 7, .s, .o 8, .o 9], .x [.s, .i .i64, .o 10, .o 11, .s, .o 12, .o 13], .l .end, .l .parcel, .l .record, .l .record, .l .end, .l .parcel, .l .record, .l .record] jD)]
theorem LX (k:Nat):SummOk Tryz.prog cod 24 (DJ k):=bA codOk Tryz.f24 (fun k=>aU [(26,nO k),(48,s6 k),(32,BT k),(18,eQ k)]) PK false [.cell 4 33, .tmp 5] 4 [true,true,true,true] mixed Tryz.func24 (by kernel_rfl) (by kernel_rfl) (by kernel_rfl) (by kernel_rfl)
  (fun k=>Known.of tok eok codOk (all_cons (pF k) (all_cons (xD k) (all_cons (EF k) (all_cons (gF k) (aB))))) gok)
  (fun k=>QuietOk.of (all_cons (fun h r=>⟨rfl,rfl⟩) (all_cons (fun h r=>by cases h) (all_cons (fun h r=>by cases h) (all_cons (fun h r=>⟨rfl,rfl⟩) (aB))))))
  (fun a=>rfl)
  (all_cons (aI codOk (by kernel_rfl) (by (repeat intro _);show _=_;kernel_rfl) (fun k=>by (repeat intro _);show _=_;kernel_rfl)) (aB))
  (fun k=>by (repeat intro _);show _=_;kernel_rfl)
noncomputable def FC (k:Nat):bU K TyK:=sm cod (ByteArray) [.bo] [.g [.i .i64, .b, .i .i64, .i .i64, .i .i64, .b, .i .i64, .l true .item, .i .i64, .l true .held, .s, .l true .str]] [] (fun k v1 v2 v3 v4 v5 v6 v7 v8 v9 v10 v11 v12=>uA k (⟨v1,v2,v3,v4,v5,v6,(⟨v7,v8⟩:aM),(⟨v9,v10,v11,v12⟩:aL)⟩:aN)) k [.c (.s)] [] (fun r=>(r,())) (fun v1=>v1) true
theorem O8 (k:Nat):SummOk Tryz.prog cod 49 (FC k):=bA codOk Tryz.f49 (fun k=>aU [(18,eQ k)]) [] false [.tmp 2] 0 [] mixed Tryz.func49 (by kernel_rfl) (by kernel_rfl) (by kernel_rfl) (by kernel_rfl)
  (fun k=>Known.of tok eok codOk (all_cons (gF k) (aB)) gok)
  (fun k=>QuietOk.of (all_cons (fun h r=>⟨rfl,rfl⟩) (aB)))
  (fun a=>rfl)
  (aB)
  (fun k=>by (repeat intro _);show _=_;kernel_rfl)
noncomputable def EV (k:Nat):bU K TyK:=sm cod (Bool) [.bo] [.g [.s, .i .i64, .l true .end, .l true .parcel, .s, .l true .record, .l true .record]] [] (fun k v1 v2 v3 v4 v5 v6 v7=>yH k (⟨v1,v2,v3,v4,v5,v6,v7⟩:aC)) k [.c (.b)] [] (fun r=>(r,())) (fun v1=>v1) true
noncomputable abbrev SW:List (Nat×Cut K TyK (Bool)):=[(4,ct cod [1,3] [.c (.r 0 0), .c (.i .i64)] [.x [.s, .i .i64, .l true .end, .l true .parcel, .s, .l true .record, .l true .record]] iP),
  (9,ct cod [1,3,4,5,6] [.c (.r 0 0), .c (.i .i64), .c (.r 1 0), .c (.i .i64), .c (.i .i64)] [.x [.s, .i .i64, .l true .end, .l true .parcel, .s, .l true .record, .l true .record], .x [.i .i64, .i .i64, .i .i64, .s]] kD),
  (10,ct cod [1,3,4,5,6] [.c (.r 0 0), .c (.i .i64), .c (.r 1 0), .c (.i .i64), .c (.i .i64)] [.x [.s, .i .i64, .l true .end, .l true .parcel, .s, .l true .record, .l true .record], .x [.i .i64, .i .i64, .i .i64, .s]] eP),
  (15,ct cod [1,3,4,5,7,8] [.c (.r 0 0), .c (.i .i64), .c (.r 1 0), .c (.i .i64), .c (.b), .c (.i .i64)] [.x [.s, .i .i64, .l true .end, .l true .parcel, .s, .l true .record, .l true .record], .x [.i .i64, .i .i64, .i .i64, .s]] gJ),
  (16,ct cod [1,3,4,5,7,8] [.c (.r 0 0), .c (.i .i64), .c (.r 1 0), .c (.i .i64), .c (.b), .c (.i .i64)] [.x [.s, .i .i64, .l true .end, .l true .parcel, .s, .l true .record, .l true .record], .x [.i .i64, .i .i64, .i .i64, .s]] dB)]
theorem P1 (k:Nat):SummOk Tryz.prog cod 50 (EV k):=bA codOk Tryz.f50 (fun k=>aU [(54,hI k)]) SW false [.tmp 2] 0 [] mixed Tryz.func50 (by kernel_rfl) (by kernel_rfl) (by kernel_rfl) (by kernel_rfl)
  (fun k=>Known.of tok eok codOk (all_cons (jL k) (aB)) gok)
  (fun k=>QuietOk.of (all_cons (fun h r=>⟨rfl,rfl⟩) (aB)))
  (fun a=>rfl)
  (all_cons (aI codOk (by kernel_rfl) (by (repeat intro _);show _=_;kernel_rfl) (fun k=>by (repeat intro _);show _=_;kernel_rfl)) (all_cons (aI codOk (by kernel_rfl) (by (repeat intro _);show _=_;kernel_rfl) (fun k=>by (repeat intro _);show _=_;kernel_rfl)) (all_cons (aI codOk (by kernel_rfl) (by (repeat intro _);show _=_;kernel_rfl) (fun k=>by (repeat intro _);show _=_;kernel_rfl)) (all_cons (aI codOk (by kernel_rfl) (by (repeat intro _);show _=_;kernel_rfl) (fun k=>by (repeat intro _);show _=_;kernel_rfl)) (all_cons (aI codOk (by kernel_rfl) (by (repeat intro _);show _=_;kernel_rfl) (fun k=>by (repeat intro _);show _=_;kernel_rfl)) (aB))))))
  (fun k=>by (repeat intro _);show _=_;kernel_rfl)
noncomputable def I6 (k:Nat):bU K TyK:=sm cod (Bool) [.bo] [.g [.s, .i .i64, .l true .end, .l true .parcel, .s, .l true .record, .l true .record]] [] (fun k v1 v2 v3 v4 v5 v6 v7=>BU k (⟨v1,v2,v3,v4,v5,v6,v7⟩:aC)) k [.c (.b)] [] (fun r=>(r,())) (fun v1=>v1) true
noncomputable abbrev V6:List (Nat×Cut K TyK (Bool)):=[(4,ct cod [1,3] [.c (.r 0 0), .c (.i .i64)] [.x [.s, .i .i64, .l true .end, .l true .parcel, .s, .l true .record, .l true .record]] mU)]
theorem T7 (k:Nat):SummOk Tryz.prog cod 51 (I6 k):=bA codOk Tryz.f51 (fun k=>aU [(54,hI k)]) V6 false [.tmp 2] 0 [] mixed Tryz.func51 (by kernel_rfl) (by kernel_rfl) (by kernel_rfl) (by kernel_rfl)
  (fun k=>Known.of tok eok codOk (all_cons (jL k) (aB)) gok)
  (fun k=>QuietOk.of (all_cons (fun h r=>⟨rfl,rfl⟩) (aB)))
  (fun a=>rfl)
  (all_cons (aI codOk (by kernel_rfl) (by (repeat intro _);show _=_;kernel_rfl) (fun k=>by (repeat intro _);show _=_;kernel_rfl)) (aB))
  (fun k=>by (repeat intro _);show _=_;kernel_rfl)
noncomputable def B3 (k:Nat):bU K TyK:=sm cod (ByteArray) [.bo] [.g [.s, .i .i64, .l true .end, .l true .parcel, .s, .l true .record, .l true .record]] [] (fun k v1 v2 v3 v4 v5 v6 v7=>uT k (⟨v1,v2,v3,v4,v5,v6,v7⟩:aC)) k [.c (.s)] [] (fun r=>(r,())) (fun v1=>v1) true
noncomputable abbrev PL:List (Nat×Cut K TyK (ByteArray)):=[(5,ct cod [1,3] [.c (.r 0 0), .c (.s)] [.x [.s, .i .i64, .l true .end, .l true .parcel, .s, .l true .record, .l true .record]] lM),
  (7,ct cod [1,3] [.c (.r 0 0), .c (.s)] [.x [.s, .i .i64, .l true .end, .l true .parcel, .s, .l true .record, .l true .record]] lO),
  (9,ct cod [3] [.c (.s)] [] lL)]
theorem MR (k:Nat):SummOk Tryz.prog cod 25 (B3 k):=bA codOk Tryz.f25 (fun k=>aU [(49,FC k),(50,EV k),(51,I6 k)]) PL false [.tmp 2] 0 [] mixed Tryz.func25 (by kernel_rfl) (by kernel_rfl) (by kernel_rfl) (by kernel_rfl)
  (fun k=>Known.of tok eok codOk (all_cons (O8 k) (all_cons (P1 k) (all_cons (T7 k) (aB)))) gok)
  (fun k=>QuietOk.of (all_cons (fun h r=>⟨rfl,rfl⟩) (all_cons (fun h r=>⟨rfl,rfl⟩) (all_cons (fun h r=>⟨rfl,rfl⟩) (aB)))))
  (fun a=>rfl)
  (all_cons (aI codOk (by kernel_rfl) (by (repeat intro _);show _=_;kernel_rfl) (fun k=>by (repeat intro _);show _=_;kernel_rfl)) (all_cons (aI codOk (by kernel_rfl) (by (repeat intro _);show _=_;kernel_rfl) (fun k=>by (repeat intro _);show _=_;kernel_rfl)) (all_cons (aI codOk (by kernel_rfl) (by (repeat intro _);show _=_;kernel_rfl) (fun k=>by (repeat intro _);show _=_;kernel_rfl)) (aB))))
  (fun k=>by (repeat intro _);show _=_;kernel_rfl)
noncomputable def vW (k:Nat):bU K TyK:=sm cod (List Int×Bool) [.bo] [.c (.l true .str)] [] (tA) k [.c (.o 0), .c (.b)] [.l .int] (fun r=>((),r.2,r.1,())) (fun v1 v2=>(v2,v1)) false
noncomputable abbrev GM:List (Nat×Cut K TyK (List Int×Bool)):=[(3,ct cod [0,4,5] [.c (.l true .str), .c (.o 0), .c (.i .i64)] [.l .int] eV)]
theorem D8 (k:Nat):SummOk Tryz.prog cod 27 (vW k):=bA codOk Tryz.f27 (fun k=>aU [(26,nO k)]) GM false [.tmp 2, .tmp 3] 0 [] mixed Tryz.func27 (by kernel_rfl) (by kernel_rfl) (by kernel_rfl) (by kernel_rfl)
  (fun k=>Known.of tok eok codOk (all_cons (pF k) (aB)) gok)
  (fun k=>QuietOk.of (all_cons (fun h r=>⟨rfl,rfl⟩) (aB)))
  (fun a=>rfl)
  (all_cons (aI codOk (by kernel_rfl) (by (repeat intro _);show _=_;kernel_rfl) (fun k=>by (repeat intro _);show _=_;kernel_rfl)) (aB))
  (fun k=>by (repeat intro _);show _=_;kernel_rfl)
noncomputable def zR (k:Nat):bU K TyK:=sm cod (ByteArray) [.bo] [.c (.s)] [] (w5) k [.c (.s)] [] (fun r=>(r,())) (fun v1=>v1) true
noncomputable abbrev LN:List (Nat×Cut K TyK (ByteArray)):=[(3,ct cod [0,3,4] [.c (.s), .c (.o 0), .c (.i .i64)] [.l .byte] gT),
  (4,ct cod [0,3,4] [.c (.s), .c (.o 0), .c (.i .i64)] [.l .byte] hP)]
theorem I2 (k:Nat):SummOk Tryz.prog cod 53 (zR k):=bA codOk Tryz.f53 (fun k=>aU []) LN false [.tmp 2] 0 [] mixed Tryz.func53 (by kernel_rfl) (by kernel_rfl) (by kernel_rfl) (by kernel_rfl)
  (fun k=>Known.of tok eok codOk (aB) gok)
  (fun k=>QuietOk.of (aB))
  (fun a=>rfl)
  (all_cons (aI codOk (by kernel_rfl) (by (repeat intro _);show _=_;kernel_rfl) (fun k=>by (repeat intro _);show _=_;kernel_rfl)) (all_cons (aI codOk (by kernel_rfl) (by (repeat intro _);show _=_;kernel_rfl) (fun k=>by (repeat intro _);show _=_;kernel_rfl)) (aB)))
  (fun k=>by (repeat intro _);show _=_;kernel_rfl)
noncomputable def DC (k:Nat):bU K TyK:=sm cod (aC×ByteArray) [.mv, .bo] [.g [.s, .i .i64, .o 0, .o 1, .s, .o 2, .o 3], .c (.i .i64)] [.l .end, .l .parcel, .l .record, .l .record] (fun k v1 v2 v3 v4 v5 v6 v7 v8=>uP k (⟨v1,v2,v5,v6,v3,v7,v8⟩:aC) v4) k [.g [.s, .i .i64, .o 4, .o 5, .s, .o 6, .o 7], .c (.s)] [.d, .d, .d, .d, .l .end, .l .parcel, .l .record, .l .record] (fun r=>(r.1.Key,r.1.Width,(),(),r.1.Forged,(),(),r.2,r.1.Ends,r.1.Flight,r.1.Given,r.1.Taken,())) (fun v1 v2 v3 v4 v5 v6 v7 v8=>((⟨v1,v2,v5,v6,v3,v7,v8⟩:aC),v4)) false
theorem MV (k:Nat):SummOk Tryz.prog cod 28 (DC k):=bA codOk Tryz.f28 (fun k=>aU [(52,tG k),(18,eQ k),(32,BT k),(53,zR k)]) [] false [.cell 4 33, .tmp 5] 4 [true,true,true,true] mixed Tryz.func28 (by kernel_rfl) (by kernel_rfl) (by kernel_rfl) (by kernel_rfl)
  (fun k=>Known.of tok eok codOk (all_cons (xG k) (all_cons (gF k) (all_cons (EF k) (all_cons (I2 k) (aB))))) gok)
  (fun k=>QuietOk.of (all_cons (fun h r=>by cases h) (all_cons (fun h r=>⟨rfl,rfl⟩) (all_cons (fun h r=>by cases h) (all_cons (fun h r=>⟨rfl,rfl⟩) (aB))))))
  (fun a=>rfl)
  (aB)
  (fun k=>by (repeat intro _);show _=_;kernel_rfl)
noncomputable def wK (k:Nat):bU K TyK:=sm cod (List bT×Bool) [.mv, .mv, .mv] [.c (.o 0), .g [.i .i64, .s, .s], .c (.i .i64)] [.l .l7count] (fun k v1 v2 v3 v4 v5=>pY k v5 (⟨v1,v2,v3⟩:aE) v4) k [.c (.o 1), .c (.b)] [.d, .l .l7count] (fun r=>((),r.2,r.1,())) (fun v1 v2=>(v2,v1)) false
noncomputable abbrev KL:List (Nat×Cut K TyK (List bT×Bool)):=[(2,ct cod [0,2,4,8] [.c (.o 1), .c (.i .i64), .c (.r 2 0), .c (.i .i64)] [.d, .l .l7count, .x [.i .i64, .s, .s]] dG)]
theorem GJ (k:Nat):SummOk Tryz.prog cod 57 (wK k):=bA codOk Tryz.f57 (fun k=>aU []) KL false [.tmp 6, .tmp 7] 1 [true] mixed Tryz.func57 (by kernel_rfl) (by kernel_rfl) (by kernel_rfl) (by kernel_rfl)
  (fun k=>Known.of tok eok codOk (aB) gok)
  (fun k=>QuietOk.of (aB))
  (fun a=>rfl)
  (all_cons (aI codOk (by kernel_rfl) (by (repeat intro _);show _=_;kernel_rfl) (fun k=>by (repeat intro _);show _=_;kernel_rfl)) (aB))
  (fun k=>by (repeat intro _);show _=_;kernel_rfl)
noncomputable def JA (k:Nat):bU K TyK:=sm cod (aC) [.bo, .bo, .bo] [.g [.s, .i .i64, .l true .end, .l true .parcel, .s, .l true .record, .l true .record], .c (.i .i64), .c (.i .i64)] [] (fun k v1 v2 v3 v4 v5 v6 v7 v8 v9=>xY k (⟨v1,v2,v3,v4,v5,v6,v7⟩:aC) v8 v9) k [.g [.s, .i .i64, .o 0, .o 1, .s, .o 2, .o 3]] [.l .end, .l .parcel, .l .record, .l .record] (fun r=>(r.Key,r.Width,(),(),r.Forged,(),(),r.Ends,r.Flight,r.Given,r.Taken,())) (fun v1 v2 v3 v4 v5 v6 v7=>(⟨v1,v2,v4,v5,v3,v6,v7⟩:aC)) false
noncomputable abbrev WW:List (Nat×Cut K TyK (aC)):=[(6,ct cod [1,2,6,7,8,9] [.c (.i .i64), .c (.i .i64), .c (.r 0 0), .c (.r 1 0), .c (.o 2), .c (.i .i64)] [.x [.s, .i .i64, .o 3, .o 4, .s, .o 5, .o 6], .x [.s, .i .i64, .o 7, .o 8, .s, .o 9, .o 10], .l .l7count, .l .end, .l .parcel, .l .record, .l .record, .l .end, .l .parcel, .l .record, .l .record] mK),
  (9,ct cod [1,2,6,7,8,9] [.c (.i .i64), .c (.i .i64), .c (.r 0 0), .c (.r 1 0), .c (.o 2), .c (.i .i64)] [.x [.s, .i .i64, .o 3, .o 4, .s, .o 5, .o 6], .x [.s, .i .i64, .o 7, .o 8, .s, .o 9, .o 10], .l .l7count, .l .end, .l .parcel, .l .record, .l .record, .l .end, .l .parcel, .l .record, .l .record] kA),
  (16,ct cod [1,2,6,7,8,9,12] [.c (.i .i64), .c (.i .i64), .c (.r 0 0), .c (.r 1 0), .c (.o 2), .c (.i .i64), .c (.i .i64)] [.x [.s, .i .i64, .o 3, .o 4, .s, .o 5, .o 6], .x [.s, .i .i64, .o 7, .o 8, .s, .o 9, .o 10], .l .l7count, .l .end, .l .parcel, .l .record, .l .record, .l .end, .l .parcel, .l .record, .l .record] eO),
  (19,ct cod [1,2,6,7,8,9,12,13] [.c (.i .i64), .c (.i .i64), .c (.r 0 0), .c (.r 1 0), .c (.o 2), .c (.i .i64), .c (.i .i64), .c (.i .i64)] [.x [.s, .i .i64, .o 3, .o 4, .s, .o 5, .o 6], .x [.s, .i .i64, .o 7, .o 8, .s, .o 9, .o 10], .l .l7count, .l .end, .l .parcel, .l .record, .l .record, .l .end, .l .parcel, .l .record, .l .record] kS)]
theorem QU (k:Nat):SummOk Tryz.prog cod 29 (JA k):=bA codOk Tryz.f29 (fun k=>aU [(54,hI k),(22,cQ k),(55,vJ k),(56,vE k),(57,wK k),(58,tD k),(59,lT k),(60,w8 k)]) WW false [.cell 6 33] 0 [] mixed Tryz.func29 (by kernel_rfl) (by kernel_rfl) (by kernel_rfl) (by kernel_rfl)
  (fun k=>Known.of tok eok codOk (all_cons (jL k) (all_cons (cG k) (all_cons (zI k) (all_cons (yX k) (all_cons (GJ k) (all_cons (xX k) (all_cons (oI k) (all_cons (B1 k) (aB))))))))) gok)
  (fun k=>QuietOk.of (all_cons (fun h r=>⟨rfl,rfl⟩) (all_cons (fun h r=>⟨rfl,rfl⟩) (all_cons (fun h r=>by cases h) (all_cons (fun h r=>by cases h) (all_cons (fun h r=>by cases h) (all_cons (fun h r=>by cases h) (all_cons (fun h r=>by cases h) (all_cons (fun h r=>by cases h) (aB))))))))))
  (fun a=>rfl)
  (all_cons (aI codOk (by kernel_rfl) (by (repeat intro _);show _=_;kernel_rfl) (fun k=>by (repeat intro _);show _=_;kernel_rfl)) (all_cons (aI codOk (by kernel_rfl) (by (repeat intro _);show _=_;kernel_rfl) (fun k=>by (repeat intro _);show _=_;kernel_rfl)) (all_cons (aI codOk (by kernel_rfl) (by (repeat intro _);show _=_;kernel_rfl) (fun k=>by (repeat intro _);show _=_;kernel_rfl)) (all_cons (aI codOk (by kernel_rfl) (by (repeat intro _);show _=_;kernel_rfl) (fun k=>by (repeat intro _);show _=_;kernel_rfl)) (aB)))))
  (fun k=>by (repeat intro _);show _=_;kernel_rfl)
noncomputable def wQ (k:Nat):bU K TyK:=sm cod (ByteArray) [.bo] [.g [.s, .i .i64, .l true .end, .l true .parcel, .s, .l true .record, .l true .record]] [] (fun k v1 v2 v3 v4 v5 v6 v7=>iK k (⟨v1,v2,v3,v4,v5,v6,v7⟩:aC)) k [.c (.s)] [] (fun r=>(r,())) (fun v1=>v1) true
theorem GO (k:Nat):SummOk Tryz.prog cod 30 (wQ k):=bA codOk Tryz.f30 (fun k=>aU [(18,eQ k)]) [] false [.tmp 2] 0 [] mixed Tryz.func30 (by kernel_rfl) (by kernel_rfl) (by kernel_rfl) (by kernel_rfl)
  (fun k=>Known.of tok eok codOk (all_cons (gF k) (aB)) gok)
  (fun k=>QuietOk.of (all_cons (fun h r=>⟨rfl,rfl⟩) (aB)))
  (fun a=>rfl)
  (aB)
  (fun k=>by (repeat intro _);show _=_;kernel_rfl)
noncomputable def BW (k:Nat):bU K TyK:=sm cod (Int×Int) [.bo] [.c (.s)] [] (uG) k [.c (.i .i64), .c (.i .i64)] [] (fun r=>(r.1,r.2,())) (fun v1 v2=>(v1,v2)) true
theorem L3 (k:Nat):SummOk Tryz.prog cod 31 (BW k):=bA codOk Tryz.f31 (fun k=>aU []) [] false [.tmp 2, .tmp 3] 0 [] mixed Tryz.func31 (by kernel_rfl) (by kernel_rfl) (by kernel_rfl) (by kernel_rfl)
  (fun k=>Known.of tok eok codOk (aB) gok)
  (fun k=>QuietOk.of (aB))
  (fun a=>rfl)
  (aB)
  (fun k=>by (repeat intro _);show _=_;kernel_rfl)
noncomputable def DI (k:Nat):bU K TyK:=sm cod (aC×ByteArray) [.mv, .bo] [.g [.s, .i .i64, .o 0, .o 1, .s, .o 2, .o 3], .c (.s)] [.l .end, .l .parcel, .l .record, .l .record] (fun k v1 v2 v3 v4 v5 v6 v7 v8=>qQ k (⟨v1,v2,v5,v6,v3,v7,v8⟩:aC) v4) k [.g [.s, .i .i64, .o 4, .o 5, .s, .o 6, .o 7], .c (.s)] [.d, .d, .d, .d, .l .end, .l .parcel, .l .record, .l .record] (fun r=>(r.1.Key,r.1.Width,(),(),r.1.Forged,(),(),r.2,r.1.Ends,r.1.Flight,r.1.Given,r.1.Taken,())) (fun v1 v2 v3 v4 v5 v6 v7 v8=>((⟨v1,v2,v5,v6,v3,v7,v8⟩:aC),v4)) false
noncomputable abbrev OS:List (Nat×Cut K TyK (aC×ByteArray)):=[(3,ct cod [1,2,4] [.c (.s), .c (.r 4 0), .c (.r 5 0)] [.d, .d, .d, .d, .x [.s, .i .i64, .o 6, .o 7, .s, .o 8, .o 9], .x [.s, .i .i64, .o 10, .o 11, .s, .o 12, .o 13], .l .end, .l .parcel, .l .record, .l .record, .l .end, .l .parcel, .l .record, .l .record] lR),
  (14,ct cod [2,4,6] [.c (.r 4 0), .c (.r 5 0), .c (.o 6)] [.d, .d, .d, .d, .x [.s, .i .i64, .o 7, .o 8, .s, .o 9, .o 10], .x [.s, .i .i64, .o 11, .o 12, .s, .o 13, .o 14], .l .str, .l .end, .l .parcel, .l .record, .l .record, .l .end, .l .parcel, .l .record, .l .record] eY),
  (19,ct cod [2,4,6,9] [.c (.r 4 0), .c (.r 5 0), .c (.o 6), .c (.o 7)] [.d, .d, .d, .d, .x [.s, .i .i64, .o 8, .o 9, .s, .o 10, .o 11], .x [.s, .i .i64, .o 12, .o 13, .s, .o 14, .o 15], .l .str, .l .int, .l .end, .l .parcel, .l .record, .l .record, .l .end, .l .parcel, .l .record, .l .record] j8),
  (24,ct cod [2,4,6,9] [.c (.r 4 0), .c (.r 5 0), .c (.o 6), .c (.o 7)] [.d, .d, .d, .d, .x [.s, .i .i64, .o 8, .o 9, .s, .o 10, .o 11], .x [.s, .i .i64, .o 12, .o 13, .s, .o 14, .o 15], .l .str, .l .int, .l .end, .l .parcel, .l .record, .l .record, .l .end, .l .parcel, .l .record, .l .record] jT)]
theorem MW (k:Nat):SummOk Tryz.prog cod 10 (DI k):=bA codOk Tryz.f10 (fun k=>aU [(24,DJ k),(8,w7 k),(25,B3 k),(26,nO k),(9,rK k),(27,vW k),(28,DC k),(29,JA k),(30,wQ k),(31,BW k),(32,BT k)]) OS false [.cell 4 33, .tmp 5] 4 [true,true,true,true] mixed Tryz.func10 (by kernel_rfl) (by kernel_rfl) (by kernel_rfl) (by kernel_rfl)
  (fun k=>Known.of tok eok codOk (all_cons (LX k) (all_cons (BY k) (all_cons (MR k) (all_cons (pF k) (all_cons (vO k) (all_cons (D8 k) (all_cons (MV k) (all_cons (QU k) (all_cons (GO k) (all_cons (L3 k) (all_cons (EF k) (aB)))))))))))) gok)
  (fun k=>QuietOk.of (all_cons (fun h r=>by cases h) (all_cons (fun h r=>by cases h) (all_cons (fun h r=>⟨rfl,rfl⟩) (all_cons (fun h r=>⟨rfl,rfl⟩) (all_cons (fun h r=>by cases h) (all_cons (fun h r=>by cases h) (all_cons (fun h r=>by cases h) (all_cons (fun h r=>by cases h) (all_cons (fun h r=>⟨rfl,rfl⟩) (all_cons (fun h r=>⟨rfl,rfl⟩) (all_cons (fun h r=>by cases h) (aB)))))))))))))
  (fun a=>rfl)
  (all_cons (aI codOk (by kernel_rfl) (by (repeat intro _);show _=_;kernel_rfl) (fun k=>by (repeat intro _);show _=_;kernel_rfl)) (all_cons (aI codOk (by kernel_rfl) (by (repeat intro _);show _=_;kernel_rfl) (fun k=>by (repeat intro _);show _=_;kernel_rfl)) (all_cons (aI codOk (by kernel_rfl) (by (repeat intro _);show _=_;kernel_rfl) (fun k=>by (repeat intro _);show _=_;kernel_rfl)) (all_cons (aI codOk (by kernel_rfl) (by (repeat intro _);show _=_;kernel_rfl) (fun k=>by (repeat intro _);show _=_;kernel_rfl)) (aB)))))
  (fun k=>by (repeat intro _);show _=_;kernel_rfl)
noncomputable def yY (k:Nat):bU K TyK:=sm cod (ByteArray) [.bo] [.c (.s)] [] (pC) k [.c (.s)] [] (fun r=>(r,())) (fun v1=>v1) true
noncomputable abbrev MB:List (Nat×Cut K TyK (ByteArray)):=[(6,ct cod [0,3] [.c (.s), .c (.o 0)] [.l .str] eX),
  (11,ct cod [3,4,5,6] [.c (.o 0), .c (.r 1 0), .c (.o 2), .c (.i .i64)] [.l .str, .x [.s, .i .i64, .o 3, .o 4, .s, .o 5, .o 6], .l .byte, .l .end, .l .parcel, .l .record, .l .record] eF)]
theorem K8 (k:Nat):SummOk Tryz.prog cod 5 (yY k):=bA codOk Tryz.f5 (fun k=>aU [(8,w7 k),(9,rK k),(10,DI k)]) MB false [.tmp 2] 0 [] mixed Tryz.func5 (by kernel_rfl) (by kernel_rfl) (by kernel_rfl) (by kernel_rfl)
  (fun k=>Known.of tok eok codOk (all_cons (BY k) (all_cons (vO k) (all_cons (MW k) (aB)))) gok)
  (fun k=>QuietOk.of (all_cons (fun h r=>by cases h) (all_cons (fun h r=>by cases h) (all_cons (fun h r=>by cases h) (aB)))))
  (fun a=>rfl)
  (all_cons (aI codOk (by kernel_rfl) (by (repeat intro _);show _=_;kernel_rfl) (fun k=>by (repeat intro _);show _=_;kernel_rfl)) (all_cons (aI codOk (by kernel_rfl) (by (repeat intro _);show _=_;kernel_rfl) (fun k=>by (repeat intro _);show _=_;kernel_rfl)) (aB)))
  (fun k=>by (repeat intro _);show _=_;kernel_rfl)
noncomputable def BM (k:Nat):bU K TyK:=sm cod (aN) [.bo] [.c (.i .i64)] [] (rN) k [.g [.i .i64, .b, .i .i64, .i .i64, .i .i64, .b, .i .i64, .o 0, .i .i64, .o 1, .s, .o 2]] [.l .item, .l .held, .l .str] (fun r=>(r.Number,r.Up,r.Life,r.Peer,r.Since,r.Owes,r.Send.Base,(),r.Take.Next,(),r.Take.Open,(),r.Send.Items,r.Take.Held,r.Take.Ready,())) (fun v1 v2 v3 v4 v5 v6 v7 v8 v9 v10 v11 v12=>(⟨v1,v2,v3,v4,v5,v6,(⟨v7,v10⟩:aM),(⟨v8,v11,v9,v12⟩:aL)⟩:aN)) false
theorem MY (k:Nat):SummOk Tryz.prog cod 34 (BM k):=bA codOk Tryz.f34 (fun k=>aU []) [] false [.cell 2 61] 0 [] mixed Tryz.func34 (by kernel_rfl) (by kernel_rfl) (by kernel_rfl) (by kernel_rfl)
  (fun k=>Known.of tok eok codOk (aB) gok)
  (fun k=>QuietOk.of (aB))
  (fun a=>rfl)
  (aB)
  (fun k=>by (repeat intro _);show _=_;kernel_rfl)
noncomputable def rJ (k:Nat):bU K TyK:=sm cod (aC) [.bo, .bo] [.c (.s), .c (.i .i64)] [] (nS) k [.g [.s, .i .i64, .o 0, .o 1, .s, .o 2, .o 3]] [.l .end, .l .parcel, .l .record, .l .record] (fun r=>(r.Key,r.Width,(),(),r.Forged,(),(),r.Ends,r.Flight,r.Given,r.Taken,())) (fun v1 v2 v3 v4 v5 v6 v7=>(⟨v1,v2,v4,v5,v3,v6,v7⟩:aC)) false
theorem vU (k:Nat):SummOk Tryz.prog cod 12 (rJ k):=bA codOk Tryz.f12 (fun k=>aU [(34,BM k)]) [] false [.cell 4 33] 0 [] mixed Tryz.func12 (by kernel_rfl) (by kernel_rfl) (by kernel_rfl) (by kernel_rfl)
  (fun k=>Known.of tok eok codOk (all_cons (MY k) (aB)) gok)
  (fun k=>QuietOk.of (all_cons (fun h r=>by cases h) (aB)))
  (fun a=>rfl)
  (aB)
  (fun k=>by (repeat intro _);show _=_;kernel_rfl)
noncomputable def zP (k:Nat):bU K TyK:=sm cod (Int×Bool) [.bo] [.c (.s)] [] (mO) k [.c (.i .i64), .c (.b)] [] (fun r=>(r.1,r.2,())) (fun v1 v2=>(v1,v2)) true
noncomputable abbrev L8:List (Nat×Cut K TyK (Int×Bool)):=[(4,ct cod [0,4] [.c (.s), .c (.i .i64)] [] fA)]
theorem IB (k:Nat):SummOk Tryz.prog cod 37 (zP k):=bA codOk Tryz.f37 (fun k=>aU [(66,zA k)]) L8 false [.tmp 2, .tmp 3] 0 [] mixed Tryz.func37 (by kernel_rfl) (by kernel_rfl) (by kernel_rfl) (by kernel_rfl)
  (fun k=>Known.of tok eok codOk (all_cons (IL k) (aB)) gok)
  (fun k=>QuietOk.of (all_cons (fun h r=>⟨rfl,rfl⟩) (aB)))
  (fun a=>rfl)
  (all_cons (aI codOk (by kernel_rfl) (by (repeat intro _);show _=_;kernel_rfl) (fun k=>by (repeat intro _);show _=_;kernel_rfl)) (aB))
  (fun k=>by (repeat intro _);show _=_;kernel_rfl)
noncomputable def oX (k:Nat):bU K TyK:=sm cod (Bool) [.bo, .bo, .bo] [.c (.i .i64), .c (.i .i64), .c (.i .i64)] [] (bR) k [.c (.b)] [] (fun r=>(r,())) (fun v1=>v1) true
theorem oB (k:Nat):SummOk Tryz.prog cod 100 (oX k):=bA codOk Tryz.f100 (fun k=>aU []) [] false [.tmp 6] 0 [] mixed Tryz.func100 (by kernel_rfl) (by kernel_rfl) (by kernel_rfl) (by kernel_rfl)
  (fun k=>Known.of tok eok codOk (aB) gok)
  (fun k=>QuietOk.of (aB))
  (fun a=>rfl)
  (aB)
  (fun k=>by (repeat intro _);show _=_;kernel_rfl)
noncomputable def jA (k:Nat):bU K TyK:=sm cod (Bool) [.bo] [.g [.i .i64, .l true .item]] [] (fun k v1 v2=>cS k (⟨v1,v2⟩:aM)) k [.c (.b)] [] (fun r=>(r,())) (fun v1=>v1) true
noncomputable abbrev GV:List (Nat×Cut K TyK (Bool)):=[(4,ct cod [25,26,27] [.c (.l true .item), .c (.i .i64), .c (.i .i64)] [] c8)]
theorem kL (k:Nat):SummOk Tryz.prog cod 101 (jA k):=bA codOk Tryz.f101 (fun k=>aU [(100,oX k)]) GV false [.tmp 2] 0 [] mixed Tryz.func101 (by kernel_rfl) (by kernel_rfl) (by kernel_rfl) (by kernel_rfl)
  (fun k=>Known.of tok eok codOk (all_cons (oB k) (aB)) gok)
  (fun k=>QuietOk.of (all_cons (fun h r=>⟨rfl,rfl⟩) (aB)))
  (fun a=>rfl)
  (all_cons (aI codOk (by kernel_rfl) (by (repeat intro _);show _=_;kernel_rfl) (fun k=>by (repeat intro _);show _=_;kernel_rfl)) (aB))
  (fun k=>by (repeat intro _);show _=_;kernel_rfl)
noncomputable def A7 (k:Nat):bU K TyK:=sm cod (Bool) [.bo, .bo] [.g [.i .i64, .l true .held, .s, .l true .str], .g [.s, .b]] [] (fun k v1 v2 v3 v4 v5 v6=>qT k (⟨v1,v2,v3,v4⟩:aL) (⟨v5,v6⟩:cA)) k [.c (.b)] [] (fun r=>(r,())) (fun v1=>v1) true
theorem FD (k:Nat):SummOk Tryz.prog cod 140 (A7 k):=bA codOk Tryz.f140 (fun k=>aU []) [] false [.tmp 4] 0 [] mixed Tryz.func140 (by kernel_rfl) (by kernel_rfl) (by kernel_rfl) (by kernel_rfl)
  (fun k=>Known.of tok eok codOk (aB) gok)
  (fun k=>QuietOk.of (aB))
  (fun a=>rfl)
  (aB)
  (fun k=>by (repeat intro _);show _=_;kernel_rfl)
noncomputable def iU (k:Nat):bU K TyK:=sm cod (Bool) [.bo] [.g [.i .i64, .l true .held, .s, .l true .str]] [] (fun k v1 v2 v3 v4=>dR k (⟨v1,v2,v3,v4⟩:aL)) k [.c (.b)] [] (fun r=>(r,())) (fun v1=>v1) true
noncomputable abbrev GU:List (Nat×Cut K TyK (Bool)):=[(4,ct cod [1,30,31,32] [.c (.r 0 0), .c (.l true .held), .c (.i .i64), .c (.i .i64)] [.x [.i .i64, .l true .held, .s, .l true .str]] bN),
  (12,ct cod [88,89,90] [.c (.l true .str), .c (.i .i64), .c (.i .i64)] [] eC)]
theorem kN (k:Nat):SummOk Tryz.prog cod 102 (iU k):=bA codOk Tryz.f102 (fun k=>aU [(100,oX k),(140,A7 k)]) GU false [.tmp 2] 0 [] mixed Tryz.func102 (by kernel_rfl) (by kernel_rfl) (by kernel_rfl) (by kernel_rfl)
  (fun k=>Known.of tok eok codOk (all_cons (oB k) (all_cons (FD k) (aB))) gok)
  (fun k=>QuietOk.of (all_cons (fun h r=>⟨rfl,rfl⟩) (all_cons (fun h r=>⟨rfl,rfl⟩) (aB))))
  (fun a=>rfl)
  (all_cons (aI codOk (by kernel_rfl) (by (repeat intro _);show _=_;kernel_rfl) (fun k=>by (repeat intro _);show _=_;kernel_rfl)) (all_cons (aI codOk (by kernel_rfl) (by (repeat intro _);show _=_;kernel_rfl) (fun k=>by (repeat intro _);show _=_;kernel_rfl)) (aB)))
  (fun k=>by (repeat intro _);show _=_;kernel_rfl)
noncomputable def DK (k:Nat):bU K TyK:=sm cod (Bool) [.bo] [.g [.i .i64, .l true .item]] [] (fun k v1 v2=>uZ k (⟨v1,v2⟩:aM)) k [.c (.b)] [] (fun r=>(r,())) (fun v1=>v1) true
theorem LP (k:Nat):SummOk Tryz.prog cod 103 (DK k):=bA codOk Tryz.f103 (fun k=>aU []) [] false [.tmp 2] 0 [] mixed Tryz.func103 (by kernel_rfl) (by kernel_rfl) (by kernel_rfl) (by kernel_rfl)
  (fun k=>Known.of tok eok codOk (aB) gok)
  (fun k=>QuietOk.of (aB))
  (fun a=>rfl)
  (aB)
  (fun k=>by (repeat intro _);show _=_;kernel_rfl)
noncomputable def C1 (k:Nat):bU K TyK:=sm cod (Bool) [.bo] [.g [.i .i64, .l true .held, .s, .l true .str]] [] (fun k v1 v2 v3 v4=>u9 k (⟨v1,v2,v3,v4⟩:aL)) k [.c (.b)] [] (fun r=>(r,())) (fun v1=>v1) true
theorem MS (k:Nat):SummOk Tryz.prog cod 104 (C1 k):=bA codOk Tryz.f104 (fun k=>aU []) [] false [.tmp 2] 0 [] mixed Tryz.func104 (by kernel_rfl) (by kernel_rfl) (by kernel_rfl) (by kernel_rfl)
  (fun k=>Known.of tok eok codOk (aB) gok)
  (fun k=>QuietOk.of (aB))
  (fun a=>rfl)
  (aB)
  (fun k=>by (repeat intro _);show _=_;kernel_rfl)
noncomputable def dZ (k:Nat):bU K TyK:=sm cod (Bool) [.bo] [.g [.i .i64, .b, .i .i64, .i .i64, .i .i64, .b, .i .i64, .l true .item, .i .i64, .l true .held, .s, .l true .str]] [] (fun k v1 v2 v3 v4 v5 v6 v7 v8 v9 v10 v11 v12=>dV k (⟨v1,v2,v3,v4,v5,v6,(⟨v7,v8⟩:aM),(⟨v9,v10,v11,v12⟩:aL)⟩:aN)) k [.c (.b)] [] (fun r=>(r,())) (fun v1=>v1) true
theorem eK (k:Nat):SummOk Tryz.prog cod 67 (dZ k):=bA codOk Tryz.f67 (fun k=>aU [(100,oX k),(101,jA k),(102,iU k),(103,DK k),(104,C1 k)]) [] false [.tmp 2] 0 [] mixed Tryz.func67 (by kernel_rfl) (by kernel_rfl) (by kernel_rfl) (by kernel_rfl)
  (fun k=>Known.of tok eok codOk (all_cons (oB k) (all_cons (kL k) (all_cons (kN k) (all_cons (LP k) (all_cons (MS k) (aB)))))) gok)
  (fun k=>QuietOk.of (all_cons (fun h r=>⟨rfl,rfl⟩) (all_cons (fun h r=>⟨rfl,rfl⟩) (all_cons (fun h r=>⟨rfl,rfl⟩) (all_cons (fun h r=>⟨rfl,rfl⟩) (all_cons (fun h r=>⟨rfl,rfl⟩) (aB)))))))
  (fun a=>rfl)
  (aB)
  (fun k=>by (repeat intro _);show _=_;kernel_rfl)
noncomputable def N1 (k:Nat):bU K TyK:=sm cod (List cA) [.bo] [.c (.s)] [] (C3) k [.c (.o 0)] [.l .part] (fun r=>((),r,())) (fun v1=>v1) false
noncomputable abbrev ZE:List (Nat×Cut K TyK (List cA)):=[(4,ct cod [0,3] [.c (.s), .c (.o 0)] [.l .part] rM)]
theorem VJ (k:Nat):SummOk Tryz.prog cod 105 (N1 k):=bA codOk Tryz.f105 (fun k=>aU []) ZE false [.tmp 2] 0 [] mixed Tryz.func105 (by kernel_rfl) (by kernel_rfl) (by kernel_rfl) (by kernel_rfl)
  (fun k=>Known.of tok eok codOk (aB) gok)
  (fun k=>QuietOk.of (aB))
  (fun a=>rfl)
  (all_cons (aI codOk (by kernel_rfl) (by (repeat intro _);show _=_;kernel_rfl) (fun k=>by (repeat intro _);show _=_;kernel_rfl)) (aB))
  (fun k=>by (repeat intro _);show _=_;kernel_rfl)
noncomputable def jY (k:Nat):bU K TyK:=sm cod (aM) [.bo] [.g [.i .i64, .l true .item]] [] (fun k v1 v2=>kM k (⟨v1,v2⟩:aM)) k [.g [.i .i64, .o 0]] [.l .item] (fun r=>(r.Base,(),r.Items,())) (fun v1 v2=>(⟨v1,v2⟩:aM)) false
theorem mB (k:Nat):SummOk Tryz.prog cod 106 (jY k):=bA codOk Tryz.f106 (fun k=>aU []) [] false [.cell 2 56] 0 [] mixed Tryz.func106 (by kernel_rfl) (by kernel_rfl) (by kernel_rfl) (by kernel_rfl)
  (fun k=>Known.of tok eok codOk (aB) gok)
  (fun k=>QuietOk.of (aB))
  (fun a=>rfl)
  (aB)
  (fun k=>by (repeat intro _);show _=_;kernel_rfl)
noncomputable def xT (k:Nat):bU K TyK:=sm cod (aM×Int) [.bo, .bo] [.g [.i .i64, .l true .item], .c (.s)] [] (fun k v1 v2 v3=>pS k (⟨v1,v2⟩:aM) v3) k [.g [.i .i64, .o 0], .c (.i .i64)] [.l .item] (fun r=>(r.1.Base,(),r.2,r.1.Items,())) (fun v1 v2 v3=>((⟨v1,v3⟩:aM),v2)) false
noncomputable abbrev KG:List (Nat×Cut K TyK (aM×Int)):=[(9,ct cod [4,8,40,41,42] [.c (.r 0 0), .c (.r 1 0), .c (.o 2), .c (.i .i64), .c (.i .i64)] [.x [.i .i64, .o 3], .x [.i .i64, .o 4], .l .part, .l .item, .l .item] fJ)]
theorem GT (k:Nat):SummOk Tryz.prog cod 68 (xT k):=bA codOk Tryz.f68 (fun k=>aU [(101,jA k),(105,N1 k),(106,jY k)]) KG false [.cell 4 56, .tmp 5] 0 [] mixed Tryz.func68 (by kernel_rfl) (by kernel_rfl) (by kernel_rfl) (by kernel_rfl)
  (fun k=>Known.of tok eok codOk (all_cons (kL k) (all_cons (VJ k) (all_cons (mB k) (aB)))) gok)
  (fun k=>QuietOk.of (all_cons (fun h r=>⟨rfl,rfl⟩) (all_cons (fun h r=>by cases h) (all_cons (fun h r=>by cases h) (aB)))))
  (fun a=>rfl)
  (all_cons (aI codOk (by kernel_rfl) (by (repeat intro _);show _=_;kernel_rfl) (fun k=>by (repeat intro _);show _=_;kernel_rfl)) (aB))
  (fun k=>by (repeat intro _);show _=_;kernel_rfl)
noncomputable def nU (k:Nat):bU K TyK:=sm cod (aL) [.bo] [.g [.i .i64, .l true .held, .s, .l true .str]] [] (fun k v1 v2 v3 v4=>nJ k (⟨v1,v2,v3,v4⟩:aL)) k [.g [.i .i64, .o 0, .s, .o 1]] [.l .held, .l .str] (fun r=>(r.Next,(),r.Open,(),r.Held,r.Ready,())) (fun v1 v2 v3 v4=>(⟨v1,v3,v2,v4⟩:aL)) false
theorem pJ (k:Nat):SummOk Tryz.prog cod 107 (nU k):=bA codOk Tryz.f107 (fun k=>aU []) [] false [.cell 2 59] 0 [] mixed Tryz.func107 (by kernel_rfl) (by kernel_rfl) (by kernel_rfl) (by kernel_rfl)
  (fun k=>Known.of tok eok codOk (aB) gok)
  (fun k=>QuietOk.of (aB))
  (fun a=>rfl)
  (aB)
  (fun k=>by (repeat intro _);show _=_;kernel_rfl)
noncomputable def gN (k:Nat):bU K TyK:=sm cod (aN) [.bo] [.g [.i .i64, .b, .i .i64, .i .i64, .i .i64, .b, .i .i64, .l true .item, .i .i64, .l true .held, .s, .l true .str]] [] (fun k v1 v2 v3 v4 v5 v6 v7 v8 v9 v10 v11 v12=>fY k (⟨v1,v2,v3,v4,v5,v6,(⟨v7,v8⟩:aM),(⟨v9,v10,v11,v12⟩:aL)⟩:aN)) k [.g [.i .i64, .b, .i .i64, .i .i64, .i .i64, .b, .i .i64, .o 0, .i .i64, .o 1, .s, .o 2]] [.l .item, .l .held, .l .str] (fun r=>(r.Number,r.Up,r.Life,r.Peer,r.Since,r.Owes,r.Send.Base,(),r.Take.Next,(),r.Take.Open,(),r.Send.Items,r.Take.Held,r.Take.Ready,())) (fun v1 v2 v3 v4 v5 v6 v7 v8 v9 v10 v11 v12=>(⟨v1,v2,v3,v4,v5,v6,(⟨v7,v10⟩:aM),(⟨v8,v11,v9,v12⟩:aL)⟩:aN)) false
theorem gW (k:Nat):SummOk Tryz.prog cod 69 (gN k):=bA codOk Tryz.f69 (fun k=>aU [(106,jY k),(107,nU k)]) [] false [.cell 2 61] 0 [] mixed Tryz.func69 (by kernel_rfl) (by kernel_rfl) (by kernel_rfl) (by kernel_rfl)
  (fun k=>Known.of tok eok codOk (all_cons (mB k) (all_cons (pJ k) (aB))) gok)
  (fun k=>QuietOk.of (all_cons (fun h r=>by cases h) (all_cons (fun h r=>by cases h) (aB))))
  (fun a=>rfl)
  (aB)
  (fun k=>by (repeat intro _);show _=_;kernel_rfl)
noncomputable def s8 (k:Nat):bU K TyK:=sm cod (aY) [.bo, .bo] [.g [.i .i64, .b, .i .i64, .i .i64, .i .i64, .b, .i .i64, .l true .item, .i .i64, .l true .held, .s, .l true .str], .c (.s)] [] (fun k v1 v2 v3 v4 v5 v6 v7 v8 v9 v10 v11 v12 v13=>fW k (⟨v1,v2,v3,v4,v5,v6,(⟨v7,v8⟩:aM),(⟨v9,v10,v11,v12⟩:aL)⟩:aN) v13) k [.g [.i .i64, .i .i64, .b, .i .i64, .i .i64, .i .i64, .b, .i .i64, .o 0, .i .i64, .o 1, .s, .o 2, .o 3, .s]] [.l .item, .l .held, .l .str, .l .packet] (fun r=>(r.Code,r.End.Number,r.End.Up,r.End.Life,r.End.Peer,r.End.Since,r.End.Owes,r.End.Send.Base,(),r.End.Take.Next,(),r.End.Take.Open,(),(),r.Text,r.End.Send.Items,r.End.Take.Held,r.End.Take.Ready,r.Out,())) (fun v1 v2 v3 v4 v5 v6 v7 v8 v9 v10 v11 v12 v13 v14 v15=>(⟨v1,(⟨v2,v3,v4,v5,v6,v7,(⟨v8,v12⟩:aM),(⟨v9,v13,v10,v14⟩:aL)⟩:aN),v15,v11⟩:aY)) false
theorem wU (k:Nat):SummOk Tryz.prog cod 38 (s8 k):=bA codOk Tryz.f38 (fun k=>aU [(67,dZ k),(68,xT k),(69,gN k)]) [] false [.cell 4 82] 0 [] mixed Tryz.func38 (by kernel_rfl) (by kernel_rfl) (by kernel_rfl) (by kernel_rfl)
  (fun k=>Known.of tok eok codOk (all_cons (eK k) (all_cons (GT k) (all_cons (gW k) (aB)))) gok)
  (fun k=>QuietOk.of (all_cons (fun h r=>⟨rfl,rfl⟩) (all_cons (fun h r=>by cases h) (all_cons (fun h r=>by cases h) (aB)))))
  (fun a=>rfl)
  (aB)
  (fun k=>by (repeat intro _);show _=_;kernel_rfl)
noncomputable def gU (k:Nat):bU K TyK:=sm cod (Bool) [.bo] [.g [.s, .i .i64, .l true .end, .l true .parcel, .s, .l true .record, .l true .record]] [] (fun k v1 v2 v3 v4 v5 v6 v7=>fC k (⟨v1,v2,v3,v4,v5,v6,v7⟩:aC)) k [.c (.b)] [] (fun r=>(r,())) (fun v1=>v1) true
noncomputable abbrev EL:List (Nat×Cut K TyK (Bool)):=[(4,ct cod [1,48,49,50] [.c (.r 0 0), .c (.l true .end), .c (.i .i64), .c (.i .i64)] [.x [.s, .i .i64, .l true .end, .l true .parcel, .s, .l true .record, .l true .record]] eB),
  (10,ct cod [1,67,68,69] [.c (.r 0 0), .c (.l true .parcel), .c (.i .i64), .c (.i .i64)] [.x [.s, .i .i64, .l true .end, .l true .parcel, .s, .l true .record, .l true .record]] cD),
  (16,ct cod [98,99,100] [.c (.o 0), .c (.i .i64), .c (.i .i64)] [.l .lrecord] cH),
  (19,ct cod [98,99,100,104,105,106] [.c (.o 0), .c (.i .i64), .c (.i .i64), .c (.l true .record), .c (.i .i64), .c (.i .i64)] [.l .lrecord] cF)]
theorem jO (k:Nat):SummOk Tryz.prog cod 70 (gU k):=bA codOk Tryz.f70 (fun k=>aU [(67,dZ k),(100,oX k)]) EL false [.tmp 2] 0 [] mixed Tryz.func70 (by kernel_rfl) (by kernel_rfl) (by kernel_rfl) (by kernel_rfl)
  (fun k=>Known.of tok eok codOk (all_cons (eK k) (all_cons (oB k) (aB))) gok)
  (fun k=>QuietOk.of (all_cons (fun h r=>⟨rfl,rfl⟩) (all_cons (fun h r=>⟨rfl,rfl⟩) (aB))))
  (fun a=>rfl)
  (all_cons (aI codOk (by kernel_rfl) (by (repeat intro _);show _=_;kernel_rfl) (fun k=>by (repeat intro _);show _=_;kernel_rfl)) (all_cons (aI codOk (by kernel_rfl) (by (repeat intro _);show _=_;kernel_rfl) (fun k=>by (repeat intro _);show _=_;kernel_rfl)) (all_cons (aI codOk (by kernel_rfl) (by (repeat intro _);show _=_;kernel_rfl) (fun k=>by (repeat intro _);show _=_;kernel_rfl)) (all_cons (aI codOk (by kernel_rfl) (by (repeat intro _);show _=_;kernel_rfl) (fun k=>by (repeat intro _);show _=_;kernel_rfl)) (aB)))))
  (fun k=>by (repeat intro _);show _=_;kernel_rfl)
noncomputable def pD (k:Nat):bU K TyK:=sm cod (aC) [.bo] [.g [.s, .i .i64, .l true .end, .l true .parcel, .s, .l true .record, .l true .record]] [] (fun k v1 v2 v3 v4 v5 v6 v7=>lQ k (⟨v1,v2,v3,v4,v5,v6,v7⟩:aC)) k [.g [.s, .i .i64, .o 0, .o 1, .s, .o 2, .o 3]] [.l .end, .l .parcel, .l .record, .l .record] (fun r=>(r.Key,r.Width,(),(),r.Forged,(),(),r.Ends,r.Flight,r.Given,r.Taken,())) (fun v1 v2 v3 v4 v5 v6 v7=>(⟨v1,v2,v4,v5,v3,v6,v7⟩:aC)) false
noncomputable abbrev G1:List (Nat×Cut K TyK (aC)):=[(3,ct cod [1,2,10,11] [.c (.r 0 0), .c (.r 1 0), .c (.i .i64), .c (.i .i64)] [.x [.s, .i .i64, .o 2, .l true .parcel, .s, .l true .record, .l true .record], .x [.s, .i .i64, .o 3, .o 4, .s, .o 5, .o 6], .l .end, .l .end, .l .parcel, .l .record, .l .record] eS)]
theorem tW (k:Nat):SummOk Tryz.prog cod 71 (pD k):=bA codOk Tryz.f71 (fun k=>aU [(69,gN k)]) G1 false [.cell 2 33] 0 [] mixed Tryz.func71 (by kernel_rfl) (by kernel_rfl) (by kernel_rfl) (by kernel_rfl)
  (fun k=>Known.of tok eok codOk (all_cons (gW k) (aB)) gok)
  (fun k=>QuietOk.of (all_cons (fun h r=>by cases h) (aB)))
  (fun a=>rfl)
  (all_cons (aI codOk (by kernel_rfl) (by (repeat intro _);show _=_;kernel_rfl) (fun k=>by (repeat intro _);show _=_;kernel_rfl)) (aB))
  (fun k=>by (repeat intro _);show _=_;kernel_rfl)
noncomputable def wB (k:Nat):bU K TyK:=sm cod (aM×List Int) [.bo] [.g [.i .i64, .l true .item]] [] (fun k v1 v2=>qA k (⟨v1,v2⟩:aM)) k [.g [.i .i64, .o 0], .c (.o 1)] [.l .item, .l .int] (fun r=>(r.1.Base,(),(),r.1.Items,r.2,())) (fun v1 v2 v3=>((⟨v1,v2⟩:aM),v3)) false
noncomputable abbrev KD:List (Nat×Cut K TyK (aM×List Int)):=[(6,ct cod [2,4,5,6] [.c (.r 0 0), .c (.r 1 0), .c (.o 2), .c (.i .i64)] [.x [.i .i64, .o 3], .x [.i .i64, .o 4], .l .int, .l .item, .l .item] fL),
  (7,ct cod [2,4,5,6] [.c (.r 0 0), .c (.r 1 0), .c (.o 2), .c (.i .i64)] [.x [.i .i64, .o 3], .x [.i .i64, .o 4], .l .int, .l .item, .l .item] eJ)]
theorem GW (k:Nat):SummOk Tryz.prog cod 141 (wB k):=bA codOk Tryz.f141 (fun k=>aU [(101,jA k),(106,jY k)]) KD false [.cell 2 56, .tmp 3] 0 [] mixed Tryz.func141 (by kernel_rfl) (by kernel_rfl) (by kernel_rfl) (by kernel_rfl)
  (fun k=>Known.of tok eok codOk (all_cons (kL k) (all_cons (mB k) (aB))) gok)
  (fun k=>QuietOk.of (all_cons (fun h r=>⟨rfl,rfl⟩) (all_cons (fun h r=>by cases h) (aB))))
  (fun a=>rfl)
  (all_cons (aI codOk (by kernel_rfl) (by (repeat intro _);show _=_;kernel_rfl) (fun k=>by (repeat intro _);show _=_;kernel_rfl)) (all_cons (aI codOk (by kernel_rfl) (by (repeat intro _);show _=_;kernel_rfl) (fun k=>by (repeat intro _);show _=_;kernel_rfl)) (aB)))
  (fun k=>by (repeat intro _);show _=_;kernel_rfl)
noncomputable def wJ (k:Nat):bU K TyK:=sm cod (Int×Int) [.bo] [.g [.i .i64, .l true .held, .s, .l true .str]] [] (fun k v1 v2 v3 v4=>kJ k (⟨v1,v2,v3,v4⟩:aL)) k [.c (.i .i64), .c (.i .i64)] [] (fun r=>(r.1,r.2,())) (fun v1 v2=>(v1,v2)) true
noncomputable abbrev KH:List (Nat×Cut K TyK (Int×Int)):=[(5,ct cod [1,4,11,12,13] [.c (.r 0 0), .c (.i .i64), .c (.l true .held), .c (.i .i64), .c (.i .i64)] [.x [.i .i64, .l true .held, .s, .l true .str]] fM)]
theorem GX (k:Nat):SummOk Tryz.prog cod 142 (wJ k):=bA codOk Tryz.f142 (fun k=>aU [(102,iU k)]) KH false [.tmp 2, .tmp 3] 0 [] mixed Tryz.func142 (by kernel_rfl) (by kernel_rfl) (by kernel_rfl) (by kernel_rfl)
  (fun k=>Known.of tok eok codOk (all_cons (kN k) (aB)) gok)
  (fun k=>QuietOk.of (all_cons (fun h r=>⟨rfl,rfl⟩) (aB)))
  (fun a=>rfl)
  (all_cons (aI codOk (by kernel_rfl) (by (repeat intro _);show _=_;kernel_rfl) (fun k=>by (repeat intro _);show _=_;kernel_rfl)) (aB))
  (fun k=>by (repeat intro _);show _=_;kernel_rfl)
noncomputable def z8 (k:Nat):bU K TyK:=sm cod (aY) [.bo] [.g [.i .i64, .b, .i .i64, .i .i64, .i .i64, .b, .i .i64, .l true .item, .i .i64, .l true .held, .s, .l true .str]] [] (fun k v1 v2 v3 v4 v5 v6 v7 v8 v9 v10 v11 v12=>sP k (⟨v1,v2,v3,v4,v5,v6,(⟨v7,v8⟩:aM),(⟨v9,v10,v11,v12⟩:aL)⟩:aN)) k [.g [.i .i64, .i .i64, .b, .i .i64, .i .i64, .i .i64, .b, .i .i64, .o 0, .i .i64, .o 1, .s, .o 2, .o 3, .s]] [.l .item, .l .held, .l .str, .l .packet] (fun r=>(r.Code,r.End.Number,r.End.Up,r.End.Life,r.End.Peer,r.End.Since,r.End.Owes,r.End.Send.Base,(),r.End.Take.Next,(),r.End.Take.Open,(),(),r.Text,r.End.Send.Items,r.End.Take.Held,r.End.Take.Ready,r.Out,())) (fun v1 v2 v3 v4 v5 v6 v7 v8 v9 v10 v11 v12 v13 v14 v15=>(⟨v1,(⟨v2,v3,v4,v5,v6,v7,(⟨v8,v12⟩:aM),(⟨v9,v13,v10,v14⟩:aL)⟩:aN),v15,v11⟩:aY)) false
noncomputable abbrev L7:List (Nat×Cut K TyK (aY)):=[(9,ct cod [2,3,4] [.c (.r 0 0), .c (.r 1 0), .c (.r 1 1)] [.x [.i .i64, .i .i64, .b, .i .i64, .i .i64, .i .i64, .b, .i .i64, .o 2, .i .i64, .o 3, .s, .o 4, .o 5, .s], .x [.i .i64, .i .i64, .b, .i .i64, .i .i64, .i .i64, .b, .i .i64, .o 6, .i .i64, .o 7, .s, .o 8, .o 9, .s], .l .item, .l .held, .l .str, .l .packet, .l .item, .l .held, .l .str, .l .packet] j0),
  (13,ct cod [2,3,4,53,54,55] [.c (.r 0 0), .c (.r 1 0), .c (.r 1 1), .c (.o 2), .c (.i .i64), .c (.i .i64)] [.x [.i .i64, .i .i64, .b, .i .i64, .i .i64, .i .i64, .b, .i .i64, .o 3, .i .i64, .o 4, .s, .o 5, .o 6, .s], .x [.i .i64, .i .i64, .b, .i .i64, .i .i64, .i .i64, .b, .i .i64, .o 7, .i .i64, .o 8, .s, .o 9, .o 10, .s], .l .int, .l .item, .l .held, .l .str, .l .packet, .l .item, .l .held, .l .str, .l .packet] fS),
  (18,ct cod [2,3,4] [.c (.r 0 0), .c (.r 1 0), .c (.r 1 1)] [.x [.i .i64, .i .i64, .b, .i .i64, .i .i64, .i .i64, .b, .i .i64, .o 2, .i .i64, .o 3, .s, .o 4, .o 5, .s], .x [.i .i64, .i .i64, .b, .i .i64, .i .i64, .i .i64, .b, .i .i64, .o 6, .i .i64, .o 7, .s, .o 8, .o 9, .s], .l .item, .l .held, .l .str, .l .packet, .l .item, .l .held, .l .str, .l .packet] iT),
  (22,ct cod [2,3] [.c (.r 0 0), .c (.r 1 0)] [.x [.i .i64, .i .i64, .b, .i .i64, .i .i64, .i .i64, .b, .i .i64, .o 2, .i .i64, .o 3, .s, .o 4, .o 5, .s], .x [.i .i64, .i .i64, .b, .i .i64, .i .i64, .i .i64, .b, .i .i64, .o 6, .i .i64, .o 7, .s, .o 8, .o 9, .s], .l .item, .l .held, .l .str, .l .packet, .l .item, .l .held, .l .str, .l .packet] eD)]
theorem KM (k:Nat):SummOk Tryz.prog cod 108 (z8 k):=bA codOk Tryz.f108 (fun k=>aU [(67,dZ k),(69,gN k),(141,wB k),(142,wJ k)]) L7 false [.cell 2 82] 0 [] mixed Tryz.func108 (by kernel_rfl) (by kernel_rfl) (by kernel_rfl) (by kernel_rfl)
  (fun k=>Known.of tok eok codOk (all_cons (eK k) (all_cons (gW k) (all_cons (GW k) (all_cons (GX k) (aB))))) gok)
  (fun k=>QuietOk.of (all_cons (fun h r=>⟨rfl,rfl⟩) (all_cons (fun h r=>by cases h) (all_cons (fun h r=>by cases h) (all_cons (fun h r=>⟨rfl,rfl⟩) (aB))))))
  (fun a=>rfl)
  (all_cons (aI codOk (by kernel_rfl) (by (repeat intro _);show _=_;kernel_rfl) (fun k=>by (repeat intro _);show _=_;kernel_rfl)) (all_cons (aI codOk (by kernel_rfl) (by (repeat intro _);show _=_;kernel_rfl) (fun k=>by (repeat intro _);show _=_;kernel_rfl)) (all_cons (aI codOk (by kernel_rfl) (by (repeat intro _);show _=_;kernel_rfl) (fun k=>by (repeat intro _);show _=_;kernel_rfl)) (all_cons (aI codOk (by kernel_rfl) (by (repeat intro _);show _=_;kernel_rfl) (fun k=>by (repeat intro _);show _=_;kernel_rfl)) (aB)))))
  (fun k=>by (repeat intro _);show _=_;kernel_rfl)
noncomputable def jN (k:Nat):bU K TyK:=sm cod (Bool) [.bo] [.g [.i .i64, .i .i64, .i .i64, .i .i64, .i .i64, .i .i64, .i .i64, .b, .s]] [] (fun k v1 v2 v3 v4 v5 v6 v7 v8 v9=>cL k (⟨v1,v2,v3,v4,v5,v6,v7,v8,v9⟩:aF)) k [.c (.b)] [] (fun r=>(r,())) (fun v1=>v1) true
theorem mJ (k:Nat):SummOk Tryz.prog cod 143 (jN k):=bA codOk Tryz.f143 (fun k=>aU [(100,oX k)]) [] false [.tmp 2] 0 [] mixed Tryz.func143 (by kernel_rfl) (by kernel_rfl) (by kernel_rfl) (by kernel_rfl)
  (fun k=>Known.of tok eok codOk (all_cons (oB k) (aB)) gok)
  (fun k=>QuietOk.of (all_cons (fun h r=>⟨rfl,rfl⟩) (aB)))
  (fun a=>rfl)
  (aB)
  (fun k=>by (repeat intro _);show _=_;kernel_rfl)
noncomputable def SA (k:Nat):bU K TyK:=sm cod (ByteArray) [.bo, .bo] [.c (.i .i64), .c (.i .i64)] [] (qZ) k [.c (.s)] [] (fun r=>(r,())) (fun v1=>v1) true
noncomputable abbrev aW_:List (Nat×Cut K TyK (ByteArray)):=[(3,ct cod [0,5,6] [.c (.i .i64), .c (.o 0), .c (.i .i64)] [.l .byte] qM)]
theorem an_ (k:Nat):SummOk Tryz.prog cod 144 (SA k):=bA codOk Tryz.f144 (fun k=>aU []) aW_ false [.tmp 4] 0 [] mixed Tryz.func144 (by kernel_rfl) (by kernel_rfl) (by kernel_rfl) (by kernel_rfl)
  (fun k=>Known.of tok eok codOk (aB) gok)
  (fun k=>QuietOk.of (aB))
  (fun a=>rfl)
  (all_cons (aI codOk (by kernel_rfl) (by (repeat intro _);show _=_;kernel_rfl) (fun k=>by (repeat intro _);show _=_;kernel_rfl)) (aB))
  (fun k=>by (repeat intro _);show _=_;kernel_rfl)
noncomputable def OA (k:Nat):bU K TyK:=sm cod (ByteArray) [.bo, .bo, .bo] [.c (.s), .c (.s), .c (.i .i64)] [] (G8) k [.c (.s)] [] (fun r=>(r,())) (fun v1=>v1) true
noncomputable abbrev al_:List (Nat×Cut K TyK (ByteArray)):=[(6,ct cod [2,7,8,9] [.c (.i .i64), .c (.i .u64), .c (.s), .c (.i .i64)] [] oL),
  (11,ct cod [2,7,10,11] [.c (.i .i64), .c (.i .u64), .c (.z 0 0), .c (.i .i64)] [.l .byte] mR)]
theorem UJ (k:Nat):SummOk Tryz.prog cod 145 (OA k):=bA codOk Tryz.f145 (fun k=>aU []) al_ false [.tmp 6] 0 [] mixed Tryz.func145 (by kernel_rfl) (by kernel_rfl) (by kernel_rfl) (by kernel_rfl)
  (fun k=>Known.of tok eok codOk (aB) gok)
  (fun k=>QuietOk.of (aB))
  (fun a=>rfl)
  (all_cons (aI codOk (by kernel_rfl) (by (repeat intro _);show _=_;kernel_rfl) (fun k=>by (repeat intro _);show _=_;kernel_rfl)) (all_cons (aI codOk (by kernel_rfl) (by (repeat intro _);show _=_;kernel_rfl) (fun k=>by (repeat intro _);show _=_;kernel_rfl)) (aB)))
  (fun k=>by (repeat intro _);show _=_;kernel_rfl)
noncomputable def oN (k:Nat):bU K TyK:=sm cod (ByteArray) [.bo, .bo, .bo] [.g [.i .i64, .i .i64, .i .i64, .i .i64, .i .i64, .i .i64, .i .i64, .b, .s], .c (.s), .c (.i .i64)] [] (fun k v1 v2 v3 v4 v5 v6 v7 v8 v9 v10 v11=>hJ k (⟨v1,v2,v3,v4,v5,v6,v7,v8,v9⟩:aF) v10 v11) k [.c (.s)] [] (fun r=>(r,())) (fun v1=>v1) true
noncomputable abbrev EA:List (Nat×Cut K TyK (ByteArray)):=[(10,ct cod [1,2,7] [.c (.s), .c (.i .i64), .c (.s)] [] fF),
  (9,ct cod [1,2,3,7,8] [.c (.s), .c (.i .i64), .c (.r 0 0), .c (.s), .c (.i .i64)] [.x [.i .i64, .i .i64, .i .i64, .i .i64, .i .i64, .i .i64, .i .i64, .b, .s]] fX)]
theorem sW (k:Nat):SummOk Tryz.prog cod 109 (oN k):=bA codOk Tryz.f109 (fun k=>aU [(143,jN k),(144,SA k),(145,OA k)]) EA false [.tmp 6] 0 [] mixed Tryz.func109 (by kernel_rfl) (by kernel_rfl) (by kernel_rfl) (by kernel_rfl)
  (fun k=>Known.of tok eok codOk (all_cons (mJ k) (all_cons (an_ k) (all_cons (UJ k) (aB)))) gok)
  (fun k=>QuietOk.of (all_cons (fun h r=>⟨rfl,rfl⟩) (all_cons (fun h r=>⟨rfl,rfl⟩) (all_cons (fun h r=>⟨rfl,rfl⟩) (aB)))))
  (fun a=>rfl)
  (all_cons (aI codOk (by kernel_rfl) (by (repeat intro _);show _=_;kernel_rfl) (fun k=>by (repeat intro _);show _=_;kernel_rfl)) (all_cons (aI codOk (by kernel_rfl) (by (repeat intro _);show _=_;kernel_rfl) (fun k=>by (repeat intro _);show _=_;kernel_rfl)) (aB)))
  (fun k=>by (repeat intro _);show _=_;kernel_rfl)
noncomputable def oO (k:Nat):bU K TyK:=sm cod (aC) [.mv] [.c (.r 0 0)] [.x [.s, .i .i64, .o 1, .o 2, .s, .o 3, .o 4], .l .end, .l .parcel, .l .record, .l .record] (fun k v1 v2 v3 v4 v5 v6 v7=>j7 k (⟨v1,v2,v4,v5,v3,v6,v7⟩:aC)) k [] [.x [.s, .i .i64, .o 5, .o 6, .s, .o 7, .o 8], .d, .d, .d, .d, .l .end, .l .parcel, .l .record, .l .record] (fun r=>(r.Key,r.Width,(),(),r.Forged,(),(),r.Ends,r.Flight,r.Given,r.Taken,())) (fun v1 v2 v3 v4 v5 v6 v7=>(⟨v1,v2,v4,v5,v3,v6,v7⟩:aC)) false
noncomputable abbrev D5:List (Nat×Cut K TyK (aC)):=[(1,ct cod [0,11,12] [.c (.r 0 0), .c (.i .i64), .c (.i .i64)] [.x [.s, .i .i64, .o 5, .o 6, .s, .o 7, .o 8], .d, .d, .d, .d, .l .end, .l .parcel, .l .record, .l .record] cR),
  (6,ct cod [0,2,11,12,32,33,34] [.c (.r 0 0), .c (.i .i64), .c (.i .i64), .c (.i .i64), .c (.o 5), .c (.i .i64), .c (.i .i64)] [.x [.s, .i .i64, .o 6, .o 7, .s, .o 8, .o 9], .d, .d, .d, .d, .l .packet, .l .end, .l .parcel, .l .record, .l .record] d9),
  (11,ct cod [0,2,11,12,32,33,34] [.c (.r 0 0), .c (.i .i64), .c (.i .i64), .c (.i .i64), .c (.o 5), .c (.i .i64), .c (.i .i64)] [.x [.s, .i .i64, .o 6, .o 7, .s, .o 8, .o 9], .d, .d, .d, .d, .l .packet, .l .end, .l .parcel, .l .record, .l .record] eW)]
theorem sI (k:Nat):SummOk Tryz.prog cod 72 (oO k):=bA codOk Tryz.f72 (fun k=>aU [(108,z8 k),(109,oN k)]) D5 false [] 5 [false,true,true,true,true] mixed Tryz.func72 (by kernel_rfl) (by kernel_rfl) (by kernel_rfl) (by kernel_rfl)
  (fun k=>Known.of tok eok codOk (all_cons (KM k) (all_cons (sW k) (aB))) gok)
  (fun k=>QuietOk.of (all_cons (fun h r=>by cases h) (all_cons (fun h r=>⟨rfl,rfl⟩) (aB))))
  (fun a=>rfl)
  (all_cons (aI codOk (by kernel_rfl) (by (repeat intro _);show _=_;kernel_rfl) (fun k=>by (repeat intro _);show _=_;kernel_rfl)) (all_cons (aI codOk (by kernel_rfl) (by (repeat intro _);show _=_;kernel_rfl) (fun k=>by (repeat intro _);show _=_;kernel_rfl)) (all_cons (aI codOk (by kernel_rfl) (by (repeat intro _);show _=_;kernel_rfl) (fun k=>by (repeat intro _);show _=_;kernel_rfl)) (aB))))
  (fun k=>by (repeat intro _);show _=_;kernel_rfl)
noncomputable def NX (k:Nat):bU K TyK:=sm cod (Int) [.bo] [.c (.s)] [] (yM) k [.c (.i .i64)] [] (fun r=>(r,())) (fun v1=>v1) true
noncomputable abbrev ap_:List (Nat×Cut K TyK (Int)):=[(3,ct cod [0,3,4] [.c (.s), .c (.i .i64), .c (.i .i64)] [] oE)]
theorem U9 (k:Nat):SummOk Tryz.prog cod 146 (NX k):=bA codOk Tryz.f146 (fun k=>aU []) ap_ false [.tmp 2] 0 [] mixed Tryz.func146 (by kernel_rfl) (by kernel_rfl) (by kernel_rfl) (by kernel_rfl)
  (fun k=>Known.of tok eok codOk (aB) gok)
  (fun k=>QuietOk.of (aB))
  (fun a=>rfl)
  (all_cons (aI codOk (by kernel_rfl) (by (repeat intro _);show _=_;kernel_rfl) (fun k=>by (repeat intro _);show _=_;kernel_rfl)) (aB))
  (fun k=>by (repeat intro _);show _=_;kernel_rfl)
noncomputable def tS (k:Nat):bU K TyK:=sm cod (aF×Bool) [.bo, .bo, .bo] [.c (.s), .c (.s), .c (.i .i64)] [] (nD) k [.g [.i .i64, .i .i64, .i .i64, .i .i64, .i .i64, .i .i64, .i .i64, .b, .s], .c (.b)] [] (fun r=>(r.1.Kind,r.1.From,r.1.Mine,r.1.Yours,r.1.Next,r.1.Mask,r.1.Seq,r.1.Last,r.1.Part,r.2,())) (fun v1 v2 v3 v4 v5 v6 v7 v8 v9 v10=>((⟨v1,v2,v3,v4,v5,v6,v7,v8,v9⟩:aF),v10)) true
noncomputable abbrev EQ:List (Nat×Cut K TyK (aF×Bool)):=[(10,ct cod [0,1,2,6,9] [.c (.s), .c (.s), .c (.i .i64), .c (.r 0 0), .c (.r 1 0)] [.x [.i .i64, .i .i64, .i .i64, .i .i64, .i .i64, .i .i64, .i .i64, .b, .s], .x [.i .i64, .i .i64, .i .i64, .i .i64, .i .i64, .i .i64, .i .i64, .b, .s]] c6)]
theorem CK (k:Nat):SummOk Tryz.prog cod 110 (tS k):=bA codOk Tryz.f110 (fun k=>aU [(146,NX k),(143,jN k),(109,oN k)]) EQ false [.cell 6 128, .tmp 7] 0 [] mixed Tryz.func110 (by kernel_rfl) (by kernel_rfl) (by kernel_rfl) (by kernel_rfl)
  (fun k=>Known.of tok eok codOk (all_cons (U9 k) (all_cons (mJ k) (all_cons (sW k) (aB)))) gok)
  (fun k=>QuietOk.of (all_cons (fun h r=>⟨rfl,rfl⟩) (all_cons (fun h r=>⟨rfl,rfl⟩) (all_cons (fun h r=>⟨rfl,rfl⟩) (aB)))))
  (fun a=>rfl)
  (all_cons (aI codOk (by kernel_rfl) (by (repeat intro _);show _=_;kernel_rfl) (fun k=>by (repeat intro _);show _=_;kernel_rfl)) (aB))
  (fun k=>by (repeat intro _);show _=_;kernel_rfl)
noncomputable def xV (k:Nat):bU K TyK:=sm cod (aM) [.bo, .bo, .bo] [.g [.i .i64, .l true .item], .c (.i .i64), .c (.i .i64)] [] (fun k v1 v2 v3 v4=>qH k (⟨v1,v2⟩:aM) v3 v4) k [.g [.i .i64, .o 0]] [.l .item] (fun r=>(r.Base,(),r.Items,())) (fun v1 v2=>(⟨v1,v2⟩:aM)) false
noncomputable abbrev IR:List (Nat×Cut K TyK (aM)):=[(5,ct cod [1,2,6,7,8] [.c (.i .i64), .c (.i .i64), .c (.r 0 0), .c (.r 1 0), .c (.i .i64)] [.x [.i .i64, .o 2], .x [.i .i64, .o 3], .l .item, .l .item] fK),
  (12,ct cod [2,6,7,9] [.c (.i .i64), .c (.r 0 0), .c (.r 1 0), .c (.i .i64)] [.x [.i .i64, .o 2], .x [.i .i64, .o 3], .l .item, .l .item] c7),
  (13,ct cod [2,6,7,9] [.c (.i .i64), .c (.r 0 0), .c (.r 1 0), .c (.i .i64)] [.x [.i .i64, .o 2], .x [.i .i64, .o 3], .l .item, .l .item] eU)]
theorem GE (k:Nat):SummOk Tryz.prog cod 147 (xV k):=bA codOk Tryz.f147 (fun k=>aU [(101,jA k),(106,jY k),(100,oX k)]) IR false [.cell 6 56] 0 [] mixed Tryz.func147 (by kernel_rfl) (by kernel_rfl) (by kernel_rfl) (by kernel_rfl)
  (fun k=>Known.of tok eok codOk (all_cons (kL k) (all_cons (mB k) (all_cons (oB k) (aB)))) gok)
  (fun k=>QuietOk.of (all_cons (fun h r=>⟨rfl,rfl⟩) (all_cons (fun h r=>by cases h) (all_cons (fun h r=>⟨rfl,rfl⟩) (aB)))))
  (fun a=>rfl)
  (all_cons (aI codOk (by kernel_rfl) (by (repeat intro _);show _=_;kernel_rfl) (fun k=>by (repeat intro _);show _=_;kernel_rfl)) (all_cons (aI codOk (by kernel_rfl) (by (repeat intro _);show _=_;kernel_rfl) (fun k=>by (repeat intro _);show _=_;kernel_rfl)) (all_cons (aI codOk (by kernel_rfl) (by (repeat intro _);show _=_;kernel_rfl) (fun k=>by (repeat intro _);show _=_;kernel_rfl)) (aB))))
  (fun k=>by (repeat intro _);show _=_;kernel_rfl)
noncomputable def BC (k:Nat):bU K TyK:=sm cod (aL) [.mv] [.g [.i .i64, .o 0, .s, .o 1]] [.l .held, .l .str] (fun k v1 v2 v3 v4=>m6 k (⟨v1,v3,v2,v4⟩:aL)) k [.g [.i .i64, .o 2, .s, .o 3]] [.d, .d, .l .held, .l .str] (fun r=>(r.Next,(),r.Open,(),r.Held,r.Ready,())) (fun v1 v2 v3 v4=>(⟨v1,v3,v2,v4⟩:aL)) false
noncomputable abbrev WN:List (Nat×Cut K TyK (aL)):=[(1,ct cod [1,2] [.c (.r 2 0), .c (.r 3 0)] [.d, .d, .x [.i .i64, .o 4, .s, .o 5], .x [.i .i64, .o 6, .s, .o 7], .l .held, .l .str, .l .held, .l .str] mS)]
theorem FV (k:Nat):SummOk Tryz.prog cod 113 (BC k):=bA codOk Tryz.f113 (fun k=>aU [(140,A7 k)]) WN false [.cell 2 59] 2 [true,true] mixed Tryz.func113 (by kernel_rfl) (by kernel_rfl) (by kernel_rfl) (by kernel_rfl)
  (fun k=>Known.of tok eok codOk (all_cons (FD k) (aB)) gok)
  (fun k=>QuietOk.of (all_cons (fun h r=>⟨rfl,rfl⟩) (aB)))
  (fun a=>rfl)
  (all_cons (aI codOk (by kernel_rfl) (by (repeat intro _);show _=_;kernel_rfl) (fun k=>by (repeat intro _);show _=_;kernel_rfl)) (aB))
  (fun k=>by (repeat intro _);show _=_;kernel_rfl)
noncomputable def wY (k:Nat):bU K TyK:=sm cod (aL) [.bo, .bo, .bo] [.g [.i .i64, .l true .held, .s, .l true .str], .c (.i .i64), .g [.s, .b]] [] (fun k v1 v2 v3 v4 v5 v6 v7=>qF k (⟨v1,v2,v3,v4⟩:aL) v5 (⟨v6,v7⟩:cA)) k [.g [.i .i64, .o 0, .s, .o 1]] [.l .held, .l .str] (fun r=>(r.Next,(),r.Open,(),r.Held,r.Ready,())) (fun v1 v2 v3 v4=>(⟨v1,v3,v2,v4⟩:aL)) false
noncomputable abbrev IK:List (Nat×Cut K TyK (aL)):=[(7,ct cod [1,5,6,7,8] [.c (.i .i64), .c (.r 0 0), .c (.r 1 0), .c (.r 2 0), .c (.i .i64)] [.x [.s, .b], .x [.i .i64, .o 3, .s, .o 4], .x [.i .i64, .o 5, .s, .o 6], .l .held, .l .str, .l .held, .l .str] fO)]
theorem GA (k:Nat):SummOk Tryz.prog cod 148 (wY k):=bA codOk Tryz.f148 (fun k=>aU [(102,iU k),(107,nU k),(100,oX k),(113,BC k)]) IK false [.cell 6 59] 0 [] mixed Tryz.func148 (by kernel_rfl) (by kernel_rfl) (by kernel_rfl) (by kernel_rfl)
  (fun k=>Known.of tok eok codOk (all_cons (kN k) (all_cons (pJ k) (all_cons (oB k) (all_cons (FV k) (aB))))) gok)
  (fun k=>QuietOk.of (all_cons (fun h r=>⟨rfl,rfl⟩) (all_cons (fun h r=>by cases h) (all_cons (fun h r=>⟨rfl,rfl⟩) (all_cons (fun h r=>by cases h) (aB))))))
  (fun a=>rfl)
  (all_cons (aI codOk (by kernel_rfl) (by (repeat intro _);show _=_;kernel_rfl) (fun k=>by (repeat intro _);show _=_;kernel_rfl)) (aB))
  (fun k=>by (repeat intro _);show _=_;kernel_rfl)
noncomputable def zW (k:Nat):bU K TyK:=sm cod (aY) [.bo, .bo] [.g [.i .i64, .b, .i .i64, .i .i64, .i .i64, .b, .i .i64, .l true .item, .i .i64, .l true .held, .s, .l true .str], .g [.i .i64, .i .i64, .i .i64, .i .i64, .i .i64, .i .i64, .i .i64, .b, .s]] [] (fun k v1 v2 v3 v4 v5 v6 v7 v8 v9 v10 v11 v12 v13 v14 v15 v16 v17 v18 v19 v20 v21=>rY k (⟨v1,v2,v3,v4,v5,v6,(⟨v7,v8⟩:aM),(⟨v9,v10,v11,v12⟩:aL)⟩:aN) (⟨v13,v14,v15,v16,v17,v18,v19,v20,v21⟩:aF)) k [.g [.i .i64, .i .i64, .b, .i .i64, .i .i64, .i .i64, .b, .i .i64, .o 0, .i .i64, .o 1, .s, .o 2, .o 3, .s]] [.l .item, .l .held, .l .str, .l .packet] (fun r=>(r.Code,r.End.Number,r.End.Up,r.End.Life,r.End.Peer,r.End.Since,r.End.Owes,r.End.Send.Base,(),r.End.Take.Next,(),r.End.Take.Open,(),(),r.Text,r.End.Send.Items,r.End.Take.Held,r.End.Take.Ready,r.Out,())) (fun v1 v2 v3 v4 v5 v6 v7 v8 v9 v10 v11 v12 v13 v14 v15=>(⟨v1,(⟨v2,v3,v4,v5,v6,v7,(⟨v8,v12⟩:aM),(⟨v9,v13,v10,v14⟩:aL)⟩:aN),v15,v11⟩:aY)) false
noncomputable abbrev MT:List (Nat×Cut K TyK (aY)):=[(9,ct cod [3,4,5,6] [.c (.r 0 0), .c (.r 1 0), .c (.r 2 0), .c (.r 2 1)] [.x [.i .i64, .i .i64, .i .i64, .i .i64, .i .i64, .i .i64, .i .i64, .b, .s], .x [.i .i64, .i .i64, .b, .i .i64, .i .i64, .i .i64, .b, .i .i64, .o 3, .i .i64, .o 4, .s, .o 5, .o 6, .s], .x [.i .i64, .i .i64, .b, .i .i64, .i .i64, .i .i64, .b, .i .i64, .o 7, .i .i64, .o 8, .s, .o 9, .o 10, .s], .l .item, .l .held, .l .str, .l .packet, .l .item, .l .held, .l .str, .l .packet] jW),
  (16,ct cod [4,5] [.c (.r 0 0), .c (.r 1 0)] [.x [.i .i64, .i .i64, .b, .i .i64, .i .i64, .i .i64, .b, .i .i64, .o 2, .i .i64, .o 3, .s, .o 4, .o 5, .s], .x [.i .i64, .i .i64, .b, .i .i64, .i .i64, .i .i64, .b, .i .i64, .o 6, .i .i64, .o 7, .s, .o 8, .o 9, .s], .l .item, .l .held, .l .str, .l .packet, .l .item, .l .held, .l .str, .l .packet] iW)]
theorem J5 (k:Nat):SummOk Tryz.prog cod 111 (zW k):=bA codOk Tryz.f111 (fun k=>aU [(67,dZ k),(69,gN k),(143,jN k),(147,xV k),(148,wY k)]) MT false [.cell 4 82] 0 [] mixed Tryz.func111 (by kernel_rfl) (by kernel_rfl) (by kernel_rfl) (by kernel_rfl)
  (fun k=>Known.of tok eok codOk (all_cons (eK k) (all_cons (gW k) (all_cons (mJ k) (all_cons (GE k) (all_cons (GA k) (aB)))))) gok)
  (fun k=>QuietOk.of (all_cons (fun h r=>⟨rfl,rfl⟩) (all_cons (fun h r=>by cases h) (all_cons (fun h r=>⟨rfl,rfl⟩) (all_cons (fun h r=>by cases h) (all_cons (fun h r=>by cases h) (aB)))))))
  (fun a=>rfl)
  (all_cons (aI codOk (by kernel_rfl) (by (repeat intro _);show _=_;kernel_rfl) (fun k=>by (repeat intro _);show _=_;kernel_rfl)) (all_cons (aI codOk (by kernel_rfl) (by (repeat intro _);show _=_;kernel_rfl) (fun k=>by (repeat intro _);show _=_;kernel_rfl)) (aB)))
  (fun k=>by (repeat intro _);show _=_;kernel_rfl)
noncomputable def nP (k:Nat):bU K TyK:=sm cod (aC) [.mv, .mv] [.c (.r 0 0), .g [.i .i64, .s, .s]] [.x [.s, .i .i64, .o 1, .o 2, .s, .o 3, .o 4], .l .end, .l .parcel, .l .record, .l .record] (fun k v1 v2 v3 v4 v5 v6 v7 v8 v9 v10=>fV k (⟨v4,v5,v7,v8,v6,v9,v10⟩:aC) (⟨v1,v2,v3⟩:aE)) k [] [.x [.s, .i .i64, .o 5, .o 6, .s, .o 7, .o 8], .d, .d, .d, .d, .l .end, .l .parcel, .l .record, .l .record] (fun r=>(r.Key,r.Width,(),(),r.Forged,(),(),r.Ends,r.Flight,r.Given,r.Taken,())) (fun v1 v2 v3 v4 v5 v6 v7=>(⟨v1,v2,v4,v5,v3,v6,v7⟩:aC)) false
noncomputable abbrev CL:List (Nat×Cut K TyK (aC)):=[(5,ct cod [0,3,4] [.c (.r 0 0), .c (.r 5 0), .c (.r 6 0)] [.x [.s, .i .i64, .o 7, .o 8, .s, .o 9, .o 10], .d, .d, .d, .d, .x [.i .i64, .s, .s], .x [.i .i64, .i .i64, .i .i64, .i .i64, .i .i64, .i .i64, .i .i64, .b, .s], .l .end, .l .parcel, .l .record, .l .record] dL)]
theorem qX (k:Nat):SummOk Tryz.prog cod 73 (nP k):=bA codOk Tryz.f73 (fun k=>aU [(110,tS k),(111,zW k)]) CL false [] 5 [false,true,true,true,true] mixed Tryz.func73 (by kernel_rfl) (by kernel_rfl) (by kernel_rfl) (by kernel_rfl)
  (fun k=>Known.of tok eok codOk (all_cons (CK k) (all_cons (J5 k) (aB))) gok)
  (fun k=>QuietOk.of (all_cons (fun h r=>⟨rfl,rfl⟩) (all_cons (fun h r=>by cases h) (aB))))
  (fun a=>rfl)
  (all_cons (aI codOk (by kernel_rfl) (by (repeat intro _);show _=_;kernel_rfl) (fun k=>by (repeat intro _);show _=_;kernel_rfl)) (aB))
  (fun k=>by (repeat intro _);show _=_;kernel_rfl)
noncomputable def zG (k:Nat):bU K TyK:=sm cod (aN) [.bo] [.g [.i .i64, .b, .i .i64, .i .i64, .i .i64, .b, .i .i64, .l true .item, .i .i64, .l true .held, .s, .l true .str]] [] (fun k v1 v2 v3 v4 v5 v6 v7 v8 v9 v10 v11 v12=>sM k (⟨v1,v2,v3,v4,v5,v6,(⟨v7,v8⟩:aM),(⟨v9,v10,v11,v12⟩:aL)⟩:aN)) k [.g [.i .i64, .b, .i .i64, .i .i64, .i .i64, .b, .i .i64, .o 0, .i .i64, .o 1, .s, .o 2]] [.l .item, .l .held, .l .str] (fun r=>(r.Number,r.Up,r.Life,r.Peer,r.Since,r.Owes,r.Send.Base,(),r.Take.Next,(),r.Take.Open,(),r.Send.Items,r.Take.Held,r.Take.Ready,())) (fun v1 v2 v3 v4 v5 v6 v7 v8 v9 v10 v11 v12=>(⟨v1,v2,v3,v4,v5,v6,(⟨v7,v10⟩:aM),(⟨v8,v11,v9,v12⟩:aL)⟩:aN)) false
theorem IW (k:Nat):SummOk Tryz.prog cod 74 (zG k):=bA codOk Tryz.f74 (fun k=>aU [(67,dZ k)]) [] false [.cell 2 61] 0 [] mixed Tryz.func74 (by kernel_rfl) (by kernel_rfl) (by kernel_rfl) (by kernel_rfl)
  (fun k=>Known.of tok eok codOk (all_cons (eK k) (aB)) gok)
  (fun k=>QuietOk.of (all_cons (fun h r=>⟨rfl,rfl⟩) (aB)))
  (fun a=>rfl)
  (aB)
  (fun k=>by (repeat intro _);show _=_;kernel_rfl)
noncomputable def zJ (k:Nat):bU K TyK:=sm cod (aN) [.bo] [.g [.i .i64, .b, .i .i64, .i .i64, .i .i64, .b, .i .i64, .l true .item, .i .i64, .l true .held, .s, .l true .str]] [] (fun k v1 v2 v3 v4 v5 v6 v7 v8 v9 v10 v11 v12=>sV k (⟨v1,v2,v3,v4,v5,v6,(⟨v7,v8⟩:aM),(⟨v9,v10,v11,v12⟩:aL)⟩:aN)) k [.g [.i .i64, .b, .i .i64, .i .i64, .i .i64, .b, .i .i64, .o 0, .i .i64, .o 1, .s, .o 2]] [.l .item, .l .held, .l .str] (fun r=>(r.Number,r.Up,r.Life,r.Peer,r.Since,r.Owes,r.Send.Base,(),r.Take.Next,(),r.Take.Open,(),r.Send.Items,r.Take.Held,r.Take.Ready,())) (fun v1 v2 v3 v4 v5 v6 v7 v8 v9 v10 v11 v12=>(⟨v1,v2,v3,v4,v5,v6,(⟨v7,v10⟩:aM),(⟨v8,v11,v9,v12⟩:aL)⟩:aN)) false
theorem JE (k:Nat):SummOk Tryz.prog cod 75 (zJ k):=bA codOk Tryz.f75 (fun k=>aU [(67,dZ k),(69,gN k)]) [] false [.cell 2 61] 0 [] mixed Tryz.func75 (by kernel_rfl) (by kernel_rfl) (by kernel_rfl) (by kernel_rfl)
  (fun k=>Known.of tok eok codOk (all_cons (eK k) (all_cons (gW k) (aB))) gok)
  (fun k=>QuietOk.of (all_cons (fun h r=>⟨rfl,rfl⟩) (all_cons (fun h r=>by cases h) (aB))))
  (fun a=>rfl)
  (aB)
  (fun k=>by (repeat intro _);show _=_;kernel_rfl)
noncomputable def oK (k:Nat):bU K TyK:=sm cod (Bool×aC) [.mv] [.c (.r 0 0)] [.x [.s, .i .i64, .o 1, .o 2, .s, .o 3, .o 4], .l .end, .l .parcel, .l .record, .l .record] (fun k v1 v2 v3 v4 v5 v6 v7=>jX k (⟨v1,v2,v4,v5,v3,v6,v7⟩:aC)) k [.c (.b)] [.x [.s, .i .i64, .o 5, .o 6, .s, .o 7, .o 8], .d, .d, .d, .d, .l .end, .l .parcel, .l .record, .l .record] (fun r=>(r.1,r.2.Key,r.2.Width,(),(),r.2.Forged,(),(),r.2.Ends,r.2.Flight,r.2.Given,r.2.Taken,())) (fun v1 v2 v3 v4 v5 v6 v7 v8=>(v1,(⟨v2,v3,v5,v6,v4,v7,v8⟩:aC))) false
theorem sX (k:Nat):SummOk Tryz.prog cod 76 (oK k):=bA codOk Tryz.f76 (fun k=>aU []) [] false [.tmp 2] 5 [false,true,true,true,true] mixed Tryz.func76 (by kernel_rfl) (by kernel_rfl) (by kernel_rfl) (by kernel_rfl)
  (fun k=>Known.of tok eok codOk (aB) gok)
  (fun k=>QuietOk.of (aB))
  (fun a=>rfl)
  (aB)
  (fun k=>by (repeat intro _);show _=_;kernel_rfl)
noncomputable def wN (k:Nat):bU K TyK:=sm cod (aL×ByteArray×Bool) [.bo] [.g [.i .i64, .l true .held, .s, .l true .str]] [] (fun k v1 v2 v3 v4=>pZ k (⟨v1,v2,v3,v4⟩:aL)) k [.g [.i .i64, .o 0, .s, .o 1], .c (.s), .c (.b)] [.l .held, .l .str] (fun r=>(r.1.Next,(),r.1.Open,(),r.2.1,r.2.2,r.1.Held,r.1.Ready,())) (fun v1 v2 v3 v4 v5 v6=>((⟨v1,v5,v2,v6⟩:aL),v3,v4)) false
theorem GZ (k:Nat):SummOk Tryz.prog cod 79 (wN k):=bA codOk Tryz.f79 (fun k=>aU [(102,iU k),(107,nU k),(113,BC k)]) [] false [.cell 2 59, .tmp 3, .tmp 4] 0 [] mixed Tryz.func79 (by kernel_rfl) (by kernel_rfl) (by kernel_rfl) (by kernel_rfl)
  (fun k=>Known.of tok eok codOk (all_cons (kN k) (all_cons (pJ k) (all_cons (FV k) (aB)))) gok)
  (fun k=>QuietOk.of (all_cons (fun h r=>⟨rfl,rfl⟩) (all_cons (fun h r=>by cases h) (all_cons (fun h r=>by cases h) (aB)))))
  (fun a=>rfl)
  (aB)
  (fun k=>by (repeat intro _);show _=_;kernel_rfl)
noncomputable def sZ (k:Nat):bU K TyK:=sm cod (aY) [.bo] [.g [.i .i64, .b, .i .i64, .i .i64, .i .i64, .b, .i .i64, .l true .item, .i .i64, .l true .held, .s, .l true .str]] [] (fun k v1 v2 v3 v4 v5 v6 v7 v8 v9 v10 v11 v12=>mT k (⟨v1,v2,v3,v4,v5,v6,(⟨v7,v8⟩:aM),(⟨v9,v10,v11,v12⟩:aL)⟩:aN)) k [.g [.i .i64, .i .i64, .b, .i .i64, .i .i64, .i .i64, .b, .i .i64, .o 0, .i .i64, .o 1, .s, .o 2, .o 3, .s]] [.l .item, .l .held, .l .str, .l .packet] (fun r=>(r.Code,r.End.Number,r.End.Up,r.End.Life,r.End.Peer,r.End.Since,r.End.Owes,r.End.Send.Base,(),r.End.Take.Next,(),r.End.Take.Open,(),(),r.Text,r.End.Send.Items,r.End.Take.Held,r.End.Take.Ready,r.Out,())) (fun v1 v2 v3 v4 v5 v6 v7 v8 v9 v10 v11 v12 v13 v14 v15=>(⟨v1,(⟨v2,v3,v4,v5,v6,v7,(⟨v8,v12⟩:aM),(⟨v9,v13,v10,v14⟩:aL)⟩:aN),v15,v11⟩:aY)) false
theorem wE (k:Nat):SummOk Tryz.prog cod 41 (sZ k):=bA codOk Tryz.f41 (fun k=>aU [(67,dZ k),(79,wN k),(69,gN k)]) [] false [.cell 2 82] 0 [] mixed Tryz.func41 (by kernel_rfl) (by kernel_rfl) (by kernel_rfl) (by kernel_rfl)
  (fun k=>Known.of tok eok codOk (all_cons (eK k) (all_cons (GZ k) (all_cons (gW k) (aB)))) gok)
  (fun k=>QuietOk.of (all_cons (fun h r=>⟨rfl,rfl⟩) (all_cons (fun h r=>by cases h) (all_cons (fun h r=>by cases h) (aB)))))
  (fun a=>rfl)
  (aB)
  (fun k=>by (repeat intro _);show _=_;kernel_rfl)
noncomputable def oH (k:Nat):bU K TyK:=sm cod (aC) [.mv, .mv] [.c (.r 0 0), .c (.i .i64)] [.x [.s, .i .i64, .o 1, .o 2, .s, .o 3, .o 4], .l .end, .l .parcel, .l .record, .l .record] (fun k v1 v2 v3 v4 v5 v6 v7 v8=>j6 k (⟨v2,v3,v5,v6,v4,v7,v8⟩:aC) v1) k [] [.x [.s, .i .i64, .o 5, .o 6, .s, .o 7, .o 8], .d, .d, .d, .d, .l .end, .l .parcel, .l .record, .l .record] (fun r=>(r.Key,r.Width,(),(),r.Forged,(),(),r.Ends,r.Flight,r.Given,r.Taken,())) (fun v1 v2 v3 v4 v5 v6 v7=>(⟨v1,v2,v4,v5,v3,v6,v7⟩:aC)) false
theorem sN (k:Nat):SummOk Tryz.prog cod 77 (oH k):=bA codOk Tryz.f77 (fun k=>aU [(76,oK k),(41,sZ k)]) [] false [] 5 [false,true,true,true,true] mixed Tryz.func77 (by kernel_rfl) (by kernel_rfl) (by kernel_rfl) (by kernel_rfl)
  (fun k=>Known.of tok eok codOk (all_cons (sX k) (all_cons (wE k) (aB))) gok)
  (fun k=>QuietOk.of (all_cons (fun h r=>by cases h) (all_cons (fun h r=>by cases h) (aB))))
  (fun a=>rfl)
  (aB)
  (fun k=>by (repeat intro _);show _=_;kernel_rfl)
noncomputable def SR (k:Nat):bU K TyK:=sm cod (aC) [.bo, .bo] [.g [.s, .i .i64, .l true .end, .l true .parcel, .s, .l true .record, .l true .record], .g [.i .i64, .i .i64, .i .i64, .i .i64, .s]] [] (fun k v1 v2 v3 v4 v5 v6 v7 v8 v9 v10 v11 v12=>s7 k (⟨v1,v2,v3,v4,v5,v6,v7⟩:aC) (⟨v8,v9,v10,v11,v12⟩:bI)) k [.g [.s, .i .i64, .o 0, .o 1, .s, .o 2, .o 3]] [.l .end, .l .parcel, .l .record, .l .record] (fun r=>(r.Key,r.Width,(),(),r.Forged,(),(),r.Ends,r.Flight,r.Given,r.Taken,())) (fun v1 v2 v3 v4 v5 v6 v7=>(⟨v1,v2,v4,v5,v3,v6,v7⟩:aC)) false
noncomputable abbrev bD_:List (Nat×Cut K TyK (aC)):=[(5,ct cod [3,4,5,6] [.c (.r 0 0), .c (.r 1 0), .c (.r 2 0), .c (.b)] [.x [.i .i64, .i .i64, .i .i64, .i .i64, .s], .x [.s, .i .i64, .o 3, .o 4, .s, .o 5, .o 6], .x [.s, .i .i64, .o 7, .o 8, .s, .o 9, .o 10], .l .end, .l .parcel, .l .record, .l .record, .l .end, .l .parcel, .l .record, .l .record] tZ),
  (6,ct cod [3,4,5,6,7] [.c (.r 0 0), .c (.r 1 0), .c (.r 2 0), .c (.b), .c (.b)] [.x [.i .i64, .i .i64, .i .i64, .i .i64, .s], .x [.s, .i .i64, .o 3, .o 4, .s, .o 5, .o 6], .x [.s, .i .i64, .o 7, .o 8, .s, .o 9, .o 10], .l .end, .l .parcel, .l .record, .l .record, .l .end, .l .parcel, .l .record, .l .record] uE),
  (45,ct cod [4,5] [.c (.r 0 0), .c (.r 1 0)] [.x [.s, .i .i64, .o 2, .o 3, .s, .o 4, .o 5], .x [.s, .i .i64, .o 6, .o 7, .s, .o 8, .o 9], .l .end, .l .parcel, .l .record, .l .record, .l .end, .l .parcel, .l .record, .l .record] aT),
  (11,ct cod [3,4,5,7] [.c (.r 0 0), .c (.r 1 0), .c (.r 2 0), .c (.b)] [.x [.i .i64, .i .i64, .i .i64, .i .i64, .s], .x [.s, .i .i64, .o 3, .o 4, .s, .o 5, .o 6], .x [.s, .i .i64, .o 7, .o 8, .s, .o 9, .o 10], .l .end, .l .parcel, .l .record, .l .record, .l .end, .l .parcel, .l .record, .l .record] rI),
  (16,ct cod [3,4,5,6,7,37] [.c (.r 0 0), .c (.r 1 0), .c (.r 2 0), .c (.b), .c (.b), .c (.i .i64)] [.x [.i .i64, .i .i64, .i .i64, .i .i64, .s], .x [.s, .i .i64, .o 3, .o 4, .s, .o 5, .o 6], .x [.s, .i .i64, .o 7, .o 8, .s, .o 9, .o 10], .l .end, .l .parcel, .l .record, .l .record, .l .end, .l .parcel, .l .record, .l .record] vD)]
theorem aj_ (k:Nat):SummOk Tryz.prog cod 39 (SR k):=bA codOk Tryz.f39 (fun k=>aU [(70,gU k),(71,pD k),(72,oO k),(73,nP k),(74,zG k),(75,zJ k),(76,oK k),(38,s8 k),(77,oH k)]) bD_ false [.cell 4 33] 0 [] mixed Tryz.func39 (by kernel_rfl) (by kernel_rfl) (by kernel_rfl) (by kernel_rfl)
  (fun k=>Known.of tok eok codOk (all_cons (jO k) (all_cons (tW k) (all_cons (sI k) (all_cons (qX k) (all_cons (IW k) (all_cons (JE k) (all_cons (sX k) (all_cons (wU k) (all_cons (sN k) (aB)))))))))) gok)
  (fun k=>QuietOk.of (all_cons (fun h r=>⟨rfl,rfl⟩) (all_cons (fun h r=>by cases h) (all_cons (fun h r=>by cases h) (all_cons (fun h r=>by cases h) (all_cons (fun h r=>by cases h) (all_cons (fun h r=>by cases h) (all_cons (fun h r=>by cases h) (all_cons (fun h r=>by cases h) (all_cons (fun h r=>by cases h) (aB)))))))))))
  (fun a=>rfl)
  (all_cons (aI codOk (by kernel_rfl) (by (repeat intro _);show _=_;kernel_rfl) (fun k=>by (repeat intro _);show _=_;kernel_rfl)) (all_cons (aI codOk (by kernel_rfl) (by (repeat intro _);show _=_;kernel_rfl) (fun k=>by (repeat intro _);show _=_;kernel_rfl)) (all_cons (aI codOk (by kernel_rfl) (by (repeat intro _);show _=_;kernel_rfl) (fun k=>by (repeat intro _);show _=_;kernel_rfl)) (all_cons (aI codOk (by kernel_rfl) (by (repeat intro _);show _=_;kernel_rfl) (fun k=>by (repeat intro _);show _=_;kernel_rfl)) (all_cons (aI codOk (by kernel_rfl) (by (repeat intro _);show _=_;kernel_rfl) (fun k=>by (repeat intro _);show _=_;kernel_rfl)) (aB))))))
  (fun k=>by (repeat intro _);show _=_;kernel_rfl)
noncomputable def IT (k:Nat):bU K TyK:=sm cod (aC) [.bo, .bo, .bo] [.g [.s, .i .i64, .l true .end, .l true .parcel, .s, .l true .record, .l true .record], .c (.i .i64), .c (.i .i64)] [] (fun k v1 v2 v3 v4 v5 v6 v7 v8 v9=>BV k (⟨v1,v2,v3,v4,v5,v6,v7⟩:aC) v8 v9) k [.g [.s, .i .i64, .o 0, .o 1, .s, .o 2, .o 3]] [.l .end, .l .parcel, .l .record, .l .record] (fun r=>(r.Key,r.Width,(),(),r.Forged,(),(),r.Ends,r.Flight,r.Given,r.Taken,())) (fun v1 v2 v3 v4 v5 v6 v7=>(⟨v1,v2,v4,v5,v3,v6,v7⟩:aC)) false
noncomputable abbrev UU:List (Nat×Cut K TyK (aC)):=[(7,ct cod [1,2,6,7,8] [.c (.i .i64), .c (.i .i64), .c (.r 0 0), .c (.r 1 0), .c (.m 2)] [.x [.s, .i .i64, .o 3, .o 4, .s, .o 5, .o 6], .x [.s, .i .i64, .o 7, .o 8, .s, .o 9, .o 10], .m .key .int, .l .end, .l .parcel, .l .record, .l .record, .l .end, .l .parcel, .l .record, .l .record] iB),
  (13,ct cod [1,2,6,7,8,40,41,42] [.c (.i .i64), .c (.i .i64), .c (.r 0 0), .c (.r 1 0), .c (.m 2), .c (.o 3), .c (.i .i64), .c (.i .i64)] [.x [.s, .i .i64, .o 4, .o 5, .s, .o 6, .o 7], .x [.s, .i .i64, .o 8, .o 9, .s, .o 10, .o 11], .m .key .int, .l .parcel, .l .end, .l .parcel, .l .record, .l .record, .l .end, .l .parcel, .l .record, .l .record] iN),
  (17,ct cod [1,2,6,7,8,11,12,40,41,42] [.c (.i .i64), .c (.i .i64), .c (.r 0 0), .c (.r 1 0), .c (.m 2), .c (.r 3 0), .c (.r 4 0), .c (.o 5), .c (.i .i64), .c (.i .i64)] [.x [.s, .i .i64, .o 6, .o 7, .s, .o 8, .o 9], .x [.s, .i .i64, .o 10, .o 11, .s, .o 12, .o 13], .m .key .int, .x [.i .i64, .s, .s], .x [.i .i64, .s], .l .parcel, .l .end, .l .parcel, .l .record, .l .record, .l .end, .l .parcel, .l .record, .l .record] cV),
  (21,ct cod [1,2,6,7,8,13] [.c (.i .i64), .c (.i .i64), .c (.r 0 0), .c (.r 1 0), .c (.m 2), .c (.i .i64)] [.x [.s, .i .i64, .o 3, .o 4, .s, .o 5, .o 6], .x [.s, .i .i64, .o 7, .o 8, .s, .o 9, .o 10], .m .key .int, .l .end, .l .parcel, .l .record, .l .record, .l .end, .l .parcel, .l .record, .l .record] eN),
  (19,ct cod [1,2,6,7,8,40,41,42] [.c (.i .i64), .c (.i .i64), .c (.r 0 0), .c (.r 1 0), .c (.m 2), .c (.o 3), .c (.i .i64), .c (.i .i64)] [.x [.s, .i .i64, .o 4, .o 5, .s, .o 6, .o 7], .x [.s, .i .i64, .o 8, .o 9, .s, .o 10, .o 11], .m .key .int, .l .parcel, .l .end, .l .parcel, .l .record, .l .record, .l .end, .l .parcel, .l .record, .l .record] iJ),
  (24,ct cod [1,2,6,7,8,13,14] [.c (.i .i64), .c (.i .i64), .c (.r 0 0), .c (.r 1 0), .c (.m 2), .c (.i .i64), .c (.i .i64)] [.x [.s, .i .i64, .o 3, .o 4, .s, .o 5, .o 6], .x [.s, .i .i64, .o 7, .o 8, .s, .o 9, .o 10], .m .key .int, .l .end, .l .parcel, .l .record, .l .record, .l .end, .l .parcel, .l .record, .l .record] kR)]
theorem T3 (k:Nat):SummOk Tryz.prog cod 42 (IT k):=bA codOk Tryz.f42 (fun k=>aU [(70,gU k),(71,pD k),(72,oO k),(73,nP k),(77,oH k)]) UU false [.cell 6 33] 0 [] mixed Tryz.func42 (by kernel_rfl) (by kernel_rfl) (by kernel_rfl) (by kernel_rfl)
  (fun k=>Known.of tok eok codOk (all_cons (jO k) (all_cons (tW k) (all_cons (sI k) (all_cons (qX k) (all_cons (sN k) (aB)))))) gok)
  (fun k=>QuietOk.of (all_cons (fun h r=>⟨rfl,rfl⟩) (all_cons (fun h r=>by cases h) (all_cons (fun h r=>by cases h) (all_cons (fun h r=>by cases h) (all_cons (fun h r=>by cases h) (aB)))))))
  (fun a=>rfl)
  (all_cons (aI codOk (by kernel_rfl) (by (repeat intro _);show _=_;kernel_rfl) (fun k=>by (repeat intro _);show _=_;kernel_rfl)) (all_cons (aI codOk (by kernel_rfl) (by (repeat intro _);show _=_;kernel_rfl) (fun k=>by (repeat intro _);show _=_;kernel_rfl)) (all_cons (aI codOk (by kernel_rfl) (by (repeat intro _);show _=_;kernel_rfl) (fun k=>by (repeat intro _);show _=_;kernel_rfl)) (all_cons (aI codOk (by kernel_rfl) (by (repeat intro _);show _=_;kernel_rfl) (fun k=>by (repeat intro _);show _=_;kernel_rfl)) (all_cons (aI codOk (by kernel_rfl) (by (repeat intro _);show _=_;kernel_rfl) (fun k=>by (repeat intro _);show _=_;kernel_rfl)) (all_cons (aI codOk (by kernel_rfl) (by (repeat intro _);show _=_;kernel_rfl) (fun k=>by (repeat intro _);show _=_;kernel_rfl)) (aB)))))))
  (fun k=>by (repeat intro _);show _=_;kernel_rfl)
noncomputable def LE (k:Nat):bU K TyK:=sm cod (ByteArray) [.bo] [.g [.i .i64, .b, .i .i64, .i .i64, .i .i64, .b, .i .i64, .l true .item, .i .i64, .l true .held, .s, .l true .str]] [] (fun k v1 v2 v3 v4 v5 v6 v7 v8 v9 v10 v11 v12=>wC k (⟨v1,v2,v3,v4,v5,v6,(⟨v7,v8⟩:aM),(⟨v9,v10,v11,v12⟩:aL)⟩:aN)) k [.c (.s)] [] (fun r=>(r,())) (fun v1=>v1) true
theorem RC (k:Nat):SummOk Tryz.prog cod 43 (LE k):=bA codOk Tryz.f43 (fun k=>aU [(40,tI k)]) [] false [.tmp 2] 0 [] mixed Tryz.func43 (by kernel_rfl) (by kernel_rfl) (by kernel_rfl) (by kernel_rfl)
  (fun k=>Known.of tok eok codOk (all_cons (xU k) (aB)) gok)
  (fun k=>QuietOk.of (all_cons (fun h r=>⟨rfl,rfl⟩) (aB)))
  (fun a=>rfl)
  (aB)
  (fun k=>by (repeat intro _);show _=_;kernel_rfl)
noncomputable def E7 (k:Nat):bU K TyK:=sm cod (Bool) [.bo] [.g [.s, .i .i64, .l true .end, .l true .parcel, .s, .l true .record, .l true .record]] [] (fun k v1 v2 v3 v4 v5 v6 v7=>yI k (⟨v1,v2,v3,v4,v5,v6,v7⟩:aC)) k [.c (.b)] [] (fun r=>(r,())) (fun v1=>v1) true
noncomputable abbrev RL:List (Nat×Cut K TyK (Bool)):=[(5,ct cod [1,3,16,17,18] [.c (.r 0 0), .c (.m 1), .c (.l true .record), .c (.i .i64), .c (.i .i64)] [.x [.s, .i .i64, .l true .end, .l true .parcel, .s, .l true .record, .l true .record], .m .pair .lstr] gD),
  (12,ct cod [3,7,41,42,43] [.c (.m 0), .c (.m 1), .c (.l true .record), .c (.i .i64), .c (.i .i64)] [.m .pair .lstr, .m .pair .int] bS),
  (17,ct cod [3,7,10,41,42,43] [.c (.m 0), .c (.m 1), .c (.r 2 0), .c (.l true .record), .c (.i .i64), .c (.i .i64)] [.m .pair .lstr, .m .pair .int, .x [.i .i64, .i .i64, .i .i64]] bZ)]
theorem P9 (k:Nat):SummOk Tryz.prog cod 44 (E7 k):=bA codOk Tryz.f44 (fun k=>aU [(70,gU k)]) RL false [.tmp 2] 0 [] mixed Tryz.func44 (by kernel_rfl) (by kernel_rfl) (by kernel_rfl) (by kernel_rfl)
  (fun k=>Known.of tok eok codOk (all_cons (jO k) (aB)) gok)
  (fun k=>QuietOk.of (all_cons (fun h r=>⟨rfl,rfl⟩) (aB)))
  (fun a=>rfl)
  (all_cons (aI codOk (by kernel_rfl) (by (repeat intro _);show _=_;kernel_rfl) (fun k=>by (repeat intro _);show _=_;kernel_rfl)) (all_cons (aI codOk (by kernel_rfl) (by (repeat intro _);show _=_;kernel_rfl) (fun k=>by (repeat intro _);show _=_;kernel_rfl)) (all_cons (aI codOk (by kernel_rfl) (by (repeat intro _);show _=_;kernel_rfl) (fun k=>by (repeat intro _);show _=_;kernel_rfl)) (aB))))
  (fun k=>by (repeat intro _);show _=_;kernel_rfl)
noncomputable def H1 (k:Nat):bU K TyK:=sm cod (Bool) [.bo] [.g [.s, .i .i64, .l true .end, .l true .parcel, .s, .l true .record, .l true .record]] [] (fun k v1 v2 v3 v4 v5 v6 v7=>CE k (⟨v1,v2,v3,v4,v5,v6,v7⟩:aC)) k [.c (.b)] [] (fun r=>(r,())) (fun v1=>v1) true
noncomputable abbrev WM:List (Nat×Cut K TyK (Bool)):=[(4,ct cod [1,9,10,11] [.c (.r 0 0), .c (.l true .end), .c (.i .i64), .c (.i .i64)] [.x [.s, .i .i64, .l true .end, .l true .parcel, .s, .l true .record, .l true .record]] mM)]
theorem SY (k:Nat):SummOk Tryz.prog cod 45 (H1 k):=bA codOk Tryz.f45 (fun k=>aU [(70,gU k)]) WM false [.tmp 2] 0 [] mixed Tryz.func45 (by kernel_rfl) (by kernel_rfl) (by kernel_rfl) (by kernel_rfl)
  (fun k=>Known.of tok eok codOk (all_cons (jO k) (aB)) gok)
  (fun k=>QuietOk.of (all_cons (fun h r=>⟨rfl,rfl⟩) (aB)))
  (fun a=>rfl)
  (all_cons (aI codOk (by kernel_rfl) (by (repeat intro _);show _=_;kernel_rfl) (fun k=>by (repeat intro _);show _=_;kernel_rfl)) (aB))
  (fun k=>by (repeat intro _);show _=_;kernel_rfl)
noncomputable def IY (k:Nat):bU K TyK:=sm cod (aC×ByteArray) [.mv, .bo] [.g [.s, .i .i64, .o 0, .o 1, .s, .o 2, .o 3], .c (.s)] [.l .end, .l .parcel, .l .record, .l .record] (fun k v1 v2 v3 v4 v5 v6 v7 v8=>CM k (⟨v1,v2,v5,v6,v3,v7,v8⟩:aC) v4) k [.g [.s, .i .i64, .o 4, .o 5, .s, .o 6, .o 7], .c (.s)] [.d, .d, .d, .d, .l .end, .l .parcel, .l .record, .l .record] (fun r=>(r.1.Key,r.1.Width,(),(),r.1.Forged,(),(),r.2,r.1.Ends,r.1.Flight,r.1.Given,r.1.Taken,())) (fun v1 v2 v3 v4 v5 v6 v7 v8=>((⟨v1,v2,v5,v6,v3,v7,v8⟩:aC),v4)) false
noncomputable abbrev US:List (Nat×Cut K TyK (aC×ByteArray)):=[(14,ct cod [1,2,4,10,81,82,83] [.c (.s), .c (.r 4 0), .c (.r 5 0), .c (.o 6), .c (.o 6), .c (.i .i64), .c (.i .i64)] [.d, .d, .d, .d, .x [.s, .i .i64, .o 7, .o 8, .s, .o 9, .o 10], .x [.s, .i .i64, .o 11, .o 12, .s, .o 13, .o 14], .l .str, .l .end, .l .parcel, .l .record, .l .record, .l .end, .l .parcel, .l .record, .l .record] kT),
  (29,ct cod [1,2,4,10] [.c (.s), .c (.r 4 0), .c (.r 5 0), .c (.o 6)] [.d, .d, .d, .d, .x [.s, .i .i64, .o 7, .o 8, .s, .o 9, .o 10], .x [.s, .i .i64, .o 11, .o 12, .s, .o 13, .o 14], .l .str, .l .end, .l .parcel, .l .record, .l .record, .l .end, .l .parcel, .l .record, .l .record] pW),
  (31,ct cod [1,2,4,10,16,120,121,122] [.c (.s), .c (.r 4 0), .c (.r 5 0), .c (.o 6), .c (.o 7), .c (.sb 6), .c (.i .i64), .c (.i .i64)] [.d, .d, .d, .d, .x [.s, .i .i64, .o 8, .o 9, .s, .o 10, .o 11], .x [.s, .i .i64, .o 12, .o 13, .s, .o 14, .o 15], .l .str, .l .int, .l .end, .l .parcel, .l .record, .l .record, .l .end, .l .parcel, .l .record, .l .record] kO),
  (43,ct cod [1,2,4,10,16] [.c (.s), .c (.r 4 0), .c (.r 5 0), .c (.o 6), .c (.o 7)] [.d, .d, .d, .d, .x [.s, .i .i64, .o 8, .o 9, .s, .o 10, .o 11], .x [.s, .i .i64, .o 12, .o 13, .s, .o 14, .o 15], .l .str, .l .int, .l .end, .l .parcel, .l .record, .l .record, .l .end, .l .parcel, .l .record, .l .record] m8),
  (46,ct cod [2,4,16] [.c (.r 4 0), .c (.r 5 0), .c (.o 6)] [.d, .d, .d, .d, .x [.s, .i .i64, .o 7, .o 8, .s, .o 9, .o 10], .x [.s, .i .i64, .o 11, .o 12, .s, .o 13, .o 14], .l .int, .l .end, .l .parcel, .l .record, .l .record, .l .end, .l .parcel, .l .record, .l .record] m7),
  (58,ct cod [1,2,4,10,16] [.c (.s), .c (.r 4 0), .c (.r 5 0), .c (.o 6), .c (.o 7)] [.d, .d, .d, .d, .x [.s, .i .i64, .o 8, .o 9, .s, .o 10, .o 11], .x [.s, .i .i64, .o 12, .o 13, .s, .o 14, .o 15], .l .str, .l .int, .l .end, .l .parcel, .l .record, .l .record, .l .end, .l .parcel, .l .record, .l .record] nH),
  (52,ct cod [2,4,24,225,226] [.c (.r 4 0), .c (.r 5 0), .c (.o 6), .c (.i .i64), .c (.i .i64)] [.d, .d, .d, .d, .x [.s, .i .i64, .o 7, .o 8, .s, .o 9, .o 10], .x [.s, .i .i64, .o 11, .o 12, .s, .o 13, .o 14], .l .byte, .l .end, .l .parcel, .l .record, .l .record, .l .end, .l .parcel, .l .record, .l .record] iH),
  (63,ct cod [1,2,4] [.c (.s), .c (.r 4 0), .c (.r 5 0)] [.d, .d, .d, .d, .x [.s, .i .i64, .o 6, .o 7, .s, .o 8, .o 9], .x [.s, .i .i64, .o 10, .o 11, .s, .o 12, .o 13], .l .end, .l .parcel, .l .record, .l .record, .l .end, .l .parcel, .l .record, .l .record] nF),
  (56,ct cod [2,4,24,225,226] [.c (.r 4 0), .c (.r 5 0), .c (.o 6), .c (.i .i64), .c (.i .i64)] [.d, .d, .d, .d, .x [.s, .i .i64, .o 7, .o 8, .s, .o 9, .o 10], .x [.s, .i .i64, .o 11, .o 12, .s, .o 13, .o 14], .l .byte, .l .end, .l .parcel, .l .record, .l .record, .l .end, .l .parcel, .l .record, .l .record] kU),
  (68,ct cod [2,4,26] [.c (.r 4 0), .c (.r 5 0), .c (.s)] [.d, .d, .d, .d, .x [.s, .i .i64, .o 6, .o 7, .s, .o 8, .o 9], .x [.s, .i .i64, .o 10, .o 11, .s, .o 12, .o 13], .l .end, .l .parcel, .l .record, .l .record, .l .end, .l .parcel, .l .record, .l .record] nE),
  (70,ct cod [2,4,26] [.c (.r 4 0), .c (.r 5 0), .c (.s)] [.d, .d, .d, .d, .x [.s, .i .i64, .o 6, .o 7, .s, .o 8, .o 9], .x [.s, .i .i64, .o 10, .o 11, .s, .o 12, .o 13], .l .end, .l .parcel, .l .record, .l .record, .l .end, .l .parcel, .l .record, .l .record] nC),
  (72,ct cod [2,4,26] [.c (.r 4 0), .c (.r 5 0), .c (.s)] [.d, .d, .d, .d, .x [.s, .i .i64, .o 6, .o 7, .s, .o 8, .o 9], .x [.s, .i .i64, .o 10, .o 11, .s, .o 12, .o 13], .l .end, .l .parcel, .l .record, .l .record, .l .end, .l .parcel, .l .record, .l .record] m5)]
theorem RQ (k:Nat):SummOk Tryz.prog cod 13 (IY k):=bA codOk Tryz.f13 (fun k=>aU [(35,rH k),(36,vX k),(37,zP k),(38,s8 k),(39,SR k),(40,tI k),(11,rE k),(12,rJ k),(41,sZ k),(42,IT k),(43,LE k),(44,E7 k),(45,H1 k)]) US false [.cell 4 33, .tmp 5] 4 [true,true,true,true] mixed Tryz.func13 (by kernel_rfl) (by kernel_rfl) (by kernel_rfl) (by kernel_rfl)
  (fun k=>Known.of tok eok codOk (all_cons (yP k) (all_cons (DV k) (all_cons (IB k) (all_cons (wU k) (all_cons (aj_ k) (all_cons (xU k) (all_cons (vK k) (all_cons (vU k) (all_cons (wE k) (all_cons (T3 k) (all_cons (RC k) (all_cons (P9 k) (all_cons (SY k) (aB)))))))))))))) gok)
  (fun k=>QuietOk.of (all_cons (fun h r=>⟨rfl,rfl⟩) (all_cons (fun h r=>by cases h) (all_cons (fun h r=>⟨rfl,rfl⟩) (all_cons (fun h r=>by cases h) (all_cons (fun h r=>by cases h) (all_cons (fun h r=>⟨rfl,rfl⟩) (all_cons (fun h r=>by cases h) (all_cons (fun h r=>by cases h) (all_cons (fun h r=>by cases h) (all_cons (fun h r=>by cases h) (all_cons (fun h r=>⟨rfl,rfl⟩) (all_cons (fun h r=>⟨rfl,rfl⟩) (all_cons (fun h r=>⟨rfl,rfl⟩) (aB)))))))))))))))
  (fun a=>rfl)
  (all_cons (aI codOk (by kernel_rfl) (by (repeat intro _);show _=_;kernel_rfl) (fun k=>by (repeat intro _);show _=_;kernel_rfl)) (all_cons (aI codOk (by kernel_rfl) (by (repeat intro _);show _=_;kernel_rfl) (fun k=>by (repeat intro _);show _=_;kernel_rfl)) (all_cons (aI codOk (by kernel_rfl) (by (repeat intro _);show _=_;kernel_rfl) (fun k=>by (repeat intro _);show _=_;kernel_rfl)) (all_cons (aI codOk (by kernel_rfl) (by (repeat intro _);show _=_;kernel_rfl) (fun k=>by (repeat intro _);show _=_;kernel_rfl)) (all_cons (aI codOk (by kernel_rfl) (by (repeat intro _);show _=_;kernel_rfl) (fun k=>by (repeat intro _);show _=_;kernel_rfl)) (all_cons (aI codOk (by kernel_rfl) (by (repeat intro _);show _=_;kernel_rfl) (fun k=>by (repeat intro _);show _=_;kernel_rfl)) (all_cons (aI codOk (by kernel_rfl) (by (repeat intro _);show _=_;kernel_rfl) (fun k=>by (repeat intro _);show _=_;kernel_rfl)) (all_cons (aI codOk (by kernel_rfl) (by (repeat intro _);show _=_;kernel_rfl) (fun k=>by (repeat intro _);show _=_;kernel_rfl)) (all_cons (aI codOk (by kernel_rfl) (by (repeat intro _);show _=_;kernel_rfl) (fun k=>by (repeat intro _);show _=_;kernel_rfl)) (all_cons (aI codOk (by kernel_rfl) (by (repeat intro _);show _=_;kernel_rfl) (fun k=>by (repeat intro _);show _=_;kernel_rfl)) (all_cons (aI codOk (by kernel_rfl) (by (repeat intro _);show _=_;kernel_rfl) (fun k=>by (repeat intro _);show _=_;kernel_rfl)) (all_cons (aI codOk (by kernel_rfl) (by (repeat intro _);show _=_;kernel_rfl) (fun k=>by (repeat intro _);show _=_;kernel_rfl)) (aB)))))))))))))
  (fun k=>by (repeat intro _);show _=_;kernel_rfl)
noncomputable def i6 (k:Nat):bU K TyK:=sm cod (Int×Unit×cW) [.mv, .bo] [.c (.r 0 0), .c (.s)] [.x [.y 0, .o 1], .l .bbyte] (fun k v1 v2 v3=>dE k (⟨v2,v3⟩:cW) v1) k [.c (.i .i64), .c (.f)] [.x [.r 0 0, .o 2], .d, .l .bbyte] (fun r=>(r.1,(),(),(),r.2.2.buf,())) (fun v1 v2=>(v1,(),(⟨true,v2⟩:cW))) false
theorem o8 (k:Nat):SummOk Tryz.prog cod 14 (i6 k):=bA codOk Tryz.f14 (fun k=>aU [(46,a8 k)]) [] false [.tmp 4, .tmp 5] 2 [false,false] mixed Tryz.func14 (by kernel_rfl) (by kernel_rfl) (by kernel_rfl) (by kernel_rfl)
  (fun k=>Known.of hK_ hQ_ codOk (all_cons (qI k) (aB)) gok)
  (fun k=>QuietOk.of (all_cons (fun h r=>by cases h) (aB)))
  (fun a=>rfl)
  (aB)
  (fun k=>by (repeat intro _);cases ‹Bool›<;>(show _=_;kernel_rfl))
noncomputable def yT (k:Nat):bU K TyK:=sm cod (ByteArray) [.bo] [.c (.s)] [] (o6) k [.c (.s)] [] (fun r=>(r,())) (fun v1=>v1) true
noncomputable abbrev MM:List (Nat×Cut K TyK (ByteArray)):=[(4,ct cod [0,3] [.c (.s), .c (.o 0)] [.l .str] hU),
  (9,ct cod [4,5,32,33,34] [.c (.r 0 0), .c (.r 1 0), .c (.o 2), .c (.i .i64), .c (.i .i64)] [.x [.s, .i .i64, .o 3, .o 4, .s, .o 5, .o 6], .x [.y 1, .o 7], .l .str, .l .end, .l .parcel, .l .record, .l .record, .l .bbyte] gR)]
theorem KJ (k:Nat):SummOk Tryz.prog cod 6 (yT k):=bA codOk Tryz.f6 (fun k=>aU [(11,rE k),(12,rJ k),(13,IY k),(14,i6 k),(15,bE k)]) MM false [.tmp 2] 0 [] mixed Tryz.func6 (by kernel_rfl) (by kernel_rfl) (by kernel_rfl) (by kernel_rfl)
  (fun k=>Known.of tok eok codOk (all_cons (vK k) (all_cons (vU k) (all_cons (RQ k) (all_cons (o8 k) (all_cons (tJ k) (aB)))))) gok)
  (fun k=>QuietOk.of (all_cons (fun h r=>by cases h) (all_cons (fun h r=>by cases h) (all_cons (fun h r=>by cases h) (all_cons (fun h r=>by cases h) (all_cons (fun h r=>by cases h) (aB)))))))
  (fun a=>rfl)
  (all_cons (aI codOk (by kernel_rfl) (by (repeat intro _);show _=_;kernel_rfl) (fun k=>by (repeat intro _);show _=_;kernel_rfl)) (all_cons (aI codOk (by kernel_rfl) (by (repeat intro _);cases ‹Bool›<;>(show _=_;kernel_rfl)) (fun k=>by (repeat intro _);cases ‹Bool›<;>(show _=_;kernel_rfl))) (aB)))
  (fun k=>by (repeat intro _);show _=_;kernel_rfl)
noncomputable def DF (k:Nat):bU K TyK:=sm cod (bF) [.pe] [.c (.l false .byte)] [] (vF) k [.c (.r 0 0)] [.x [.l false .byte, .i .i64]] (fun r=>((),r.b,r.p,())) (fun v1 v2=>(⟨v1,v2⟩:bF)) false
noncomputable abbrev PB:List (Nat×Cut K TyK (bF)):=[(3,ct cod [0] [.c (.l false .byte)] [] lD)]
theorem MN (k:Nat):SummOk Tryz.prog cod 16 (DF k):=bA codOk Tryz.f16 (fun k=>aU []) PB false [.tmp 2] 0 [] mixed Tryz.func16 (by kernel_rfl) (by kernel_rfl) (by kernel_rfl) (by kernel_rfl)
  (fun k=>Known.of tok eok codOk (aB) gok)
  (fun k=>QuietOk.of (aB))
  (fun a=>rfl)
  (all_cons (aI codOk (by kernel_rfl) (by (repeat intro _);show _=_;kernel_rfl) (fun k=>by (repeat intro _);show _=_;kernel_rfl)) (aB))
  (fun k=>by (repeat intro _);show _=_;kernel_rfl)
noncomputable def fP (k:Nat):bU K TyK:=sm cod (Int×bF) [.mv, .bo] [.c (.r 0 0), .c (.i .i64)] [.x [.l false .byte, .i .i64]] (fun k v1 v2 v3=>aO k (⟨v2,v3⟩:bF) v1) k [.c (.i .i64)] [.x [.l false .byte, .i .i64]] (fun r=>(r.1,r.2.b,r.2.p,())) (fun v1 v2 v3=>(v1,(⟨v2,v3⟩:bF))) false
theorem gV (k:Nat):SummOk Tryz.prog cod 17 (fP k):=bA codOk Tryz.f17 (fun k=>aU []) [] false [.tmp 4] 1 [false] mixed Tryz.func17 (by kernel_rfl) (by kernel_rfl) (by kernel_rfl) (by kernel_rfl)
  (fun k=>Known.of tok eok codOk (aB) gok)
  (fun k=>QuietOk.of (aB))
  (fun a=>rfl)
  (aB)
  (fun k=>by (repeat intro _);show _=_;kernel_rfl)
noncomputable def uQ (k:Nat):bU K TyK:=sm cod (ByteArray) [.bo, .bo] [.c (.s), .c (.i .i64)] [] (mC) k [.c (.s)] [] (fun r=>(r,())) (fun v1=>v1) true
noncomputable abbrev PJ:List (Nat×Cut K TyK (ByteArray)):=[(2,ct cod [0,1,5] [.c (.s), .c (.i .i64), .c (.s)] [] gM),
  (5,ct cod [0,1,5] [.c (.s), .c (.i .i64), .c (.s)] [] k8)]
theorem zZ (k:Nat):SummOk Tryz.prog cod 21 (uQ k):=bA codOk Tryz.f21 (fun k=>aU []) PJ false [.tmp 4] 0 [] mixed Tryz.func21 (by kernel_rfl) (by kernel_rfl) (by kernel_rfl) (by kernel_rfl)
  (fun k=>Known.of tok eok codOk (aB) gok)
  (fun k=>QuietOk.of (aB))
  (fun a=>rfl)
  (all_cons (aI codOk (by kernel_rfl) (by (repeat intro _);show _=_;kernel_rfl) (fun k=>by (repeat intro _);show _=_;kernel_rfl)) (all_cons (aI codOk (by kernel_rfl) (by (repeat intro _);show _=_;kernel_rfl) (fun k=>by (repeat intro _);show _=_;kernel_rfl)) (aB)))
  (fun k=>by (repeat intro _);show _=_;kernel_rfl)
noncomputable def vR (k:Nat):bU K TyK:=sm cod (ByteArray×bF) [.bo] [.c (.r 0 0)] [.x [.l false .byte, .i .i64]] (fun k v1 v2=>oQ k (⟨v1,v2⟩:bF)) k [.c (.s)] [.x [.l false .byte, .i .i64]] (fun r=>(r.1,r.2.b,r.2.p,())) (fun v1 v2 v3=>(v1,(⟨v2,v3⟩:bF))) false
noncomputable abbrev GL:List (Nat×Cut K TyK (ByteArray×bF)):=[(12,ct cod [0,3,4] [.c (.r 0 0), .c (.s), .c (.i .i64)] [.x [.l false .byte, .i .i64]] d8)]
theorem D1 (k:Nat):SummOk Tryz.prog cod 81 (vR k):=bA codOk Tryz.f81 (fun k=>aU [(17,fP k),(21,uQ k)]) GL false [.tmp 2] 1 [false] mixed Tryz.func81 (by kernel_rfl) (by kernel_rfl) (by kernel_rfl) (by kernel_rfl)
  (fun k=>Known.of tok eok codOk (all_cons (gV k) (all_cons (zZ k) (aB))) gok)
  (fun k=>QuietOk.of (all_cons (fun h r=>by cases h) (all_cons (fun h r=>⟨rfl,rfl⟩) (aB))))
  (fun a=>rfl)
  (all_cons (aI codOk (by kernel_rfl) (by (repeat intro _);show _=_;kernel_rfl) (fun k=>by (repeat intro _);show _=_;kernel_rfl)) (aB))
  (fun k=>by (repeat intro _);show _=_;kernel_rfl)
noncomputable def yZ (k:Nat):bU K TyK:=sm cod (bI×bF) [.bo] [.c (.r 0 0)] [.x [.l false .byte, .i .i64]] (fun k v1 v2=>sR k (⟨v1,v2⟩:bF)) k [.g [.i .i64, .i .i64, .i .i64, .i .i64, .s]] [.x [.l false .byte, .i .i64]] (fun r=>(r.1.Kind,r.1.A,r.1.B,r.1.C,r.1.Text,r.2.b,r.2.p,())) (fun v1 v2 v3 v4 v5 v6 v7=>((⟨v1,v2,v3,v4,v5⟩:bI),(⟨v6,v7⟩:bF))) false
noncomputable abbrev MK:List (Nat×Cut K TyK (bI×bF)):=[(5,ct cod [0,2,3,4] [.c (.r 0 0), .c (.r 1 0), .c (.i .i64), .c (.i .i64)] [.x [.l false .byte, .i .i64], .x [.i .i64, .i .i64, .i .i64, .i .i64, .s]] j9),
  (17,ct cod [2,4] [.c (.r 1 0), .c (.i .i64)] [.x [.l false .byte, .i .i64], .x [.i .i64, .i .i64, .i .i64, .i .i64, .s]] iX),
  (18,ct cod [0,2,4,5,35] [.c (.r 0 0), .c (.r 1 0), .c (.i .i64), .c (.i .i64), .c (.i .i64)] [.x [.l false .byte, .i .i64], .x [.i .i64, .i .i64, .i .i64, .i .i64, .s]] pK),
  (20,ct cod [2,4] [.c (.r 1 0), .c (.i .i64)] [.x [.l false .byte, .i .i64], .x [.i .i64, .i .i64, .i .i64, .i .i64, .s]] iQ),
  (21,ct cod [0,2,4,5,35] [.c (.r 0 0), .c (.r 1 0), .c (.i .i64), .c (.i .i64), .c (.i .i64)] [.x [.l false .byte, .i .i64], .x [.i .i64, .i .i64, .i .i64, .i .i64, .s]] lU)]
theorem LA (k:Nat):SummOk Tryz.prog cod 47 (yZ k):=bA codOk Tryz.f47 (fun k=>aU [(17,fP k),(81,vR k)]) MK false [.cell 2 74] 1 [false] mixed Tryz.func47 (by kernel_rfl) (by kernel_rfl) (by kernel_rfl) (by kernel_rfl)
  (fun k=>Known.of tok eok codOk (all_cons (gV k) (all_cons (D1 k) (aB))) gok)
  (fun k=>QuietOk.of (all_cons (fun h r=>by cases h) (all_cons (fun h r=>by cases h) (aB))))
  (fun a=>rfl)
  (all_cons (aI codOk (by kernel_rfl) (by (repeat intro _);show _=_;kernel_rfl) (fun k=>by (repeat intro _);show _=_;kernel_rfl)) (all_cons (aI codOk (by kernel_rfl) (by (repeat intro _);show _=_;kernel_rfl) (fun k=>by (repeat intro _);show _=_;kernel_rfl)) (all_cons (aI codOk (by kernel_rfl) (by (repeat intro _);show _=_;kernel_rfl) (fun k=>by (repeat intro _);show _=_;kernel_rfl)) (all_cons (aI codOk (by kernel_rfl) (by (repeat intro _);show _=_;kernel_rfl) (fun k=>by (repeat intro _);show _=_;kernel_rfl)) (all_cons (aI codOk (by kernel_rfl) (by (repeat intro _);show _=_;kernel_rfl) (fun k=>by (repeat intro _);show _=_;kernel_rfl)) (aB))))))
  (fun k=>by (repeat intro _);show _=_;kernel_rfl)
noncomputable def zT (k:Nat):bU K TyK:=sm cod (ByteArray×bF) [.bo] [.c (.r 0 0)] [.x [.l false .byte, .i .i64]] (fun k v1 v2=>rZ k (⟨v1,v2⟩:bF)) k [.c (.s)] [.x [.l false .byte, .i .i64]] (fun r=>(r.1,r.2.b,r.2.p,())) (fun v1 v2 v3=>(v1,(⟨v2,v3⟩:bF))) false
noncomputable abbrev MP:List (Nat×Cut K TyK (ByteArray×bF)):=[(5,ct cod [] [] [.x [.l false .byte, .i .i64]] j4),
  (6,ct cod [0,3,7] [.c (.r 0 0), .c (.r 1 0), .c (.i .i64)] [.x [.l false .byte, .i .i64], .x [.i .i64, .i .i64, .i .i64, .i .i64, .s]] nA)]
theorem I5 (k:Nat):SummOk Tryz.prog cod 19 (zT k):=bA codOk Tryz.f19 (fun k=>aU [(47,yZ k),(17,fP k),(18,eQ k)]) MP false [.tmp 2] 1 [false] mixed Tryz.func19 (by kernel_rfl) (by kernel_rfl) (by kernel_rfl) (by kernel_rfl)
  (fun k=>Known.of tok eok codOk (all_cons (LA k) (all_cons (gV k) (all_cons (gF k) (aB)))) gok)
  (fun k=>QuietOk.of (all_cons (fun h r=>by cases h) (all_cons (fun h r=>by cases h) (all_cons (fun h r=>⟨rfl,rfl⟩) (aB)))))
  (fun a=>rfl)
  (all_cons (aI codOk (by kernel_rfl) (by (repeat intro _);show _=_;kernel_rfl) (fun k=>by (repeat intro _);show _=_;kernel_rfl)) (all_cons (aI codOk (by kernel_rfl) (by (repeat intro _);show _=_;kernel_rfl) (fun k=>by (repeat intro _);show _=_;kernel_rfl)) (aB)))
  (fun k=>by (repeat intro _);show _=_;kernel_rfl)
noncomputable def C7 (k:Nat):bU K TyK:=sm cod (ByteArray×bF) [.bo, .bo] [.c (.r 0 0), .c (.s)] [.x [.l false .byte, .i .i64]] (fun k v1 v2 v3=>uN k (⟨v2,v3⟩:bF) v1) k [.c (.s)] [.x [.l false .byte, .i .i64]] (fun r=>(r.1,r.2.b,r.2.p,())) (fun v1 v2 v3=>(v1,(⟨v2,v3⟩:bF))) false
noncomputable abbrev O2:List (Nat×Cut K TyK (ByteArray×bF)):=[(13,ct cod [1,5] [.c (.s), .c (.i .i64)] [.x [.l false .byte, .i .i64]] hD)]
theorem LU (k:Nat):SummOk Tryz.prog cod 20 (C7 k):=bA codOk Tryz.f20 (fun k=>aU [(17,fP k)]) O2 false [.tmp 4] 1 [false] mixed Tryz.func20 (by kernel_rfl) (by kernel_rfl) (by kernel_rfl) (by kernel_rfl)
  (fun k=>Known.of tok eok codOk (all_cons (gV k) (aB)) gok)
  (fun k=>QuietOk.of (all_cons (fun h r=>by cases h) (aB)))
  (fun a=>rfl)
  (all_cons (aI codOk (by kernel_rfl) (by (repeat intro _);show _=_;kernel_rfl) (fun k=>by (repeat intro _);show _=_;kernel_rfl)) (aB))
  (fun k=>by (repeat intro _);show _=_;kernel_rfl)
noncomputable def sD (k:Nat):bU K TyK:=sm cod (ByteArray) [.pe] [.c (.l false .byte)] [] (lW) k [.c (.s)] [] (fun r=>(r,())) (fun v1=>v1) true
noncomputable abbrev CZ:List (Nat×Cut K TyK (ByteArray)):=[(5,ct cod [3,4] [.c (.r 0 0), .c (.s)] [.x [.l false .byte, .i .i64]] eZ),
  (7,ct cod [3,4] [.c (.r 0 0), .c (.s)] [.x [.l false .byte, .i .i64]] fE),
  (8,ct cod [3,4,5] [.c (.r 0 0), .c (.s), .c (.i .i64)] [.x [.l false .byte, .i .i64]] dN)]
theorem AI (k:Nat):SummOk Tryz.prog cod 7 (sD k):=bA codOk Tryz.f7 (fun k=>aU [(16,DF k),(17,fP k),(18,eQ k),(19,zT k),(20,C7 k),(21,uQ k)]) CZ false [.tmp 2] 0 [] mixed Tryz.func7 (by kernel_rfl) (by kernel_rfl) (by kernel_rfl) (by kernel_rfl)
  (fun k=>Known.of tok eok codOk (all_cons (MN k) (all_cons (gV k) (all_cons (gF k) (all_cons (I5 k) (all_cons (LU k) (all_cons (zZ k) (aB))))))) gok)
  (fun k=>QuietOk.of (all_cons (fun h r=>by cases h) (all_cons (fun h r=>by cases h) (all_cons (fun h r=>⟨rfl,rfl⟩) (all_cons (fun h r=>by cases h) (all_cons (fun h r=>by cases h) (all_cons (fun h r=>⟨rfl,rfl⟩) (aB))))))))
  (fun a=>rfl)
  (all_cons (aI codOk (by kernel_rfl) (by (repeat intro _);show _=_;kernel_rfl) (fun k=>by (repeat intro _);show _=_;kernel_rfl)) (all_cons (aI codOk (by kernel_rfl) (by (repeat intro _);show _=_;kernel_rfl) (fun k=>by (repeat intro _);show _=_;kernel_rfl)) (all_cons (aI codOk (by kernel_rfl) (by (repeat intro _);show _=_;kernel_rfl) (fun k=>by (repeat intro _);show _=_;kernel_rfl)) (aB))))
  (fun k=>by (repeat intro _);show _=_;kernel_rfl)
noncomputable def LW (k:Nat):bU K TyK:=sm cod (Bool) [.pe] [.c (.l false .byte)] [] (rW) k [.c (.b)] [] (fun r=>(r,())) (fun v1=>v1) true
noncomputable abbrev MA:List (Nat×Cut K TyK (Bool)):=[(7,ct cod [3,4,5,6] [.c (.s), .c (.i .i64), .c (.s), .c (.i .i64)] [] gP),
  (13,ct cod [3,5] [.c (.s), .c (.s)] [] i8),
  (8,ct cod [3,4,5,6] [.c (.s), .c (.i .i64), .c (.s), .c (.i .i64)] [] jZ)]
theorem ok_laws_FnLines (k:Nat):SummOk Tryz.prog cod 4 (LW k):=bA codOk Tryz.f4 (fun k=>aU [(7,sD k),(6,yT k),(5,yY k)]) MA false [.tmp 2] 0 [] mixed Tryz.func4 (by kernel_rfl) (by kernel_rfl) (by kernel_rfl) (by kernel_rfl)
  (fun k=>Known.of tok eok codOk (all_cons (AI k) (all_cons (KJ k) (all_cons (K8 k) (aB)))) gok)
  (fun k=>QuietOk.of (all_cons (fun h r=>⟨rfl,rfl⟩) (all_cons (fun h r=>⟨rfl,rfl⟩) (all_cons (fun h r=>⟨rfl,rfl⟩) (aB)))))
  (fun a=>rfl)
  (all_cons (aI codOk (by kernel_rfl) (by (repeat intro _);show _=_;kernel_rfl) (fun k=>by (repeat intro _);show _=_;kernel_rfl)) (all_cons (aI codOk (by kernel_rfl) (by (repeat intro _);show _=_;kernel_rfl) (fun k=>by (repeat intro _);show _=_;kernel_rfl)) (all_cons (aI codOk (by kernel_rfl) (by (repeat intro _);show _=_;kernel_rfl) (fun k=>by (repeat intro _);show _=_;kernel_rfl)) (aB))))
  (fun k=>by (repeat intro _);show _=_;kernel_rfl)
end Km.X
