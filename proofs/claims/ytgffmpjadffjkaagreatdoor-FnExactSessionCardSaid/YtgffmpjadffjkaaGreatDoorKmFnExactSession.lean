/- A part of the proof of FnExactSession: each function does what its reading says. There is no condition. -/
import Derived.Test.YtgffmpjadffjkaaGreatDoorKmSeat
import Derived.Test.YtgffmpjadffjkaaGreatDoorKxDef3
set_option linter.unusedVariables false
namespace Km.X
open Go Km Go.Proofs
set_option maxRecDepth 100000
set_option maxHeartbeats 4000000
variable [Glob] [GlobFacts]
noncomputable def wW (k:Nat):bT K TyK:=sm cod (List ByteArray) [.bo, .bo] [.c (.s), .c (.i .u8)] [] (xO) k [.c (.o 0)] [.l .str] (fun r=>((),r,())) (fun v1=>v1) false
noncomputable abbrev S9:List (Nat×Cut K TyK (List ByteArray)):=[(4,ct cod [0,1,5,6,7] [.c (.s), .c (.i .u8), .c (.o 0), .c (.i .i64), .c (.i .i64)] [.l .str] kQ),
  (5,ct cod [0,1,5,6,7] [.c (.s), .c (.i .u8), .c (.o 0), .c (.i .i64), .c (.i .i64)] [.l .str] nG)]
theorem AZ (k:Nat):SummOk Tryz.prog cod 8 (wW k):=bA aF Tryz.f8 (fun k=>aW []) S9 false [.tmp 4] 0 [] mixed Tryz.func8 (by kernel_rfl) (by kernel_rfl) (by kernel_rfl) (by kernel_rfl)
  (fun k=>Known.of tok eok aF (aB) gok)
  (fun k=>QuietOk.of (aB))
  (fun a=>rfl)
  (all_cons (aO aF (by kernel_rfl) (by (repeat intro _);show _=_;kernel_rfl) (fun k=>by (repeat intro _);show _=_;kernel_rfl)) (all_cons (aO aF (by kernel_rfl) (by (repeat intro _);show _=_;kernel_rfl) (fun k=>by (repeat intro _);show _=_;kernel_rfl)) (aB)))
  (fun k=>by (repeat intro _);show _=_;kernel_rfl)
noncomputable def cM (k:Nat):bT K TyK:=sm cod (Bool) [.bo, .bo, .bo] [.c (.i .i64), .c (.i .i64), .c (.i .i64)] [] (aZ) k [.c (.b)] [] (fun r=>(r,())) (fun v1=>v1) true
theorem cF (k:Nat):SummOk Tryz.prog cod 22 (cM k):=bA aF Tryz.f22 (fun k=>aW []) [] false [.tmp 6] 0 [] mixed Tryz.func22 (by kernel_rfl) (by kernel_rfl) (by kernel_rfl) (by kernel_rfl)
  (fun k=>Known.of tok eok aF (aB) gok)
  (fun k=>QuietOk.of (aB))
  (fun a=>rfl)
  (aB)
  (fun k=>by (repeat intro _);show _=_;kernel_rfl)
noncomputable def CP (k:Nat):bT K TyK:=sm cod (aN) [.bo] [.c (.i .i64)] [] (qO) k [.g [.i .i64, .b, .i .i64, .i .i64, .i .i64, .b, .i .i64, .o 0, .i .i64, .o 1, .s, .o 2]] [.l .item, .l .held, .l .str] (fun r=>(r.Number,r.Up,r.Life,r.Peer,r.Since,r.Owes,r.Send.Base,(),r.Take.Next,(),r.Take.Open,(),r.Send.Items,r.Take.Held,r.Take.Ready,())) (fun v1 v2 v3 v4 v5 v6 v7 v8 v9 v10 v11 v12=>(⟨v1,v2,v3,v4,v5,v6,(⟨v7,v10⟩:aK),(⟨v8,v11,v9,v12⟩:aM)⟩:aN)) false
theorem KU (k:Nat):SummOk Tryz.prog cod 23 (CP k):=bA aF Tryz.f23 (fun k=>aW [(22,cM k)]) [] false [.cell 2 61] 0 [] mixed Tryz.func23 (by kernel_rfl) (by kernel_rfl) (by kernel_rfl) (by kernel_rfl)
  (fun k=>Known.of tok eok aF (all_cons (cF k) (aB)) gok)
  (fun k=>QuietOk.of (all_cons (fun h r=>⟨rfl,rfl⟩) (aB)))
  (fun a=>rfl)
  (aB)
  (fun k=>by (repeat intro _);show _=_;kernel_rfl)
noncomputable def qR (k:Nat):bT K TyK:=sm cod (aC) [.bo, .bo] [.c (.s), .c (.i .i64)] [] (mV) k [.g [.s, .i .i64, .o 0, .o 1, .s, .o 2, .o 3]] [.l .end, .l .parcel, .l .record, .l .record] (fun r=>(r.Key,r.Width,(),(),r.Forged,(),(),r.Ends,r.Flight,r.Given,r.Taken,())) (fun v1 v2 v3 v4 v5 v6 v7=>(⟨v1,v2,v4,v5,v3,v6,v7⟩:aC)) false
theorem vB (k:Nat):SummOk Tryz.prog cod 9 (qR k):=bA aF Tryz.f9 (fun k=>aW [(22,cM k),(23,CP k)]) [] false [.cell 4 33] 0 [] mixed Tryz.func9 (by kernel_rfl) (by kernel_rfl) (by kernel_rfl) (by kernel_rfl)
  (fun k=>Known.of tok eok aF (all_cons (cF k) (all_cons (KU k) (aB))) gok)
  (fun k=>QuietOk.of (all_cons (fun h r=>⟨rfl,rfl⟩) (all_cons (fun h r=>by cases h) (aB))))
  (fun a=>rfl)
  (aB)
  (fun k=>by (repeat intro _);show _=_;kernel_rfl)
noncomputable def hJ (k:Nat):bT K TyK:=sm cod (ByteArray) [.bo] [.c (.i .i64)] [] (dA) k [.c (.s)] [] (fun r=>(r,())) (fun v1=>v1) true
noncomputable def LX (k:Nat):bT K TyK:=sm cod (ByteArray) [.bo] [.c (.i .i64)] [] (fun _=>dA (k+1)) 0 [.c (.s)] [] (fun r=>(r,())) (fun v1=>v1) true
theorem AW (k:Nat) (ih:SummOk Tryz.prog cod 18 (hJ k)):SummOk Tryz.prog cod 18 (LX k):=bA aF Tryz.f18 (fun _=>aW [(18,hJ k)]) [] false [.tmp 2] 0 [] mixed Tryz.func18 (by kernel_rfl) (by kernel_rfl) (by kernel_rfl) (by kernel_rfl)
  (fun _=>Known.of tok eok aF (all_cons ih (aB)) gok)
  (fun _=>QuietOk.of (all_cons (fun h r=>⟨rfl,rfl⟩) (aB)))
  (fun a=>rfl)
  (aB)
  (fun _=>by (repeat intro _);show _=_;kernel_rfl)
theorem kA:∀k:Nat,SummOk Tryz.prog cod 18 (hJ k)
  | 0=>dP_ Tryz.f18 Tryz.func18 (by kernel_rfl) (by kernel_rfl) (by (repeat intro _);rfl)
  | k+1=>AW k (kA k)
noncomputable def nA (k:Nat):bT K TyK:=sm cod (Int) [.bo] [.c (.s)] [] (fX) k [.c (.i .i64)] [] (fun r=>(r,())) (fun v1=>v1) true
noncomputable abbrev HH:List (Nat×Cut K TyK (Int)):=[(5,ct cod [0,3,4] [.c (.s), .c (.i .i64), .c (.i .i64)] [] fS)]
theorem pA (k:Nat):SummOk Tryz.prog cod 26 (nA k):=bA aF Tryz.f26 (fun k=>aW [(18,hJ k)]) HH false [.tmp 2] 0 [] mixed Tryz.func26 (by kernel_rfl) (by kernel_rfl) (by kernel_rfl) (by kernel_rfl)
  (fun k=>Known.of tok eok aF (all_cons (kA k) (aB)) gok)
  (fun k=>QuietOk.of (all_cons (fun h r=>⟨rfl,rfl⟩) (aB)))
  (fun a=>rfl)
  (all_cons (aO aF (by kernel_rfl) (by (repeat intro _);show _=_;kernel_rfl) (fun k=>by (repeat intro _);show _=_;kernel_rfl)) (aB))
  (fun k=>by (repeat intro _);show _=_;kernel_rfl)
noncomputable def iW (k:Nat):bT K TyK:=sm cod (Bool) [.bo] [.g [.i .i64, .l true .item]] [] (fun k v1 v2=>dC k (⟨v1,v2⟩:aK)) k [.c (.b)] [] (fun r=>(r,())) (fun v1=>v1) true
noncomputable abbrev FY:List (Nat×Cut K TyK (Bool)):=[(4,ct cod [1,3] [.c (.r 0 0), .c (.i .i64)] [.x [.i .i64, .l true .item]] bN)]
theorem kN (k:Nat):SummOk Tryz.prog cod 114 (iW k):=bA aF Tryz.f114 (fun k=>aW [(22,cM k)]) FY false [.tmp 2] 0 [] mixed Tryz.func114 (by kernel_rfl) (by kernel_rfl) (by kernel_rfl) (by kernel_rfl)
  (fun k=>Known.of tok eok aF (all_cons (cF k) (aB)) gok)
  (fun k=>QuietOk.of (all_cons (fun h r=>⟨rfl,rfl⟩) (aB)))
  (fun a=>rfl)
  (all_cons (aO aF (by kernel_rfl) (by (repeat intro _);show _=_;kernel_rfl) (fun k=>by (repeat intro _);show _=_;kernel_rfl)) (aB))
  (fun k=>by (repeat intro _);show _=_;kernel_rfl)
noncomputable def uG (k:Nat):bT K TyK:=sm cod (Bool) [.bo, .bo] [.g [.i .i64, .l true .held, .s, .l true .str], .c (.i .i64)] [] (fun k v1 v2 v3 v4 v5=>rA k (⟨v1,v2,v3,v4⟩:aM) v5) k [.c (.b)] [] (fun r=>(r,())) (fun v1=>v1) true
theorem yC (k:Nat):SummOk Tryz.prog cod 153 (uG k):=bA aF Tryz.f153 (fun k=>aW [(22,cM k)]) [] false [.tmp 4] 0 [] mixed Tryz.func153 (by kernel_rfl) (by kernel_rfl) (by kernel_rfl) (by kernel_rfl)
  (fun k=>Known.of tok eok aF (all_cons (cF k) (aB)) gok)
  (fun k=>QuietOk.of (all_cons (fun h r=>⟨rfl,rfl⟩) (aB)))
  (fun a=>rfl)
  (aB)
  (fun k=>by (repeat intro _);show _=_;kernel_rfl)
noncomputable def wX (k:Nat):bT K TyK:=sm cod (Bool) [.bo, .bo] [.g [.i .i64, .l true .held, .s, .l true .str], .g [.s, .b]] [] (fun k v1 v2 v3 v4 v5 v6=>mF k (⟨v1,v2,v3,v4⟩:aM) (⟨v5,v6⟩:bV)) k [.c (.b)] [] (fun r=>(r,())) (fun v1=>v1) true
theorem A9 (k:Nat):SummOk Tryz.prog cod 154 (wX k):=bA aF Tryz.f154 (fun k=>aW []) [] false [.tmp 4] 0 [] mixed Tryz.func154 (by kernel_rfl) (by kernel_rfl) (by kernel_rfl) (by kernel_rfl)
  (fun k=>Known.of tok eok aF (aB) gok)
  (fun k=>QuietOk.of (aB))
  (fun a=>rfl)
  (aB)
  (fun k=>by (repeat intro _);show _=_;kernel_rfl)
noncomputable def iX (k:Nat):bT K TyK:=sm cod (Bool) [.bo] [.g [.i .i64, .l true .held, .s, .l true .str]] [] (fun k v1 v2 v3 v4=>gH k (⟨v1,v2,v3,v4⟩:aM)) k [.c (.b)] [] (fun r=>(r,())) (fun v1=>v1) true
noncomputable abbrev FR:List (Nat×Cut K TyK (Bool)):=[(4,ct cod [1,3] [.c (.r 0 0), .c (.i .i64)] [.x [.i .i64, .l true .held, .s, .l true .str]] eS),
  (9,ct cod [1,4] [.c (.r 0 0), .c (.i .i64)] [.x [.i .i64, .l true .held, .s, .l true .str]] bK)]
theorem kC (k:Nat):SummOk Tryz.prog cod 115 (iX k):=bA aF Tryz.f115 (fun k=>aW [(22,cM k),(153,uG k),(154,wX k)]) FR false [.tmp 2] 0 [] mixed Tryz.func115 (by kernel_rfl) (by kernel_rfl) (by kernel_rfl) (by kernel_rfl)
  (fun k=>Known.of tok eok aF (all_cons (cF k) (all_cons (yC k) (all_cons (A9 k) (aB)))) gok)
  (fun k=>QuietOk.of (all_cons (fun h r=>⟨rfl,rfl⟩) (all_cons (fun h r=>⟨rfl,rfl⟩) (all_cons (fun h r=>⟨rfl,rfl⟩) (aB)))))
  (fun a=>rfl)
  (all_cons (aO aF (by kernel_rfl) (by (repeat intro _);show _=_;kernel_rfl) (fun k=>by (repeat intro _);show _=_;kernel_rfl)) (all_cons (aO aF (by kernel_rfl) (by (repeat intro _);show _=_;kernel_rfl) (fun k=>by (repeat intro _);show _=_;kernel_rfl)) (aB)))
  (fun k=>by (repeat intro _);show _=_;kernel_rfl)
noncomputable def wR (k:Nat):bT K TyK:=sm cod (Bool) [.bo] [.g [.i .i64, .l true .item]] [] (fun k v1 v2=>pK k (⟨v1,v2⟩:aK)) k [.c (.b)] [] (fun r=>(r,())) (fun v1=>v1) true
theorem F5 (k:Nat):SummOk Tryz.prog cod 116 (wR k):=bA aF Tryz.f116 (fun k=>aW []) [] false [.tmp 2] 0 [] mixed Tryz.func116 (by kernel_rfl) (by kernel_rfl) (by kernel_rfl) (by kernel_rfl)
  (fun k=>Known.of tok eok aF (aB) gok)
  (fun k=>QuietOk.of (aB))
  (fun a=>rfl)
  (aB)
  (fun k=>by (repeat intro _);show _=_;kernel_rfl)
noncomputable def vZ (k:Nat):bT K TyK:=sm cod (Bool) [.bo] [.g [.i .i64, .l true .held, .s, .l true .str]] [] (fun k v1 v2 v3 v4=>pH k (⟨v1,v2,v3,v4⟩:aM)) k [.c (.b)] [] (fun r=>(r,())) (fun v1=>v1) true
theorem FP (k:Nat):SummOk Tryz.prog cod 117 (vZ k):=bA aF Tryz.f117 (fun k=>aW []) [] false [.tmp 2] 0 [] mixed Tryz.func117 (by kernel_rfl) (by kernel_rfl) (by kernel_rfl) (by kernel_rfl)
  (fun k=>Known.of tok eok aF (aB) gok)
  (fun k=>QuietOk.of (aB))
  (fun a=>rfl)
  (aB)
  (fun k=>by (repeat intro _);show _=_;kernel_rfl)
noncomputable def dZ (k:Nat):bT K TyK:=sm cod (Bool) [.bo] [.g [.i .i64, .b, .i .i64, .i .i64, .i .i64, .b, .i .i64, .l true .item, .i .i64, .l true .held, .s, .l true .str]] [] (fun k v1 v2 v3 v4 v5 v6 v7 v8 v9 v10 v11 v12=>dV k (⟨v1,v2,v3,v4,v5,v6,(⟨v7,v8⟩:aK),(⟨v9,v10,v11,v12⟩:aM)⟩:aN)) k [.c (.b)] [] (fun r=>(r,())) (fun v1=>v1) true
theorem eD (k:Nat):SummOk Tryz.prog cod 82 (dZ k):=bA aF Tryz.f82 (fun k=>aW [(22,cM k),(114,iW k),(115,iX k),(116,wR k),(117,vZ k)]) [] false [.tmp 2] 0 [] mixed Tryz.func82 (by kernel_rfl) (by kernel_rfl) (by kernel_rfl) (by kernel_rfl)
  (fun k=>Known.of tok eok aF (all_cons (cF k) (all_cons (kN k) (all_cons (kC k) (all_cons (F5 k) (all_cons (FP k) (aB)))))) gok)
  (fun k=>QuietOk.of (all_cons (fun h r=>⟨rfl,rfl⟩) (all_cons (fun h r=>⟨rfl,rfl⟩) (all_cons (fun h r=>⟨rfl,rfl⟩) (all_cons (fun h r=>⟨rfl,rfl⟩) (all_cons (fun h r=>⟨rfl,rfl⟩) (aB)))))))
  (fun a=>rfl)
  (aB)
  (fun k=>by (repeat intro _);show _=_;kernel_rfl)
noncomputable def MT (k:Nat):bT K TyK:=sm cod (List bV) [.bo] [.c (.s)] [] (xP) k [.c (.o 0)] [.l .part] (fun r=>((),r,())) (fun v1=>v1) false
noncomputable abbrev Y7:List (Nat×Cut K TyK (List bV)):=[(4,ct cod [0,3] [.c (.s), .c (.o 0)] [.l .part] l0)]
theorem UX (k:Nat):SummOk Tryz.prog cod 118 (MT k):=bA aF Tryz.f118 (fun k=>aW []) Y7 false [.tmp 2] 0 [] mixed Tryz.func118 (by kernel_rfl) (by kernel_rfl) (by kernel_rfl) (by kernel_rfl)
  (fun k=>Known.of tok eok aF (aB) gok)
  (fun k=>QuietOk.of (aB))
  (fun a=>rfl)
  (all_cons (aO aF (by kernel_rfl) (by (repeat intro _);show _=_;kernel_rfl) (fun k=>by (repeat intro _);show _=_;kernel_rfl)) (aB))
  (fun k=>by (repeat intro _);show _=_;kernel_rfl)
noncomputable def nM (k:Nat):bT K TyK:=sm cod (aK) [.bo] [.g [.i .i64, .l true .item]] [] (fun k v1 v2=>jS k (⟨v1,v2⟩:aK)) k [.g [.i .i64, .o 0]] [.l .item] (fun r=>(r.Base,(),r.Items,())) (fun v1 v2=>(⟨v1,v2⟩:aK)) false
theorem oI (k:Nat):SummOk Tryz.prog cod 119 (nM k):=bA aF Tryz.f119 (fun k=>aW []) [] false [.cell 2 56] 0 [] mixed Tryz.func119 (by kernel_rfl) (by kernel_rfl) (by kernel_rfl) (by kernel_rfl)
  (fun k=>Known.of tok eok aF (aB) gok)
  (fun k=>QuietOk.of (aB))
  (fun a=>rfl)
  (aB)
  (fun k=>by (repeat intro _);show _=_;kernel_rfl)
noncomputable def wE (k:Nat):bT K TyK:=sm cod (aK×Int) [.bo, .bo] [.g [.i .i64, .l true .item], .c (.s)] [] (fun k v1 v2 v3=>iH k (⟨v1,v2⟩:aK) v3) k [.g [.i .i64, .o 0], .c (.i .i64)] [.l .item] (fun r=>(r.1.Base,(),r.2,r.1.Items,())) (fun v1 v2 v3=>((⟨v1,v3⟩:aK),v2)) false
noncomputable abbrev JV:List (Nat×Cut K TyK (aK×Int)):=[(9,ct cod [4,6,8,9] [.c (.r 0 0), .c (.o 1), .c (.r 2 0), .c (.i .i64)] [.x [.i .i64, .o 3], .l .part, .x [.i .i64, .o 4], .l .item, .l .item] fT)]
theorem F8 (k:Nat):SummOk Tryz.prog cod 83 (wE k):=bA aF Tryz.f83 (fun k=>aW [(114,iW k),(118,MT k),(119,nM k)]) JV false [.cell 4 56, .tmp 5] 0 [] mixed Tryz.func83 (by kernel_rfl) (by kernel_rfl) (by kernel_rfl) (by kernel_rfl)
  (fun k=>Known.of tok eok aF (all_cons (kN k) (all_cons (UX k) (all_cons (oI k) (aB)))) gok)
  (fun k=>QuietOk.of (all_cons (fun h r=>⟨rfl,rfl⟩) (all_cons (fun h r=>by cases h) (all_cons (fun h r=>by cases h) (aB)))))
  (fun a=>rfl)
  (all_cons (aO aF (by kernel_rfl) (by (repeat intro _);show _=_;kernel_rfl) (fun k=>by (repeat intro _);show _=_;kernel_rfl)) (aB))
  (fun k=>by (repeat intro _);show _=_;kernel_rfl)
noncomputable def pR (k:Nat):bT K TyK:=sm cod (aM) [.bo] [.g [.i .i64, .l true .held, .s, .l true .str]] [] (fun k v1 v2 v3 v4=>oG k (⟨v1,v2,v3,v4⟩:aM)) k [.g [.i .i64, .o 0, .s, .o 1]] [.l .held, .l .str] (fun r=>(r.Next,(),r.Open,(),r.Held,r.Ready,())) (fun v1 v2 v3 v4=>(⟨v1,v3,v2,v4⟩:aM)) false
theorem sY (k:Nat):SummOk Tryz.prog cod 120 (pR k):=bA aF Tryz.f120 (fun k=>aW []) [] false [.cell 2 59] 0 [] mixed Tryz.func120 (by kernel_rfl) (by kernel_rfl) (by kernel_rfl) (by kernel_rfl)
  (fun k=>Known.of tok eok aF (aB) gok)
  (fun k=>QuietOk.of (aB))
  (fun a=>rfl)
  (aB)
  (fun k=>by (repeat intro _);show _=_;kernel_rfl)
noncomputable def iA (k:Nat):bT K TyK:=sm cod (aN) [.bo] [.g [.i .i64, .b, .i .i64, .i .i64, .i .i64, .b, .i .i64, .l true .item, .i .i64, .l true .held, .s, .l true .str]] [] (fun k v1 v2 v3 v4 v5 v6 v7 v8 v9 v10 v11 v12=>gG k (⟨v1,v2,v3,v4,v5,v6,(⟨v7,v8⟩:aK),(⟨v9,v10,v11,v12⟩:aM)⟩:aN)) k [.g [.i .i64, .b, .i .i64, .i .i64, .i .i64, .b, .i .i64, .o 0, .i .i64, .o 1, .s, .o 2]] [.l .item, .l .held, .l .str] (fun r=>(r.Number,r.Up,r.Life,r.Peer,r.Since,r.Owes,r.Send.Base,(),r.Take.Next,(),r.Take.Open,(),r.Send.Items,r.Take.Held,r.Take.Ready,())) (fun v1 v2 v3 v4 v5 v6 v7 v8 v9 v10 v11 v12=>(⟨v1,v2,v3,v4,v5,v6,(⟨v7,v10⟩:aK),(⟨v8,v11,v9,v12⟩:aM)⟩:aN)) false
theorem jB (k:Nat):SummOk Tryz.prog cod 84 (iA k):=bA aF Tryz.f84 (fun k=>aW [(119,nM k),(120,pR k)]) [] false [.cell 2 61] 0 [] mixed Tryz.func84 (by kernel_rfl) (by kernel_rfl) (by kernel_rfl) (by kernel_rfl)
  (fun k=>Known.of tok eok aF (all_cons (oI k) (all_cons (sY k) (aB))) gok)
  (fun k=>QuietOk.of (all_cons (fun h r=>by cases h) (all_cons (fun h r=>by cases h) (aB))))
  (fun a=>rfl)
  (aB)
  (fun k=>by (repeat intro _);show _=_;kernel_rfl)
noncomputable def sP (k:Nat):bT K TyK:=sm cod (aV) [.bo, .bo] [.g [.i .i64, .b, .i .i64, .i .i64, .i .i64, .b, .i .i64, .l true .item, .i .i64, .l true .held, .s, .l true .str], .c (.s)] [] (fun k v1 v2 v3 v4 v5 v6 v7 v8 v9 v10 v11 v12 v13=>j0 k (⟨v1,v2,v3,v4,v5,v6,(⟨v7,v8⟩:aK),(⟨v9,v10,v11,v12⟩:aM)⟩:aN) v13) k [.g [.i .i64, .i .i64, .b, .i .i64, .i .i64, .i .i64, .b, .i .i64, .o 0, .i .i64, .o 1, .s, .o 2, .o 3, .s]] [.l .item, .l .held, .l .str, .l .packet] (fun r=>(r.Code,r.End.Number,r.End.Up,r.End.Life,r.End.Peer,r.End.Since,r.End.Owes,r.End.Send.Base,(),r.End.Take.Next,(),r.End.Take.Open,(),(),r.Text,r.End.Send.Items,r.End.Take.Held,r.End.Take.Ready,r.Out,())) (fun v1 v2 v3 v4 v5 v6 v7 v8 v9 v10 v11 v12 v13 v14 v15=>(⟨v1,(⟨v2,v3,v4,v5,v6,v7,(⟨v8,v12⟩:aK),(⟨v9,v13,v10,v14⟩:aM)⟩:aN),v15,v11⟩:aV)) false
theorem wM (k:Nat):SummOk Tryz.prog cod 48 (sP k):=bA aF Tryz.f48 (fun k=>aW [(82,dZ k),(83,wE k),(84,iA k)]) [] false [.cell 4 82] 0 [] mixed Tryz.func48 (by kernel_rfl) (by kernel_rfl) (by kernel_rfl) (by kernel_rfl)
  (fun k=>Known.of tok eok aF (all_cons (eD k) (all_cons (F8 k) (all_cons (jB k) (aB)))) gok)
  (fun k=>QuietOk.of (all_cons (fun h r=>⟨rfl,rfl⟩) (all_cons (fun h r=>by cases h) (all_cons (fun h r=>by cases h) (aB)))))
  (fun a=>rfl)
  (aB)
  (fun k=>by (repeat intro _);show _=_;kernel_rfl)
noncomputable def sA (k:Nat):bT K TyK:=sm cod (Bool) [.bo] [.c (.l true .record)] [] (lP) k [.c (.b)] [] (fun r=>(r,())) (fun v1=>v1) true
noncomputable abbrev B3:List (Nat×Cut K TyK (Bool)):=[(2,ct cod [0,3] [.c (.l true .record), .c (.i .i64)] [] dQ)]
theorem zT (k:Nat):SummOk Tryz.prog cod 86 (sA k):=bA aF Tryz.f86 (fun k=>aW [(22,cM k)]) B3 false [.tmp 2] 0 [] mixed Tryz.func86 (by kernel_rfl) (by kernel_rfl) (by kernel_rfl) (by kernel_rfl)
  (fun k=>Known.of tok eok aF (all_cons (cF k) (aB)) gok)
  (fun k=>QuietOk.of (all_cons (fun h r=>⟨rfl,rfl⟩) (aB)))
  (fun a=>rfl)
  (all_cons (aO aF (by kernel_rfl) (by (repeat intro _);show _=_;kernel_rfl) (fun k=>by (repeat intro _);show _=_;kernel_rfl)) (aB))
  (fun k=>by (repeat intro _);show _=_;kernel_rfl)
noncomputable def gO (k:Nat):bT K TyK:=sm cod (Bool) [.bo] [.g [.s, .i .i64, .l true .end, .l true .parcel, .s, .l true .record, .l true .record]] [] (fun k v1 v2 v3 v4 v5 v6 v7=>eW k (⟨v1,v2,v3,v4,v5,v6,v7⟩:aC)) k [.c (.b)] [] (fun r=>(r,())) (fun v1=>v1) true
noncomputable abbrev C2:List (Nat×Cut K TyK (Bool)):=[(4,ct cod [1,3] [.c (.r 0 0), .c (.i .i64)] [.x [.s, .i .i64, .l true .end, .l true .parcel, .s, .l true .record, .l true .record]] d8),
  (9,ct cod [1,4] [.c (.r 0 0), .c (.i .i64)] [.x [.s, .i .i64, .l true .end, .l true .parcel, .s, .l true .record, .l true .record]] d6)]
theorem jI (k:Nat):SummOk Tryz.prog cod 54 (gO k):=bA aF Tryz.f54 (fun k=>aW [(22,cM k),(82,dZ k),(86,sA k)]) C2 false [.tmp 2] 0 [] mixed Tryz.func54 (by kernel_rfl) (by kernel_rfl) (by kernel_rfl) (by kernel_rfl)
  (fun k=>Known.of tok eok aF (all_cons (cF k) (all_cons (eD k) (all_cons (zT k) (aB)))) gok)
  (fun k=>QuietOk.of (all_cons (fun h r=>⟨rfl,rfl⟩) (all_cons (fun h r=>⟨rfl,rfl⟩) (all_cons (fun h r=>⟨rfl,rfl⟩) (aB)))))
  (fun a=>rfl)
  (all_cons (aO aF (by kernel_rfl) (by (repeat intro _);show _=_;kernel_rfl) (fun k=>by (repeat intro _);show _=_;kernel_rfl)) (all_cons (aO aF (by kernel_rfl) (by (repeat intro _);show _=_;kernel_rfl) (fun k=>by (repeat intro _);show _=_;kernel_rfl)) (aB)))
  (fun k=>by (repeat intro _);show _=_;kernel_rfl)
noncomputable def uL (k:Nat):bT K TyK:=sm cod (aC) [.bo] [.g [.s, .i .i64, .l true .end, .l true .parcel, .s, .l true .record, .l true .record]] [] (fun k v1 v2 v3 v4 v5 v6 v7=>iC k (⟨v1,v2,v3,v4,v5,v6,v7⟩:aC)) k [.g [.s, .i .i64, .o 0, .o 1, .s, .o 2, .o 3]] [.l .end, .l .parcel, .l .record, .l .record] (fun r=>(r.Key,r.Width,(),(),r.Forged,(),(),r.Ends,r.Flight,r.Given,r.Taken,())) (fun v1 v2 v3 v4 v5 v6 v7=>(⟨v1,v2,v4,v5,v3,v6,v7⟩:aC)) false
noncomputable abbrev NZ:List (Nat×Cut K TyK (aC)):=[(4,ct cod [1,2,3,4] [.c (.r 0 0), .c (.r 1 0), .c (.r 2 0), .c (.i .i64)] [.x [.s, .i .i64, .l true .end, .l true .parcel, .s, .l true .record, .l true .record], .x [.s, .i .i64, .o 3, .o 4, .s, .o 5, .o 6], .x [.s, .i .i64, .o 7, .l true .parcel, .s, .l true .record, .l true .record], .l .end, .l .parcel, .l .record, .l .record, .l .end] jC)]
theorem zC (k:Nat):SummOk Tryz.prog cod 55 (uL k):=bA aF Tryz.f55 (fun k=>aW [(84,iA k)]) NZ false [.cell 2 33] 0 [] mixed Tryz.func55 (by kernel_rfl) (by kernel_rfl) (by kernel_rfl) (by kernel_rfl)
  (fun k=>Known.of tok eok aF (all_cons (jB k) (aB)) gok)
  (fun k=>QuietOk.of (all_cons (fun h r=>by cases h) (aB)))
  (fun a=>rfl)
  (all_cons (aO aF (by kernel_rfl) (by (repeat intro _);show _=_;kernel_rfl) (fun k=>by (repeat intro _);show _=_;kernel_rfl)) (aB))
  (fun k=>by (repeat intro _);show _=_;kernel_rfl)
noncomputable def wO (k:Nat):bT K TyK:=sm cod (aK×List Int) [.bo] [.g [.i .i64, .l true .item]] [] (fun k v1 v2=>nL k (⟨v1,v2⟩:aK)) k [.g [.i .i64, .o 0], .c (.o 1)] [.l .item, .l .int] (fun r=>(r.1.Base,(),(),r.1.Items,r.2,())) (fun v1 v2 v3=>((⟨v1,v2⟩:aK),v3)) false
noncomputable abbrev HA:List (Nat×Cut K TyK (aK×List Int)):=[(6,ct cod [1,2,4,5,6] [.c (.r 0 0), .c (.r 1 0), .c (.o 2), .c (.r 3 0), .c (.i .i64)] [.x [.i .i64, .l true .item], .x [.i .i64, .o 4], .l .int, .x [.i .i64, .o 5], .l .item, .l .item] fR),
  (7,ct cod [1,2,4,5,6] [.c (.r 0 0), .c (.r 1 0), .c (.o 2), .c (.r 3 0), .c (.i .i64)] [.x [.i .i64, .l true .item], .x [.i .i64, .o 4], .l .int, .x [.i .i64, .o 5], .l .item, .l .item] eK)]
theorem FC (k:Nat):SummOk Tryz.prog cod 122 (wO k):=bA aF Tryz.f122 (fun k=>aW [(114,iW k),(119,nM k)]) HA false [.cell 2 56, .tmp 3] 0 [] mixed Tryz.func122 (by kernel_rfl) (by kernel_rfl) (by kernel_rfl) (by kernel_rfl)
  (fun k=>Known.of tok eok aF (all_cons (kN k) (all_cons (oI k) (aB))) gok)
  (fun k=>QuietOk.of (all_cons (fun h r=>⟨rfl,rfl⟩) (all_cons (fun h r=>by cases h) (aB))))
  (fun a=>rfl)
  (all_cons (aO aF (by kernel_rfl) (by (repeat intro _);show _=_;kernel_rfl) (fun k=>by (repeat intro _);show _=_;kernel_rfl)) (all_cons (aO aF (by kernel_rfl) (by (repeat intro _);show _=_;kernel_rfl) (fun k=>by (repeat intro _);show _=_;kernel_rfl)) (aB)))
  (fun k=>by (repeat intro _);show _=_;kernel_rfl)
noncomputable def wL (k:Nat):bT K TyK:=sm cod (Int×Int) [.bo] [.g [.i .i64, .l true .held, .s, .l true .str]] [] (fun k v1 v2 v3 v4=>kP k (⟨v1,v2,v3,v4⟩:aM)) k [.c (.i .i64), .c (.i .i64)] [] (fun r=>(r.1,r.2,())) (fun v1 v2=>(v1,v2)) true
noncomputable abbrev G1:List (Nat×Cut K TyK (Int×Int)):=[(5,ct cod [1,4,5] [.c (.r 0 0), .c (.i .i64), .c (.i .i64)] [.x [.i .i64, .l true .held, .s, .l true .str]] eF),
  (9,ct cod [1,4,5,6,7] [.c (.r 0 0), .c (.i .i64), .c (.i .i64), .c (.i .i64), .c (.i .i64)] [.x [.i .i64, .l true .held, .s, .l true .str]] fL)]
theorem FA (k:Nat):SummOk Tryz.prog cod 123 (wL k):=bA aF Tryz.f123 (fun k=>aW [(115,iX k)]) G1 false [.tmp 2, .tmp 3] 0 [] mixed Tryz.func123 (by kernel_rfl) (by kernel_rfl) (by kernel_rfl) (by kernel_rfl)
  (fun k=>Known.of tok eok aF (all_cons (kC k) (aB)) gok)
  (fun k=>QuietOk.of (all_cons (fun h r=>⟨rfl,rfl⟩) (aB)))
  (fun a=>rfl)
  (all_cons (aO aF (by kernel_rfl) (by (repeat intro _);show _=_;kernel_rfl) (fun k=>by (repeat intro _);show _=_;kernel_rfl)) (all_cons (aO aF (by kernel_rfl) (by (repeat intro _);show _=_;kernel_rfl) (fun k=>by (repeat intro _);show _=_;kernel_rfl)) (aB)))
  (fun k=>by (repeat intro _);show _=_;kernel_rfl)
noncomputable def yH (k:Nat):bT K TyK:=sm cod (aV) [.bo] [.g [.i .i64, .b, .i .i64, .i .i64, .i .i64, .b, .i .i64, .l true .item, .i .i64, .l true .held, .s, .l true .str]] [] (fun k v1 v2 v3 v4 v5 v6 v7 v8 v9 v10 v11 v12=>rZ k (⟨v1,v2,v3,v4,v5,v6,(⟨v7,v8⟩:aK),(⟨v9,v10,v11,v12⟩:aM)⟩:aN)) k [.g [.i .i64, .i .i64, .b, .i .i64, .i .i64, .i .i64, .b, .i .i64, .o 0, .i .i64, .o 1, .s, .o 2, .o 3, .s]] [.l .item, .l .held, .l .str, .l .packet] (fun r=>(r.Code,r.End.Number,r.End.Up,r.End.Life,r.End.Peer,r.End.Since,r.End.Owes,r.End.Send.Base,(),r.End.Take.Next,(),r.End.Take.Open,(),(),r.Text,r.End.Send.Items,r.End.Take.Held,r.End.Take.Ready,r.Out,())) (fun v1 v2 v3 v4 v5 v6 v7 v8 v9 v10 v11 v12 v13 v14 v15=>(⟨v1,(⟨v2,v3,v4,v5,v6,v7,(⟨v8,v12⟩:aK),(⟨v9,v13,v10,v14⟩:aM)⟩:aN),v15,v11⟩:aV)) false
noncomputable abbrev LK:List (Nat×Cut K TyK (aV)):=[(9,ct cod [2,3,4] [.c (.r 0 0), .c (.r 1 0), .c (.o 2)] [.x [.i .i64, .i .i64, .b, .i .i64, .i .i64, .i .i64, .b, .i .i64, .o 3, .i .i64, .o 4, .s, .o 5, .o 6, .s], .x [.i .i64, .b, .i .i64, .i .i64, .i .i64, .b, .i .i64, .o 7, .i .i64, .o 8, .s, .o 9], .l .packet, .l .item, .l .held, .l .str, .l .packet, .l .item, .l .held, .l .str] jW),
  (13,ct cod [2,3,4,5,6,7] [.c (.r 0 0), .c (.r 1 0), .c (.o 2), .c (.r 3 0), .c (.o 4), .c (.i .i64)] [.x [.i .i64, .i .i64, .b, .i .i64, .i .i64, .i .i64, .b, .i .i64, .o 5, .i .i64, .o 6, .s, .o 7, .o 8, .s], .x [.i .i64, .b, .i .i64, .i .i64, .i .i64, .b, .i .i64, .o 9, .i .i64, .o 10, .s, .o 11], .l .packet, .x [.i .i64, .o 9], .l .int, .l .item, .l .held, .l .str, .l .packet, .l .item, .l .held, .l .str] fP),
  (17,ct cod [2,3,4] [.c (.r 0 0), .c (.r 1 0), .c (.o 2)] [.x [.i .i64, .i .i64, .b, .i .i64, .i .i64, .i .i64, .b, .i .i64, .o 3, .i .i64, .o 4, .s, .o 5, .o 6, .s], .x [.i .i64, .b, .i .i64, .i .i64, .i .i64, .b, .i .i64, .o 7, .i .i64, .o 8, .s, .o 9], .l .packet, .l .item, .l .held, .l .str, .l .packet, .l .item, .l .held, .l .str] iV),
  (22,ct cod [2,3,4] [.c (.r 0 0), .c (.r 1 0), .c (.o 2)] [.x [.i .i64, .i .i64, .b, .i .i64, .i .i64, .i .i64, .b, .i .i64, .o 3, .i .i64, .o 4, .s, .o 5, .o 6, .s], .x [.i .i64, .b, .i .i64, .i .i64, .i .i64, .b, .i .i64, .o 7, .i .i64, .o 8, .s, .o 9], .l .packet, .l .item, .l .held, .l .str, .l .packet, .l .item, .l .held, .l .str] eC)]
theorem KL (k:Nat):SummOk Tryz.prog cod 87 (yH k):=bA aF Tryz.f87 (fun k=>aW [(82,dZ k),(84,iA k),(122,wO k),(123,wL k)]) LK false [.cell 2 82] 0 [] mixed Tryz.func87 (by kernel_rfl) (by kernel_rfl) (by kernel_rfl) (by kernel_rfl)
  (fun k=>Known.of tok eok aF (all_cons (eD k) (all_cons (jB k) (all_cons (FC k) (all_cons (FA k) (aB))))) gok)
  (fun k=>QuietOk.of (all_cons (fun h r=>⟨rfl,rfl⟩) (all_cons (fun h r=>by cases h) (all_cons (fun h r=>by cases h) (all_cons (fun h r=>⟨rfl,rfl⟩) (aB))))))
  (fun a=>rfl)
  (all_cons (aO aF (by kernel_rfl) (by (repeat intro _);show _=_;kernel_rfl) (fun k=>by (repeat intro _);show _=_;kernel_rfl)) (all_cons (aO aF (by kernel_rfl) (by (repeat intro _);show _=_;kernel_rfl) (fun k=>by (repeat intro _);show _=_;kernel_rfl)) (all_cons (aO aF (by kernel_rfl) (by (repeat intro _);show _=_;kernel_rfl) (fun k=>by (repeat intro _);show _=_;kernel_rfl)) (all_cons (aO aF (by kernel_rfl) (by (repeat intro _);show _=_;kernel_rfl) (fun k=>by (repeat intro _);show _=_;kernel_rfl)) (aB)))))
  (fun k=>by (repeat intro _);show _=_;kernel_rfl)
noncomputable def zO (k:Nat):bT K TyK:=sm cod (Bool) [.bo] [.g [.i .i64, .i .i64, .i .i64, .i .i64, .i .i64, .i .i64, .i .i64, .b, .s]] [] (fun k v1 v2 v3 v4 v5 v6 v7 v8 v9=>oV k (⟨v1,v2,v3,v4,v5,v6,v7,v8,v9⟩:aE)) k [.c (.b)] [] (fun r=>(r,())) (fun v1=>v1) true
theorem E0 (k:Nat):SummOk Tryz.prog cod 124 (zO k):=bA aF Tryz.f124 (fun k=>aW [(22,cM k)]) [] false [.tmp 2] 0 [] mixed Tryz.func124 (by kernel_rfl) (by kernel_rfl) (by kernel_rfl) (by kernel_rfl)
  (fun k=>Known.of tok eok aF (all_cons (cF k) (aB)) gok)
  (fun k=>QuietOk.of (all_cons (fun h r=>⟨rfl,rfl⟩) (aB)))
  (fun a=>rfl)
  (aB)
  (fun k=>by (repeat intro _);show _=_;kernel_rfl)
noncomputable def wP (k:Nat):bT K TyK:=sm cod (ByteArray) [.bo, .bo] [.c (.i .i64), .c (.i .i64)] [] (dT) k [.c (.s)] [] (fun r=>(r,())) (fun v1=>v1) true
noncomputable abbrev HU:List (Nat×Cut K TyK (ByteArray)):=[(3,ct cod [0,1,5,6] [.c (.i .i64), .c (.i .i64), .c (.s), .c (.i .i64)] [] fQ)]
theorem GA (k:Nat):SummOk Tryz.prog cod 155 (wP k):=bA aF Tryz.f155 (fun k=>aW []) HU false [.tmp 4] 0 [] mixed Tryz.func155 (by kernel_rfl) (by kernel_rfl) (by kernel_rfl) (by kernel_rfl)
  (fun k=>Known.of tok eok aF (aB) gok)
  (fun k=>QuietOk.of (aB))
  (fun a=>rfl)
  (all_cons (aO aF (by kernel_rfl) (by (repeat intro _);show _=_;kernel_rfl) (fun k=>by (repeat intro _);show _=_;kernel_rfl)) (aB))
  (fun k=>by (repeat intro _);show _=_;kernel_rfl)
noncomputable def AT (k:Nat):bT K TyK:=sm cod (ByteArray) [.bo] [.g [.i .i64, .i .i64, .i .i64, .i .i64, .i .i64, .i .i64, .i .i64, .b, .s]] [] (fun k v1 v2 v3 v4 v5 v6 v7 v8 v9=>qT k (⟨v1,v2,v3,v4,v5,v6,v7,v8,v9⟩:aE)) k [.c (.s)] [] (fun r=>(r,())) (fun v1=>v1) true
noncomputable abbrev NU:List (Nat×Cut K TyK (ByteArray)):=[(7,ct cod [1,3,4] [.c (.r 0 0), .c (.s), .c (.i .i64)] [.x [.i .i64, .i .i64, .i .i64, .i .i64, .i .i64, .i .i64, .i .i64, .b, .s]] k8)]
theorem KW (k:Nat):SummOk Tryz.prog cod 126 (AT k):=bA aF Tryz.f126 (fun k=>aW [(155,wP k)]) NU false [.tmp 2] 0 [] mixed Tryz.func126 (by kernel_rfl) (by kernel_rfl) (by kernel_rfl) (by kernel_rfl)
  (fun k=>Known.of tok eok aF (all_cons (GA k) (aB)) gok)
  (fun k=>QuietOk.of (all_cons (fun h r=>⟨rfl,rfl⟩) (aB)))
  (fun a=>rfl)
  (all_cons (aO aF (by kernel_rfl) (by (repeat intro _);show _=_;kernel_rfl) (fun k=>by (repeat intro _);show _=_;kernel_rfl)) (aB))
  (fun k=>by (repeat intro _);show _=_;kernel_rfl)
noncomputable def MN (k:Nat):bT K TyK:=sm cod (ByteArray) [.bo, .bo, .bo] [.c (.s), .c (.s), .c (.i .i64)] [] (GL) k [.c (.s)] [] (fun r=>(r,())) (fun v1=>v1) true
noncomputable abbrev YZ:List (Nat×Cut K TyK (ByteArray)):=[(6,ct cod [2,7,8,9] [.c (.i .i64), .c (.s), .c (.i .u64), .c (.i .i64)] [] oH),
  (11,ct cod [2,8,10,11] [.c (.i .i64), .c (.i .u64), .c (.s), .c (.i .i64)] [] mK)]
theorem UM (k:Nat):SummOk Tryz.prog cod 125 (MN k):=bA aF Tryz.f125 (fun k=>aW [(22,cM k)]) YZ false [.tmp 6] 0 [] mixed Tryz.func125 (by kernel_rfl) (by kernel_rfl) (by kernel_rfl) (by kernel_rfl)
  (fun k=>Known.of tok eok aF (all_cons (cF k) (aB)) gok)
  (fun k=>QuietOk.of (all_cons (fun h r=>⟨rfl,rfl⟩) (aB)))
  (fun a=>rfl)
  (all_cons (aO aF (by kernel_rfl) (by (repeat intro _);show _=_;kernel_rfl) (fun k=>by (repeat intro _);show _=_;kernel_rfl)) (all_cons (aO aF (by kernel_rfl) (by (repeat intro _);show _=_;kernel_rfl) (fun k=>by (repeat intro _);show _=_;kernel_rfl)) (aB)))
  (fun k=>by (repeat intro _);show _=_;kernel_rfl)
noncomputable def nX (k:Nat):bT K TyK:=sm cod (ByteArray) [.bo, .bo, .bo] [.g [.i .i64, .i .i64, .i .i64, .i .i64, .i .i64, .i .i64, .i .i64, .b, .s], .c (.s), .c (.i .i64)] [] (fun k v1 v2 v3 v4 v5 v6 v7 v8 v9 v10 v11=>gW k (⟨v1,v2,v3,v4,v5,v6,v7,v8,v9⟩:aE) v10 v11) k [.c (.s)] [] (fun r=>(r,())) (fun v1=>v1) true
theorem rL (k:Nat):SummOk Tryz.prog cod 88 (nX k):=bA aF Tryz.f88 (fun k=>aW [(124,zO k),(22,cM k),(126,AT k),(125,MN k)]) [] false [.tmp 6] 0 [] mixed Tryz.func88 (by kernel_rfl) (by kernel_rfl) (by kernel_rfl) (by kernel_rfl)
  (fun k=>Known.of tok eok aF (all_cons (E0 k) (all_cons (cF k) (all_cons (KW k) (all_cons (UM k) (aB))))) gok)
  (fun k=>QuietOk.of (all_cons (fun h r=>⟨rfl,rfl⟩) (all_cons (fun h r=>⟨rfl,rfl⟩) (all_cons (fun h r=>⟨rfl,rfl⟩) (all_cons (fun h r=>⟨rfl,rfl⟩) (aB))))))
  (fun a=>rfl)
  (aB)
  (fun k=>by (repeat intro _);show _=_;kernel_rfl)
noncomputable def tU (k:Nat):bT K TyK:=sm cod (aC) [.mv] [.g [.s, .i .i64, .o 0, .o 1, .s, .o 2, .o 3]] [.l .end, .l .parcel, .l .record, .l .record] (fun k v1 v2 v3 v4 v5 v6 v7=>qH k (⟨v1,v2,v4,v5,v3,v6,v7⟩:aC)) k [.g [.s, .i .i64, .o 4, .o 5, .s, .o 6, .o 7]] [.d, .d, .d, .d, .l .end, .l .parcel, .l .record, .l .record] (fun r=>(r.Key,r.Width,(),(),r.Forged,(),(),r.Ends,r.Flight,r.Given,r.Taken,())) (fun v1 v2 v3 v4 v5 v6 v7=>(⟨v1,v2,v4,v5,v3,v6,v7⟩:aC)) false
noncomputable abbrev OI:List (Nat×Cut K TyK (aC)):=[(2,ct cod [1,2,3] [.c (.r 4 0), .c (.r 5 0), .c (.i .i64)] [.d, .d, .d, .d, .x [.s, .i .i64, .o 6, .o 7, .s, .o 8, .o 9], .x [.s, .i .i64, .o 10, .o 11, .s, .o 12, .o 13], .l .end, .l .parcel, .l .record, .l .record, .l .end, .l .parcel, .l .record, .l .record] dW),
  (7,ct cod [1,2,3,4,5] [.c (.r 4 0), .c (.r 5 0), .c (.i .i64), .c (.r 6 0), .c (.i .i64)] [.d, .d, .d, .d, .x [.s, .i .i64, .o 7, .o 8, .s, .o 9, .o 10], .x [.s, .i .i64, .o 11, .o 12, .s, .o 13, .o 14], .x [.i .i64, .i .i64, .b, .i .i64, .i .i64, .i .i64, .b, .i .i64, .o 15, .i .i64, .o 16, .s, .o 17, .o 18, .s], .l .end, .l .parcel, .l .record, .l .record, .l .end, .l .parcel, .l .record, .l .record, .d, .d, .d, .l .packet] jD)]
theorem yI (k:Nat):SummOk Tryz.prog cod 56 (tU k):=bA aF Tryz.f56 (fun k=>aW [(87,yH k),(88,nX k)]) OI false [.cell 2 33] 4 [true,true,true,true] mixed Tryz.func56 (by kernel_rfl) (by kernel_rfl) (by kernel_rfl) (by kernel_rfl)
  (fun k=>Known.of tok eok aF (all_cons (KL k) (all_cons (rL k) (aB))) gok)
  (fun k=>QuietOk.of (all_cons (fun h r=>by cases h) (all_cons (fun h r=>⟨rfl,rfl⟩) (aB))))
  (fun a=>rfl)
  (all_cons (aO aF (by kernel_rfl) (by (repeat intro _);show _=_;kernel_rfl) (fun k=>by (repeat intro _);show _=_;kernel_rfl)) (all_cons (aO aF (by kernel_rfl) (by (repeat intro _);show _=_;kernel_rfl) (fun k=>by (repeat intro _);show _=_;kernel_rfl)) (aB)))
  (fun k=>by (repeat intro _);show _=_;kernel_rfl)
noncomputable def lR (k:Nat):bT K TyK:=sm cod (List aD) [.bo, .bo] [.c (.l true .parcel), .c (.i .i64)] [] (i8) k [.c (.o 0)] [.l .parcel] (fun r=>((),r,())) (fun v1=>v1) false
theorem oC (k:Nat):SummOk Tryz.prog cod 59 (lR k):=bA aF Tryz.f59 (fun k=>aW []) [] false [.tmp 4] 0 [] mixed Tryz.func59 (by kernel_rfl) (by kernel_rfl) (by kernel_rfl) (by kernel_rfl)
  (fun k=>Known.of tok eok aF (aB) gok)
  (fun k=>QuietOk.of (aB))
  (fun a=>rfl)
  (aB)
  (fun k=>by (repeat intro _);show _=_;kernel_rfl)
noncomputable def BP (k:Nat):bT K TyK:=sm cod (Int) [.bo] [.c (.s)] [] (n5) k [.c (.i .i64)] [] (fun r=>(r,())) (fun v1=>v1) true
noncomputable abbrev O0:List (Nat×Cut K TyK (Int)):=[(3,ct cod [0,3,4] [.c (.s), .c (.i .i64), .c (.i .i64)] [] jE)]
theorem LV (k:Nat):SummOk Tryz.prog cod 127 (BP k):=bA aF Tryz.f127 (fun k=>aW []) O0 false [.tmp 2] 0 [] mixed Tryz.func127 (by kernel_rfl) (by kernel_rfl) (by kernel_rfl) (by kernel_rfl)
  (fun k=>Known.of tok eok aF (aB) gok)
  (fun k=>QuietOk.of (aB))
  (fun a=>rfl)
  (all_cons (aO aF (by kernel_rfl) (by (repeat intro _);show _=_;kernel_rfl) (fun k=>by (repeat intro _);show _=_;kernel_rfl)) (aB))
  (fun k=>by (repeat intro _);show _=_;kernel_rfl)
noncomputable def tJ (k:Nat):bT K TyK:=sm cod (aE×Bool) [.bo, .bo, .bo] [.c (.s), .c (.s), .c (.i .i64)] [] (mY) k [.g [.i .i64, .i .i64, .i .i64, .i .i64, .i .i64, .i .i64, .i .i64, .b, .s], .c (.b)] [] (fun r=>(r.1.Kind,r.1.From,r.1.Mine,r.1.Yours,r.1.Next,r.1.Mask,r.1.Seq,r.1.Last,r.1.Part,r.2,())) (fun v1 v2 v3 v4 v5 v6 v7 v8 v9 v10=>((⟨v1,v2,v3,v4,v5,v6,v7,v8,v9⟩:aE),v10)) true
noncomputable abbrev DD:List (Nat×Cut K TyK (aE×Bool)):=[(11,ct cod [0,1,2,6,9] [.c (.s), .c (.s), .c (.i .i64), .c (.r 0 0), .c (.r 1 0)] [.x [.i .i64, .i .i64, .i .i64, .i .i64, .i .i64, .i .i64, .i .i64, .b, .s], .x [.i .i64, .i .i64, .i .i64, .i .i64, .i .i64, .i .i64, .i .i64, .b, .s]] eY)]
theorem B8 (k:Nat):SummOk Tryz.prog cod 89 (tJ k):=bA aF Tryz.f89 (fun k=>aW [(22,cM k),(127,BP k),(88,nX k)]) DD false [.cell 6 128, .tmp 7] 0 [] mixed Tryz.func89 (by kernel_rfl) (by kernel_rfl) (by kernel_rfl) (by kernel_rfl)
  (fun k=>Known.of tok eok aF (all_cons (cF k) (all_cons (LV k) (all_cons (rL k) (aB)))) gok)
  (fun k=>QuietOk.of (all_cons (fun h r=>⟨rfl,rfl⟩) (all_cons (fun h r=>⟨rfl,rfl⟩) (all_cons (fun h r=>⟨rfl,rfl⟩) (aB)))))
  (fun a=>rfl)
  (all_cons (aO aF (by kernel_rfl) (by (repeat intro _);show _=_;kernel_rfl) (fun k=>by (repeat intro _);show _=_;kernel_rfl)) (aB))
  (fun k=>by (repeat intro _);show _=_;kernel_rfl)
noncomputable def yN (k:Nat):bT K TyK:=sm cod (Int) [.bo] [.g [.i .i64, .l true .item]] [] (fun k v1 v2=>EL k (⟨v1,v2⟩:aK)) k [.c (.i .i64)] [] (fun r=>(r,())) (fun v1=>v1) true
noncomputable abbrev KY:List (Nat×Cut K TyK (Int)):=[(2,ct cod [1,3] [.c (.r 0 0), .c (.i .i64)] [.x [.i .i64, .l true .item]] gT)]
theorem I8 (k:Nat):SummOk Tryz.prog cod 156 (yN k):=bA aF Tryz.f156 (fun k=>aW []) KY false [.tmp 2] 0 [] mixed Tryz.func156 (by kernel_rfl) (by kernel_rfl) (by kernel_rfl) (by kernel_rfl)
  (fun k=>Known.of tok eok aF (aB) gok)
  (fun k=>QuietOk.of (aB))
  (fun a=>rfl)
  (all_cons (aO aF (by kernel_rfl) (by (repeat intro _);show _=_;kernel_rfl) (fun k=>by (repeat intro _);show _=_;kernel_rfl)) (aB))
  (fun k=>by (repeat intro _);show _=_;kernel_rfl)
noncomputable def w7 (k:Nat):bT K TyK:=sm cod (aK) [.bo, .bo, .bo] [.g [.i .i64, .l true .item], .c (.i .i64), .c (.i .i64)] [] (fun k v1 v2 v3 v4=>m8 k (⟨v1,v2⟩:aK) v3 v4) k [.g [.i .i64, .o 0]] [.l .item] (fun r=>(r.Base,(),r.Items,())) (fun v1 v2=>(⟨v1,v2⟩:aK)) false
noncomputable abbrev HZ:List (Nat×Cut K TyK (aK)):=[(9,ct cod [2,6,7,8] [.c (.i .i64), .c (.r 0 0), .c (.r 1 0), .c (.i .i64)] [.x [.i .i64, .o 2], .x [.i .i64, .o 3], .l .item, .l .item] cT),
  (13,ct cod [2,6,7,8] [.c (.i .i64), .c (.r 0 0), .c (.r 1 0), .c (.i .i64)] [.x [.i .i64, .o 2], .x [.i .i64, .o 3], .l .item, .l .item] cJ)]
theorem FW (k:Nat):SummOk Tryz.prog cod 128 (w7 k):=bA aF Tryz.f128 (fun k=>aW [(114,iW k),(119,nM k),(156,yN k),(22,cM k)]) HZ false [.cell 6 56] 0 [] mixed Tryz.func128 (by kernel_rfl) (by kernel_rfl) (by kernel_rfl) (by kernel_rfl)
  (fun k=>Known.of tok eok aF (all_cons (kN k) (all_cons (oI k) (all_cons (I8 k) (all_cons (cF k) (aB))))) gok)
  (fun k=>QuietOk.of (all_cons (fun h r=>⟨rfl,rfl⟩) (all_cons (fun h r=>by cases h) (all_cons (fun h r=>⟨rfl,rfl⟩) (all_cons (fun h r=>⟨rfl,rfl⟩) (aB))))))
  (fun a=>rfl)
  (all_cons (aO aF (by kernel_rfl) (by (repeat intro _);show _=_;kernel_rfl) (fun k=>by (repeat intro _);show _=_;kernel_rfl)) (all_cons (aO aF (by kernel_rfl) (by (repeat intro _);show _=_;kernel_rfl) (fun k=>by (repeat intro _);show _=_;kernel_rfl)) (aB)))
  (fun k=>by (repeat intro _);show _=_;kernel_rfl)
noncomputable def AM (k:Nat):bT K TyK:=sm cod (aM) [.mv] [.g [.i .i64, .o 0, .s, .o 1]] [.l .held, .l .str] (fun k v1 v2 v3 v4=>xA k (⟨v1,v3,v2,v4⟩:aM)) k [.g [.i .i64, .o 2, .s, .o 3]] [.d, .d, .l .held, .l .str] (fun r=>(r.Next,(),r.Open,(),r.Held,r.Ready,())) (fun v1 v2 v3 v4=>(⟨v1,v3,v2,v4⟩:aM)) false
noncomputable abbrev VO:List (Nat×Cut K TyK (aM)):=[(1,ct cod [1,2] [.c (.r 2 0), .c (.r 3 0)] [.d, .d, .x [.i .i64, .o 4, .s, .o 5], .x [.i .i64, .o 6, .s, .o 7], .l .held, .l .str, .l .held, .l .str] f7)]
theorem EJ (k:Nat):SummOk Tryz.prog cod 121 (AM k):=bA aF Tryz.f121 (fun k=>aW [(154,wX k)]) VO false [.cell 2 59] 2 [true,true] mixed Tryz.func121 (by kernel_rfl) (by kernel_rfl) (by kernel_rfl) (by kernel_rfl)
  (fun k=>Known.of tok eok aF (all_cons (A9 k) (aB)) gok)
  (fun k=>QuietOk.of (all_cons (fun h r=>⟨rfl,rfl⟩) (aB)))
  (fun a=>rfl)
  (all_cons (aO aF (by kernel_rfl) (by (repeat intro _);show _=_;kernel_rfl) (fun k=>by (repeat intro _);show _=_;kernel_rfl)) (aB))
  (fun k=>by (repeat intro _);show _=_;kernel_rfl)
noncomputable def w5 (k:Nat):bT K TyK:=sm cod (aM) [.bo, .bo, .bo] [.g [.i .i64, .l true .held, .s, .l true .str], .c (.i .i64), .g [.s, .b]] [] (fun k v1 v2 v3 v4 v5 v6 v7=>pM k (⟨v1,v2,v3,v4⟩:aM) v5 (⟨v6,v7⟩:bV)) k [.g [.i .i64, .o 0, .s, .o 1]] [.l .held, .l .str] (fun r=>(r.Next,(),r.Open,(),r.Held,r.Ready,())) (fun v1 v2 v3 v4=>(⟨v1,v3,v2,v4⟩:aM)) false
noncomputable abbrev IB:List (Nat×Cut K TyK (aM)):=[(9,ct cod [1,3,5,6,7,8,9,10] [.c (.i .i64), .c (.r 0 0), .c (.r 1 0), .c (.r 2 0), .c (.r 3 0), .c (.o 4), .c (.b), .c (.i .i64)] [.x [.i .i64, .l true .held, .s, .l true .str], .x [.s, .b], .x [.i .i64, .o 5, .s, .o 6], .x [.i .i64, .o 7, .s, .o 8], .l .held, .l .held, .l .str, .l .held, .l .str] cV),
  (16,ct cod [1,3,5,6,7,8,9,10] [.c (.i .i64), .c (.r 0 0), .c (.r 1 0), .c (.r 2 0), .c (.r 3 0), .c (.o 4), .c (.b), .c (.i .i64)] [.x [.i .i64, .l true .held, .s, .l true .str], .x [.s, .b], .x [.i .i64, .o 5, .s, .o 6], .x [.i .i64, .o 7, .s, .o 8], .l .held, .l .held, .l .str, .l .held, .l .str] dP),
  (19,ct cod [6,7,8] [.c (.r 0 0), .c (.r 1 0), .c (.o 2)] [.x [.i .i64, .o 3, .s, .o 4], .x [.i .i64, .o 5, .s, .o 6], .l .held, .l .held, .l .str, .l .held, .l .str] gQ)]
theorem F4 (k:Nat):SummOk Tryz.prog cod 129 (w5 k):=bA aF Tryz.f129 (fun k=>aW [(115,iX k),(120,pR k),(153,uG k),(121,AM k)]) IB false [.cell 6 59] 0 [] mixed Tryz.func129 (by kernel_rfl) (by kernel_rfl) (by kernel_rfl) (by kernel_rfl)
  (fun k=>Known.of tok eok aF (all_cons (kC k) (all_cons (sY k) (all_cons (yC k) (all_cons (EJ k) (aB))))) gok)
  (fun k=>QuietOk.of (all_cons (fun h r=>⟨rfl,rfl⟩) (all_cons (fun h r=>by cases h) (all_cons (fun h r=>⟨rfl,rfl⟩) (all_cons (fun h r=>by cases h) (aB))))))
  (fun a=>rfl)
  (all_cons (aO aF (by kernel_rfl) (by (repeat intro _);show _=_;kernel_rfl) (fun k=>by (repeat intro _);show _=_;kernel_rfl)) (all_cons (aO aF (by kernel_rfl) (by (repeat intro _);show _=_;kernel_rfl) (fun k=>by (repeat intro _);show _=_;kernel_rfl)) (all_cons (aO aF (by kernel_rfl) (by (repeat intro _);show _=_;kernel_rfl) (fun k=>by (repeat intro _);show _=_;kernel_rfl)) (aB))))
  (fun k=>by (repeat intro _);show _=_;kernel_rfl)
noncomputable def yB (k:Nat):bT K TyK:=sm cod (aV) [.bo, .bo] [.g [.i .i64, .b, .i .i64, .i .i64, .i .i64, .b, .i .i64, .l true .item, .i .i64, .l true .held, .s, .l true .str], .g [.i .i64, .i .i64, .i .i64, .i .i64, .i .i64, .i .i64, .i .i64, .b, .s]] [] (fun k v1 v2 v3 v4 v5 v6 v7 v8 v9 v10 v11 v12 v13 v14 v15 v16 v17 v18 v19 v20 v21=>sD k (⟨v1,v2,v3,v4,v5,v6,(⟨v7,v8⟩:aK),(⟨v9,v10,v11,v12⟩:aM)⟩:aN) (⟨v13,v14,v15,v16,v17,v18,v19,v20,v21⟩:aE)) k [.g [.i .i64, .i .i64, .b, .i .i64, .i .i64, .i .i64, .b, .i .i64, .o 0, .i .i64, .o 1, .s, .o 2, .o 3, .s]] [.l .item, .l .held, .l .str, .l .packet] (fun r=>(r.Code,r.End.Number,r.End.Up,r.End.Life,r.End.Peer,r.End.Since,r.End.Owes,r.End.Send.Base,(),r.End.Take.Next,(),r.End.Take.Open,(),(),r.Text,r.End.Send.Items,r.End.Take.Held,r.End.Take.Ready,r.Out,())) (fun v1 v2 v3 v4 v5 v6 v7 v8 v9 v10 v11 v12 v13 v14 v15=>(⟨v1,(⟨v2,v3,v4,v5,v6,v7,(⟨v8,v12⟩:aK),(⟨v9,v13,v10,v14⟩:aM)⟩:aN),v15,v11⟩:aV)) false
noncomputable abbrev LY:List (Nat×Cut K TyK (aV)):=[(11,ct cod [3,4,5] [.c (.r 0 0), .c (.r 1 0), .c (.r 2 0)] [.x [.i .i64, .i .i64, .i .i64, .i .i64, .i .i64, .i .i64, .i .i64, .b, .s], .x [.i .i64, .i .i64, .b, .i .i64, .i .i64, .i .i64, .b, .i .i64, .o 3, .i .i64, .o 4, .s, .o 5, .o 6, .s], .x [.i .i64, .b, .i .i64, .i .i64, .i .i64, .b, .i .i64, .o 7, .i .i64, .o 8, .s, .o 9], .l .item, .l .held, .l .str, .l .packet, .l .item, .l .held, .l .str] iQ)]
theorem I1 (k:Nat):SummOk Tryz.prog cod 90 (yB k):=bA aF Tryz.f90 (fun k=>aW [(82,dZ k),(84,iA k),(124,zO k),(128,w7 k),(129,w5 k)]) LY false [.cell 4 82] 0 [] mixed Tryz.func90 (by kernel_rfl) (by kernel_rfl) (by kernel_rfl) (by kernel_rfl)
  (fun k=>Known.of tok eok aF (all_cons (eD k) (all_cons (jB k) (all_cons (E0 k) (all_cons (FW k) (all_cons (F4 k) (aB)))))) gok)
  (fun k=>QuietOk.of (all_cons (fun h r=>⟨rfl,rfl⟩) (all_cons (fun h r=>by cases h) (all_cons (fun h r=>⟨rfl,rfl⟩) (all_cons (fun h r=>by cases h) (all_cons (fun h r=>by cases h) (aB)))))))
  (fun a=>rfl)
  (all_cons (aO aF (by kernel_rfl) (by (repeat intro _);show _=_;kernel_rfl) (fun k=>by (repeat intro _);show _=_;kernel_rfl)) (aB))
  (fun k=>by (repeat intro _);show _=_;kernel_rfl)
noncomputable def sV (k:Nat):bT K TyK:=sm cod (aC) [.mv, .mv] [.g [.s, .i .i64, .o 0, .o 1, .s, .o 2, .o 3], .c (.i .i64)] [.l .end, .l .parcel, .l .record, .l .record] (fun k v1 v2 v3 v4 v5 v6 v7 v8=>oQ k (⟨v1,v2,v5,v6,v3,v7,v8⟩:aC) v4) k [.g [.s, .i .i64, .o 4, .o 5, .s, .o 6, .o 7]] [.d, .d, .d, .d, .l .end, .l .parcel, .l .record, .l .record] (fun r=>(r.Key,r.Width,(),(),r.Forged,(),(),r.Ends,r.Flight,r.Given,r.Taken,())) (fun v1 v2 v3 v4 v5 v6 v7=>(⟨v1,v2,v4,v5,v3,v6,v7⟩:aC)) false
noncomputable abbrev LM:List (Nat×Cut K TyK (aC)):=[(8,ct cod [2,4,5,6] [.c (.r 4 0), .c (.r 5 0), .c (.r 6 0), .c (.r 7 0)] [.d, .d, .d, .d, .x [.s, .i .i64, .o 8, .o 9, .s, .o 10, .o 11], .x [.s, .i .i64, .o 12, .o 13, .s, .o 14, .o 15], .x [.i .i64, .s, .s], .x [.i .i64, .i .i64, .i .i64, .i .i64, .i .i64, .i .i64, .i .i64, .b, .s], .l .end, .l .parcel, .l .record, .l .record, .l .end, .l .parcel, .l .record, .l .record] gU)]
theorem vJ (k:Nat):SummOk Tryz.prog cod 58 (sV k):=bA aF Tryz.f58 (fun k=>aW [(59,lR k),(89,tJ k),(90,yB k)]) LM false [.cell 4 33] 4 [true,true,true,true] mixed Tryz.func58 (by kernel_rfl) (by kernel_rfl) (by kernel_rfl) (by kernel_rfl)
  (fun k=>Known.of tok eok aF (all_cons (oC k) (all_cons (B8 k) (all_cons (I1 k) (aB)))) gok)
  (fun k=>QuietOk.of (all_cons (fun h r=>by cases h) (all_cons (fun h r=>⟨rfl,rfl⟩) (all_cons (fun h r=>by cases h) (aB)))))
  (fun a=>rfl)
  (all_cons (aO aF (by kernel_rfl) (by (repeat intro _);show _=_;kernel_rfl) (fun k=>by (repeat intro _);show _=_;kernel_rfl)) (aB))
  (fun k=>by (repeat intro _);show _=_;kernel_rfl)
noncomputable def vT (k:Nat):bT K TyK:=sm cod (aC) [.mv, .mv] [.g [.s, .i .i64, .o 0, .o 1, .s, .o 2, .o 3], .g [.i .i64, .i .i64, .i .i64, .i .i64, .s]] [.l .end, .l .parcel, .l .record, .l .record] (fun k v1 v2 v3 v4 v5 v6 v7 v8 v9 v10 v11 v12=>pU k (⟨v1,v2,v9,v10,v3,v11,v12⟩:aC) (⟨v4,v5,v6,v7,v8⟩:c6)) k [.g [.s, .i .i64, .o 4, .o 5, .s, .o 6, .o 7]] [.d, .d, .d, .d, .l .end, .l .parcel, .l .record, .l .record] (fun r=>(r.Key,r.Width,(),(),r.Forged,(),(),r.Ends,r.Flight,r.Given,r.Taken,())) (fun v1 v2 v3 v4 v5 v6 v7=>(⟨v1,v2,v4,v5,v3,v6,v7⟩:aC)) false
noncomputable abbrev J5:List (Nat×Cut K TyK (aC)):=[(11,ct cod [2,4] [.c (.r 4 0), .c (.r 5 0)] [.d, .d, .d, .d, .x [.s, .i .i64, .o 6, .o 7, .s, .o 8, .o 9], .x [.s, .i .i64, .o 10, .o 11, .s, .o 12, .o 13], .l .end, .l .parcel, .l .record, .l .record, .l .end, .l .parcel, .l .record, .l .record] hC),
  (22,ct cod [2,3,4,5] [.c (.r 4 0), .c (.r 5 0), .c (.r 6 0), .c (.r 7 0)] [.d, .d, .d, .d, .x [.s, .i .i64, .o 8, .o 9, .s, .o 10, .o 11], .x [.i .i64, .i .i64, .i .i64, .i .i64, .s], .x [.s, .i .i64, .o 12, .o 13, .s, .o 14, .o 15], .x [.i .i64, .s, .s], .l .end, .l .parcel, .l .record, .l .record, .l .end, .l .parcel, .l .record, .l .record] bL)]
theorem FM (k:Nat):SummOk Tryz.prog cod 93 (vT k):=bA aF Tryz.f93 (fun k=>aW [(58,sV k),(59,lR k)]) J5 false [.cell 4 33] 4 [true,true,true,true] mixed Tryz.func93 (by kernel_rfl) (by kernel_rfl) (by kernel_rfl) (by kernel_rfl)
  (fun k=>Known.of tok eok aF (all_cons (vJ k) (all_cons (oC k) (aB))) gok)
  (fun k=>QuietOk.of (all_cons (fun h r=>by cases h) (all_cons (fun h r=>by cases h) (aB))))
  (fun a=>rfl)
  (all_cons (aO aF (by kernel_rfl) (by (repeat intro _);show _=_;kernel_rfl) (fun k=>by (repeat intro _);show _=_;kernel_rfl)) (all_cons (aO aF (by kernel_rfl) (by (repeat intro _);show _=_;kernel_rfl) (fun k=>by (repeat intro _);show _=_;kernel_rfl)) (aB)))
  (fun k=>by (repeat intro _);show _=_;kernel_rfl)
noncomputable def zD (k:Nat):bT K TyK:=sm cod (aN) [.bo] [.g [.i .i64, .b, .i .i64, .i .i64, .i .i64, .b, .i .i64, .l true .item, .i .i64, .l true .held, .s, .l true .str]] [] (fun k v1 v2 v3 v4 v5 v6 v7 v8 v9 v10 v11 v12=>rT k (⟨v1,v2,v3,v4,v5,v6,(⟨v7,v8⟩:aK),(⟨v9,v10,v11,v12⟩:aM)⟩:aN)) k [.g [.i .i64, .b, .i .i64, .i .i64, .i .i64, .b, .i .i64, .o 0, .i .i64, .o 1, .s, .o 2]] [.l .item, .l .held, .l .str] (fun r=>(r.Number,r.Up,r.Life,r.Peer,r.Since,r.Owes,r.Send.Base,(),r.Take.Next,(),r.Take.Open,(),r.Send.Items,r.Take.Held,r.Take.Ready,())) (fun v1 v2 v3 v4 v5 v6 v7 v8 v9 v10 v11 v12=>(⟨v1,v2,v3,v4,v5,v6,(⟨v7,v10⟩:aK),(⟨v8,v11,v9,v12⟩:aM)⟩:aN)) false
theorem KM (k:Nat):SummOk Tryz.prog cod 91 (zD k):=bA aF Tryz.f91 (fun k=>aW [(82,dZ k)]) [] false [.cell 2 61] 0 [] mixed Tryz.func91 (by kernel_rfl) (by kernel_rfl) (by kernel_rfl) (by kernel_rfl)
  (fun k=>Known.of tok eok aF (all_cons (eD k) (aB)) gok)
  (fun k=>QuietOk.of (all_cons (fun h r=>⟨rfl,rfl⟩) (aB)))
  (fun a=>rfl)
  (aB)
  (fun k=>by (repeat intro _);show _=_;kernel_rfl)
noncomputable def yS (k:Nat):bT K TyK:=sm cod (aN) [.bo] [.g [.i .i64, .b, .i .i64, .i .i64, .i .i64, .b, .i .i64, .l true .item, .i .i64, .l true .held, .s, .l true .str]] [] (fun k v1 v2 v3 v4 v5 v6 v7 v8 v9 v10 v11 v12=>rV k (⟨v1,v2,v3,v4,v5,v6,(⟨v7,v8⟩:aK),(⟨v9,v10,v11,v12⟩:aM)⟩:aN)) k [.g [.i .i64, .b, .i .i64, .i .i64, .i .i64, .b, .i .i64, .o 0, .i .i64, .o 1, .s, .o 2]] [.l .item, .l .held, .l .str] (fun r=>(r.Number,r.Up,r.Life,r.Peer,r.Since,r.Owes,r.Send.Base,(),r.Take.Next,(),r.Take.Open,(),r.Send.Items,r.Take.Held,r.Take.Ready,())) (fun v1 v2 v3 v4 v5 v6 v7 v8 v9 v10 v11 v12=>(⟨v1,v2,v3,v4,v5,v6,(⟨v7,v10⟩:aK),(⟨v8,v11,v9,v12⟩:aM)⟩:aN)) false
theorem JW (k:Nat):SummOk Tryz.prog cod 92 (yS k):=bA aF Tryz.f92 (fun k=>aW [(82,dZ k),(84,iA k)]) [] false [.cell 2 61] 0 [] mixed Tryz.func92 (by kernel_rfl) (by kernel_rfl) (by kernel_rfl) (by kernel_rfl)
  (fun k=>Known.of tok eok aF (all_cons (eD k) (all_cons (jB k) (aB))) gok)
  (fun k=>QuietOk.of (all_cons (fun h r=>⟨rfl,rfl⟩) (all_cons (fun h r=>by cases h) (aB))))
  (fun a=>rfl)
  (aB)
  (fun k=>by (repeat intro _);show _=_;kernel_rfl)
noncomputable def xD (k:Nat):bT K TyK:=sm cod (aM×ByteArray×Bool) [.bo] [.g [.i .i64, .l true .held, .s, .l true .str]] [] (fun k v1 v2 v3 v4=>pX k (⟨v1,v2,v3,v4⟩:aM)) k [.g [.i .i64, .o 0, .s, .o 1], .c (.s), .c (.b)] [.l .held, .l .str] (fun r=>(r.1.Next,(),r.1.Open,(),r.2.1,r.2.2,r.1.Held,r.1.Ready,())) (fun v1 v2 v3 v4 v5 v6=>((⟨v1,v5,v2,v6⟩:aM),v3,v4)) false
theorem F7 (k:Nat):SummOk Tryz.prog cod 85 (xD k):=bA aF Tryz.f85 (fun k=>aW [(115,iX k),(120,pR k),(121,AM k)]) [] false [.cell 2 59, .tmp 3, .tmp 4] 0 [] mixed Tryz.func85 (by kernel_rfl) (by kernel_rfl) (by kernel_rfl) (by kernel_rfl)
  (fun k=>Known.of tok eok aF (all_cons (kC k) (all_cons (sY k) (all_cons (EJ k) (aB)))) gok)
  (fun k=>QuietOk.of (all_cons (fun h r=>⟨rfl,rfl⟩) (all_cons (fun h r=>by cases h) (all_cons (fun h r=>by cases h) (aB)))))
  (fun a=>rfl)
  (aB)
  (fun k=>by (repeat intro _);show _=_;kernel_rfl)
noncomputable def sK (k:Nat):bT K TyK:=sm cod (aV) [.bo] [.g [.i .i64, .b, .i .i64, .i .i64, .i .i64, .b, .i .i64, .l true .item, .i .i64, .l true .held, .s, .l true .str]] [] (fun k v1 v2 v3 v4 v5 v6 v7 v8 v9 v10 v11 v12=>oX k (⟨v1,v2,v3,v4,v5,v6,(⟨v7,v8⟩:aK),(⟨v9,v10,v11,v12⟩:aM)⟩:aN)) k [.g [.i .i64, .i .i64, .b, .i .i64, .i .i64, .i .i64, .b, .i .i64, .o 0, .i .i64, .o 1, .s, .o 2, .o 3, .s]] [.l .item, .l .held, .l .str, .l .packet] (fun r=>(r.Code,r.End.Number,r.End.Up,r.End.Life,r.End.Peer,r.End.Since,r.End.Owes,r.End.Send.Base,(),r.End.Take.Next,(),r.End.Take.Open,(),(),r.Text,r.End.Send.Items,r.End.Take.Held,r.End.Take.Ready,r.Out,())) (fun v1 v2 v3 v4 v5 v6 v7 v8 v9 v10 v11 v12 v13 v14 v15=>(⟨v1,(⟨v2,v3,v4,v5,v6,v7,(⟨v8,v12⟩:aK),(⟨v9,v13,v10,v14⟩:aM)⟩:aN),v15,v11⟩:aV)) false
theorem wH (k:Nat):SummOk Tryz.prog cod 52 (sK k):=bA aF Tryz.f52 (fun k=>aW [(82,dZ k),(85,xD k),(84,iA k)]) [] false [.cell 2 82] 0 [] mixed Tryz.func52 (by kernel_rfl) (by kernel_rfl) (by kernel_rfl) (by kernel_rfl)
  (fun k=>Known.of tok eok aF (all_cons (eD k) (all_cons (F7 k) (all_cons (jB k) (aB)))) gok)
  (fun k=>QuietOk.of (all_cons (fun h r=>⟨rfl,rfl⟩) (all_cons (fun h r=>by cases h) (all_cons (fun h r=>by cases h) (aB)))))
  (fun a=>rfl)
  (aB)
  (fun k=>by (repeat intro _);show _=_;kernel_rfl)
noncomputable def wV (k:Nat):bT K TyK:=sm cod (aC) [.mv, .mv] [.g [.s, .i .i64, .o 0, .o 1, .s, .o 2, .o 3], .g [.i .i64, .i .i64, .i .i64, .i .i64, .s]] [.l .end, .l .parcel, .l .record, .l .record] (fun k v1 v2 v3 v4 v5 v6 v7 v8 v9 v10 v11 v12=>qB k (⟨v1,v2,v9,v10,v3,v11,v12⟩:aC) (⟨v4,v5,v6,v7,v8⟩:c6)) k [.g [.s, .i .i64, .o 4, .o 5, .s, .o 6, .o 7]] [.d, .d, .d, .d, .l .end, .l .parcel, .l .record, .l .record] (fun r=>(r.Key,r.Width,(),(),r.Forged,(),(),r.Ends,r.Flight,r.Given,r.Taken,())) (fun v1 v2 v3 v4 v5 v6 v7=>(⟨v1,v2,v4,v5,v3,v6,v7⟩:aC)) false
noncomputable abbrev SH:List (Nat×Cut K TyK (aC)):=[(18,ct cod [2,4] [.c (.r 4 0), .c (.r 5 0)] [.d, .d, .d, .d, .x [.s, .i .i64, .o 6, .o 7, .s, .o 8, .o 9], .x [.s, .i .i64, .o 10, .o 11, .s, .o 12, .o 13], .l .end, .l .parcel, .l .record, .l .record, .l .end, .l .parcel, .l .record, .l .record] cH)]
theorem BQ (k:Nat):SummOk Tryz.prog cod 60 (wV k):=bA aF Tryz.f60 (fun k=>aW [(91,zD k),(92,yS k),(48,sP k),(52,sK k)]) SH false [.cell 4 33] 4 [true,true,true,true] mixed Tryz.func60 (by kernel_rfl) (by kernel_rfl) (by kernel_rfl) (by kernel_rfl)
  (fun k=>Known.of tok eok aF (all_cons (KM k) (all_cons (JW k) (all_cons (wM k) (all_cons (wH k) (aB))))) gok)
  (fun k=>QuietOk.of (all_cons (fun h r=>by cases h) (all_cons (fun h r=>by cases h) (all_cons (fun h r=>by cases h) (all_cons (fun h r=>by cases h) (aB))))))
  (fun a=>rfl)
  (all_cons (aO aF (by kernel_rfl) (by (repeat intro _);show _=_;kernel_rfl) (fun k=>by (repeat intro _);show _=_;kernel_rfl)) (aB))
  (fun k=>by (repeat intro _);show _=_;kernel_rfl)
noncomputable def I6 (k:Nat):bT K TyK:=sm cod (aC) [.mv, .mv] [.g [.s, .i .i64, .o 0, .o 1, .s, .o 2, .o 3], .g [.i .i64, .i .i64, .i .i64, .i .i64, .s]] [.l .end, .l .parcel, .l .record, .l .record] (fun k v1 v2 v3 v4 v5 v6 v7 v8 v9 v10 v11 v12=>BG k (⟨v1,v2,v9,v10,v3,v11,v12⟩:aC) (⟨v4,v5,v6,v7,v8⟩:c6)) k [.g [.s, .i .i64, .o 4, .o 5, .s, .o 6, .o 7]] [.d, .d, .d, .d, .l .end, .l .parcel, .l .record, .l .record] (fun r=>(r.Key,r.Width,(),(),r.Forged,(),(),r.Ends,r.Flight,r.Given,r.Taken,())) (fun v1 v2 v3 v4 v5 v6 v7=>(⟨v1,v2,v4,v5,v3,v6,v7⟩:aC)) false
theorem P0 (k:Nat):SummOk Tryz.prog cod 61 (I6 k):=bA aF Tryz.f61 (fun k=>aW [(56,tU k),(22,cM k),(93,vT k),(60,wV k)]) [] false [.cell 4 33] 4 [true,true,true,true] mixed Tryz.func61 (by kernel_rfl) (by kernel_rfl) (by kernel_rfl) (by kernel_rfl)
  (fun k=>Known.of tok eok aF (all_cons (yI k) (all_cons (cF k) (all_cons (FM k) (all_cons (BQ k) (aB))))) gok)
  (fun k=>QuietOk.of (all_cons (fun h r=>by cases h) (all_cons (fun h r=>⟨rfl,rfl⟩) (all_cons (fun h r=>by cases h) (all_cons (fun h r=>by cases h) (aB))))))
  (fun a=>rfl)
  (aB)
  (fun k=>by (repeat intro _);show _=_;kernel_rfl)
noncomputable def BX (k:Nat):bT K TyK:=sm cod (aC) [.bo, .bo] [.g [.s, .i .i64, .l true .end, .l true .parcel, .s, .l true .record, .l true .record], .g [.i .i64, .i .i64, .i .i64, .i .i64, .s]] [] (fun k v1 v2 v3 v4 v5 v6 v7 v8 v9 v10 v11 v12=>uN k (⟨v1,v2,v3,v4,v5,v6,v7⟩:aC) (⟨v8,v9,v10,v11,v12⟩:c6)) k [.g [.s, .i .i64, .o 0, .o 1, .s, .o 2, .o 3]] [.l .end, .l .parcel, .l .record, .l .record] (fun r=>(r.Key,r.Width,(),(),r.Forged,(),(),r.Ends,r.Flight,r.Given,r.Taken,())) (fun v1 v2 v3 v4 v5 v6 v7=>(⟨v1,v2,v4,v5,v3,v6,v7⟩:aC)) false
theorem DE (k:Nat):SummOk Tryz.prog cod 32 (BX k):=bA aF Tryz.f32 (fun k=>aW [(54,gO k),(55,uL k),(61,I6 k)]) [] false [.cell 4 33] 0 [] mixed Tryz.func32 (by kernel_rfl) (by kernel_rfl) (by kernel_rfl) (by kernel_rfl)
  (fun k=>Known.of tok eok aF (all_cons (jI k) (all_cons (zC k) (all_cons (P0 k) (aB)))) gok)
  (fun k=>QuietOk.of (all_cons (fun h r=>⟨rfl,rfl⟩) (all_cons (fun h r=>by cases h) (all_cons (fun h r=>by cases h) (aB)))))
  (fun a=>rfl)
  (aB)
  (fun k=>by (repeat intro _);show _=_;kernel_rfl)
noncomputable def BW (k:Nat):bT K TyK:=sm cod (aC×ByteArray) [.mv, .bo] [.g [.s, .i .i64, .o 0, .o 1, .s, .o 2, .o 3], .c (.s)] [.l .end, .l .parcel, .l .record, .l .record] (fun k v1 v2 v3 v4 v5 v6 v7 v8=>uU k (⟨v1,v2,v5,v6,v3,v7,v8⟩:aC) v4) k [.g [.s, .i .i64, .o 4, .o 5, .s, .o 6, .o 7], .c (.s)] [.d, .d, .d, .d, .l .end, .l .parcel, .l .record, .l .record] (fun r=>(r.1.Key,r.1.Width,(),(),r.1.Forged,(),(),r.2,r.1.Ends,r.1.Flight,r.1.Given,r.1.Taken,())) (fun v1 v2 v3 v4 v5 v6 v7 v8=>((⟨v1,v2,v5,v6,v3,v7,v8⟩:aC),v4)) false
noncomputable abbrev N6:List (Nat×Cut K TyK (aC×ByteArray)):=[(3,ct cod [2,4,6,7] [.c (.r 4 0), .c (.r 5 0), .c (.s), .c (.i .i64)] [.d, .d, .d, .d, .x [.s, .i .i64, .o 6, .o 7, .s, .o 8, .o 9], .x [.s, .i .i64, .o 10, .o 11, .s, .o 12, .o 13], .l .end, .l .parcel, .l .record, .l .record, .l .end, .l .parcel, .l .record, .l .record] jA)]
theorem KV (k:Nat):SummOk Tryz.prog cod 24 (BW k):=bA aF Tryz.f24 (fun k=>aW [(26,nA k),(48,sP k),(32,BX k),(18,hJ k)]) N6 false [.cell 4 33, .tmp 5] 4 [true,true,true,true] mixed Tryz.func24 (by kernel_rfl) (by kernel_rfl) (by kernel_rfl) (by kernel_rfl)
  (fun k=>Known.of tok eok aF (all_cons (pA k) (all_cons (wM k) (all_cons (DE k) (all_cons (kA k) (aB))))) gok)
  (fun k=>QuietOk.of (all_cons (fun h r=>⟨rfl,rfl⟩) (all_cons (fun h r=>by cases h) (all_cons (fun h r=>by cases h) (all_cons (fun h r=>⟨rfl,rfl⟩) (aB))))))
  (fun a=>rfl)
  (all_cons (aO aF (by kernel_rfl) (by (repeat intro _);show _=_;kernel_rfl) (fun k=>by (repeat intro _);show _=_;kernel_rfl)) (aB))
  (fun k=>by (repeat intro _);show _=_;kernel_rfl)
noncomputable def D3 (k:Nat):bT K TyK:=sm cod (ByteArray) [.bo] [.g [.i .i64, .b, .i .i64, .i .i64, .i .i64, .b, .i .i64, .l true .item, .i .i64, .l true .held, .s, .l true .str]] [] (fun k v1 v2 v3 v4 v5 v6 v7 v8 v9 v10 v11 v12=>tG k (⟨v1,v2,v3,v4,v5,v6,(⟨v7,v8⟩:aK),(⟨v9,v10,v11,v12⟩:aM)⟩:aN)) k [.c (.s)] [] (fun r=>(r,())) (fun v1=>v1) true
theorem N7 (k:Nat):SummOk Tryz.prog cod 49 (D3 k):=bA aF Tryz.f49 (fun k=>aW [(18,hJ k)]) [] false [.tmp 2] 0 [] mixed Tryz.func49 (by kernel_rfl) (by kernel_rfl) (by kernel_rfl) (by kernel_rfl)
  (fun k=>Known.of tok eok aF (all_cons (kA k) (aB)) gok)
  (fun k=>QuietOk.of (all_cons (fun h r=>⟨rfl,rfl⟩) (aB)))
  (fun a=>rfl)
  (aB)
  (fun k=>by (repeat intro _);show _=_;kernel_rfl)
noncomputable def E5 (k:Nat):bT K TyK:=sm cod (Bool) [.bo] [.g [.s, .i .i64, .l true .end, .l true .parcel, .s, .l true .record, .l true .record]] [] (fun k v1 v2 v3 v4 v5 v6 v7=>xN k (⟨v1,v2,v3,v4,v5,v6,v7⟩:aC)) k [.c (.b)] [] (fun r=>(r,())) (fun v1=>v1) true
noncomputable abbrev QM:List (Nat×Cut K TyK (Bool)):=[(4,ct cod [1,3] [.c (.r 0 0), .c (.i .i64)] [.x [.s, .i .i64, .l true .end, .l true .parcel, .s, .l true .record, .l true .record]] iJ),
  (9,ct cod [1,3,4,5,6] [.c (.r 0 0), .c (.i .i64), .c (.r 1 0), .c (.i .i64), .c (.i .i64)] [.x [.s, .i .i64, .l true .end, .l true .parcel, .s, .l true .record, .l true .record], .x [.i .i64, .i .i64, .i .i64, .s]] kG),
  (10,ct cod [1,3,4,5,6] [.c (.r 0 0), .c (.i .i64), .c (.r 1 0), .c (.i .i64), .c (.i .i64)] [.x [.s, .i .i64, .l true .end, .l true .parcel, .s, .l true .record, .l true .record], .x [.i .i64, .i .i64, .i .i64, .s]] eP),
  (15,ct cod [1,3,4,5,7,8] [.c (.r 0 0), .c (.i .i64), .c (.r 1 0), .c (.i .i64), .c (.b), .c (.i .i64)] [.x [.s, .i .i64, .l true .end, .l true .parcel, .s, .l true .record, .l true .record], .x [.i .i64, .i .i64, .i .i64, .s]] gD),
  (16,ct cod [1,3,4,5,7,8] [.c (.r 0 0), .c (.i .i64), .c (.r 1 0), .c (.i .i64), .c (.b), .c (.i .i64)] [.x [.s, .i .i64, .l true .end, .l true .parcel, .s, .l true .record, .l true .record], .x [.i .i64, .i .i64, .i .i64, .s]] dB)]
theorem OW (k:Nat):SummOk Tryz.prog cod 50 (E5 k):=bA aF Tryz.f50 (fun k=>aW [(54,gO k)]) QM false [.tmp 2] 0 [] mixed Tryz.func50 (by kernel_rfl) (by kernel_rfl) (by kernel_rfl) (by kernel_rfl)
  (fun k=>Known.of tok eok aF (all_cons (jI k) (aB)) gok)
  (fun k=>QuietOk.of (all_cons (fun h r=>⟨rfl,rfl⟩) (aB)))
  (fun a=>rfl)
  (all_cons (aO aF (by kernel_rfl) (by (repeat intro _);show _=_;kernel_rfl) (fun k=>by (repeat intro _);show _=_;kernel_rfl)) (all_cons (aO aF (by kernel_rfl) (by (repeat intro _);show _=_;kernel_rfl) (fun k=>by (repeat intro _);show _=_;kernel_rfl)) (all_cons (aO aF (by kernel_rfl) (by (repeat intro _);show _=_;kernel_rfl) (fun k=>by (repeat intro _);show _=_;kernel_rfl)) (all_cons (aO aF (by kernel_rfl) (by (repeat intro _);show _=_;kernel_rfl) (fun k=>by (repeat intro _);show _=_;kernel_rfl)) (all_cons (aO aF (by kernel_rfl) (by (repeat intro _);show _=_;kernel_rfl) (fun k=>by (repeat intro _);show _=_;kernel_rfl)) (aB))))))
  (fun k=>by (repeat intro _);show _=_;kernel_rfl)
noncomputable def H5 (k:Nat):bT K TyK:=sm cod (Bool) [.bo] [.g [.s, .i .i64, .l true .end, .l true .parcel, .s, .l true .record, .l true .record]] [] (fun k v1 v2 v3 v4 v5 v6 v7=>BB k (⟨v1,v2,v3,v4,v5,v6,v7⟩:aC)) k [.c (.b)] [] (fun r=>(r,())) (fun v1=>v1) true
noncomputable abbrev UE:List (Nat×Cut K TyK (Bool)):=[(4,ct cod [1,3] [.c (.r 0 0), .c (.i .i64)] [.x [.s, .i .i64, .l true .end, .l true .parcel, .s, .l true .record, .l true .record]] mJ)]
theorem QG (k:Nat):SummOk Tryz.prog cod 51 (H5 k):=bA aF Tryz.f51 (fun k=>aW [(54,gO k)]) UE false [.tmp 2] 0 [] mixed Tryz.func51 (by kernel_rfl) (by kernel_rfl) (by kernel_rfl) (by kernel_rfl)
  (fun k=>Known.of tok eok aF (all_cons (jI k) (aB)) gok)
  (fun k=>QuietOk.of (all_cons (fun h r=>⟨rfl,rfl⟩) (aB)))
  (fun a=>rfl)
  (all_cons (aO aF (by kernel_rfl) (by (repeat intro _);show _=_;kernel_rfl) (fun k=>by (repeat intro _);show _=_;kernel_rfl)) (aB))
  (fun k=>by (repeat intro _);show _=_;kernel_rfl)
noncomputable def BE (k:Nat):bT K TyK:=sm cod (ByteArray) [.bo] [.g [.s, .i .i64, .l true .end, .l true .parcel, .s, .l true .record, .l true .record]] [] (fun k v1 v2 v3 v4 v5 v6 v7=>uM k (⟨v1,v2,v3,v4,v5,v6,v7⟩:aC)) k [.c (.s)] [] (fun r=>(r,())) (fun v1=>v1) true
noncomputable abbrev PG:List (Nat×Cut K TyK (ByteArray)):=[(5,ct cod [1,3] [.c (.r 0 0), .c (.s)] [.x [.s, .i .i64, .l true .end, .l true .parcel, .s, .l true .record, .l true .record]] lE),
  (7,ct cod [1,3] [.c (.r 0 0), .c (.s)] [.x [.s, .i .i64, .l true .end, .l true .parcel, .s, .l true .record, .l true .record]] lN),
  (9,ct cod [3] [.c (.s)] [] lF)]
theorem LE (k:Nat):SummOk Tryz.prog cod 25 (BE k):=bA aF Tryz.f25 (fun k=>aW [(49,D3 k),(50,E5 k),(51,H5 k)]) PG false [.tmp 2] 0 [] mixed Tryz.func25 (by kernel_rfl) (by kernel_rfl) (by kernel_rfl) (by kernel_rfl)
  (fun k=>Known.of tok eok aF (all_cons (N7 k) (all_cons (OW k) (all_cons (QG k) (aB)))) gok)
  (fun k=>QuietOk.of (all_cons (fun h r=>⟨rfl,rfl⟩) (all_cons (fun h r=>⟨rfl,rfl⟩) (all_cons (fun h r=>⟨rfl,rfl⟩) (aB)))))
  (fun a=>rfl)
  (all_cons (aO aF (by kernel_rfl) (by (repeat intro _);show _=_;kernel_rfl) (fun k=>by (repeat intro _);show _=_;kernel_rfl)) (all_cons (aO aF (by kernel_rfl) (by (repeat intro _);show _=_;kernel_rfl) (fun k=>by (repeat intro _);show _=_;kernel_rfl)) (all_cons (aO aF (by kernel_rfl) (by (repeat intro _);show _=_;kernel_rfl) (fun k=>by (repeat intro _);show _=_;kernel_rfl)) (aB))))
  (fun k=>by (repeat intro _);show _=_;kernel_rfl)
noncomputable def uW (k:Nat):bT K TyK:=sm cod (List Int×Bool) [.bo] [.c (.l true .str)] [] (sS) k [.c (.o 0), .c (.b)] [.l .int] (fun r=>((),r.2,r.1,())) (fun v1 v2=>(v2,v1)) false
noncomputable abbrev FV:List (Nat×Cut K TyK (List Int×Bool)):=[(3,ct cod [0,4,5] [.c (.l true .str), .c (.o 0), .c (.i .i64)] [.l .int] eV)]
theorem DS (k:Nat):SummOk Tryz.prog cod 27 (uW k):=bA aF Tryz.f27 (fun k=>aW [(26,nA k)]) FV false [.tmp 2, .tmp 3] 0 [] mixed Tryz.func27 (by kernel_rfl) (by kernel_rfl) (by kernel_rfl) (by kernel_rfl)
  (fun k=>Known.of tok eok aF (all_cons (pA k) (aB)) gok)
  (fun k=>QuietOk.of (all_cons (fun h r=>⟨rfl,rfl⟩) (aB)))
  (fun a=>rfl)
  (all_cons (aO aF (by kernel_rfl) (by (repeat intro _);show _=_;kernel_rfl) (fun k=>by (repeat intro _);show _=_;kernel_rfl)) (aB))
  (fun k=>by (repeat intro _);show _=_;kernel_rfl)
noncomputable def yU (k:Nat):bT K TyK:=sm cod (ByteArray) [.bo] [.c (.s)] [] (wC) k [.c (.s)] [] (fun r=>(r,())) (fun v1=>v1) true
noncomputable abbrev K7:List (Nat×Cut K TyK (ByteArray)):=[(3,ct cod [0,3,4] [.c (.s), .c (.o 0), .c (.i .i64)] [.l .byte] gM),
  (4,ct cod [0,3,4] [.c (.s), .c (.o 0), .c (.i .i64)] [.l .byte] gN)]
theorem G8 (k:Nat):SummOk Tryz.prog cod 53 (yU k):=bA aF Tryz.f53 (fun k=>aW []) K7 false [.tmp 2] 0 [] mixed Tryz.func53 (by kernel_rfl) (by kernel_rfl) (by kernel_rfl) (by kernel_rfl)
  (fun k=>Known.of tok eok aF (aB) gok)
  (fun k=>QuietOk.of (aB))
  (fun a=>rfl)
  (all_cons (aO aF (by kernel_rfl) (by (repeat intro _);show _=_;kernel_rfl) (fun k=>by (repeat intro _);show _=_;kernel_rfl)) (all_cons (aO aF (by kernel_rfl) (by (repeat intro _);show _=_;kernel_rfl) (fun k=>by (repeat intro _);show _=_;kernel_rfl)) (aB)))
  (fun k=>by (repeat intro _);show _=_;kernel_rfl)
noncomputable def CC (k:Nat):bT K TyK:=sm cod (aC×ByteArray) [.mv, .bo] [.g [.s, .i .i64, .o 0, .o 1, .s, .o 2, .o 3], .c (.i .i64)] [.l .end, .l .parcel, .l .record, .l .record] (fun k v1 v2 v3 v4 v5 v6 v7 v8=>uH k (⟨v1,v2,v5,v6,v3,v7,v8⟩:aC) v4) k [.g [.s, .i .i64, .o 4, .o 5, .s, .o 6, .o 7], .c (.s)] [.d, .d, .d, .d, .l .end, .l .parcel, .l .record, .l .record] (fun r=>(r.1.Key,r.1.Width,(),(),r.1.Forged,(),(),r.2,r.1.Ends,r.1.Flight,r.1.Given,r.1.Taken,())) (fun v1 v2 v3 v4 v5 v6 v7 v8=>((⟨v1,v2,v5,v6,v3,v7,v8⟩:aC),v4)) false
theorem LR (k:Nat):SummOk Tryz.prog cod 28 (CC k):=bA aF Tryz.f28 (fun k=>aW [(52,sK k),(18,hJ k),(32,BX k),(53,yU k)]) [] false [.cell 4 33, .tmp 5] 4 [true,true,true,true] mixed Tryz.func28 (by kernel_rfl) (by kernel_rfl) (by kernel_rfl) (by kernel_rfl)
  (fun k=>Known.of tok eok aF (all_cons (wH k) (all_cons (kA k) (all_cons (DE k) (all_cons (G8 k) (aB))))) gok)
  (fun k=>QuietOk.of (all_cons (fun h r=>by cases h) (all_cons (fun h r=>⟨rfl,rfl⟩) (all_cons (fun h r=>by cases h) (all_cons (fun h r=>⟨rfl,rfl⟩) (aB))))))
  (fun a=>rfl)
  (aB)
  (fun k=>by (repeat intro _);show _=_;kernel_rfl)
noncomputable def wN (k:Nat):bT K TyK:=sm cod (List bQ×Bool) [.mv, .mv, .mv] [.c (.o 0), .g [.i .i64, .s, .s], .c (.i .i64)] [.l .l7count] (fun k v1 v2 v3 v4 v5=>pG k v5 (⟨v1,v2,v3⟩:aD) v4) k [.c (.o 1), .c (.b)] [.d, .l .l7count] (fun r=>((),r.2,r.1,())) (fun v1 v2=>(v2,v1)) false
noncomputable abbrev HV:List (Nat×Cut K TyK (List bQ×Bool)):=[(2,ct cod [0,2,4,8] [.c (.o 1), .c (.i .i64), .c (.r 2 0), .c (.i .i64)] [.d, .l .l7count, .x [.i .i64, .s, .s]] dI)]
theorem FI (k:Nat):SummOk Tryz.prog cod 57 (wN k):=bA aF Tryz.f57 (fun k=>aW []) HV false [.tmp 6, .tmp 7] 1 [true] mixed Tryz.func57 (by kernel_rfl) (by kernel_rfl) (by kernel_rfl) (by kernel_rfl)
  (fun k=>Known.of tok eok aF (aB) gok)
  (fun k=>QuietOk.of (aB))
  (fun a=>rfl)
  (all_cons (aO aF (by kernel_rfl) (by (repeat intro _);show _=_;kernel_rfl) (fun k=>by (repeat intro _);show _=_;kernel_rfl)) (aB))
  (fun k=>by (repeat intro _);show _=_;kernel_rfl)
noncomputable def J8 (k:Nat):bT K TyK:=sm cod (aC) [.bo, .bo, .bo] [.g [.s, .i .i64, .l true .end, .l true .parcel, .s, .l true .record, .l true .record], .c (.i .i64), .c (.i .i64)] [] (fun k v1 v2 v3 v4 v5 v6 v7 v8 v9=>vH k (⟨v1,v2,v3,v4,v5,v6,v7⟩:aC) v8 v9) k [.g [.s, .i .i64, .o 0, .o 1, .s, .o 2, .o 3]] [.l .end, .l .parcel, .l .record, .l .record] (fun r=>(r.Key,r.Width,(),(),r.Forged,(),(),r.Ends,r.Flight,r.Given,r.Taken,())) (fun v1 v2 v3 v4 v5 v6 v7=>(⟨v1,v2,v4,v5,v3,v6,v7⟩:aC)) false
noncomputable abbrev VS:List (Nat×Cut K TyK (aC)):=[(6,ct cod [1,2,6,7,8,9] [.c (.i .i64), .c (.i .i64), .c (.r 0 0), .c (.r 1 0), .c (.o 2), .c (.i .i64)] [.x [.s, .i .i64, .o 3, .o 4, .s, .o 5, .o 6], .x [.s, .i .i64, .o 7, .o 8, .s, .o 9, .o 10], .l .l7count, .l .end, .l .parcel, .l .record, .l .record, .l .end, .l .parcel, .l .record, .l .record] mB),
  (9,ct cod [1,2,6,7,8,9] [.c (.i .i64), .c (.i .i64), .c (.r 0 0), .c (.r 1 0), .c (.o 2), .c (.i .i64)] [.x [.s, .i .i64, .o 3, .o 4, .s, .o 5, .o 6], .x [.s, .i .i64, .o 7, .o 8, .s, .o 9, .o 10], .l .l7count, .l .end, .l .parcel, .l .record, .l .record, .l .end, .l .parcel, .l .record, .l .record] j6),
  (16,ct cod [1,2,6,7,8,9,12] [.c (.i .i64), .c (.i .i64), .c (.r 0 0), .c (.r 1 0), .c (.o 2), .c (.i .i64), .c (.i .i64)] [.x [.s, .i .i64, .o 3, .o 4, .s, .o 5, .o 6], .x [.s, .i .i64, .o 7, .o 8, .s, .o 9, .o 10], .l .l7count, .l .end, .l .parcel, .l .record, .l .record, .l .end, .l .parcel, .l .record, .l .record] eN),
  (19,ct cod [1,2,6,7,8,9,12,13] [.c (.i .i64), .c (.i .i64), .c (.r 0 0), .c (.r 1 0), .c (.o 2), .c (.i .i64), .c (.i .i64), .c (.i .i64)] [.x [.s, .i .i64, .o 3, .o 4, .s, .o 5, .o 6], .x [.s, .i .i64, .o 7, .o 8, .s, .o 9, .o 10], .l .l7count, .l .end, .l .parcel, .l .record, .l .record, .l .end, .l .parcel, .l .record, .l .record] kE)]
theorem RE (k:Nat):SummOk Tryz.prog cod 29 (J8 k):=bA aF Tryz.f29 (fun k=>aW [(54,gO k),(22,cM k),(55,uL k),(56,tU k),(57,wN k),(58,sV k),(59,lR k),(60,wV k)]) VS false [.cell 6 33] 0 [] mixed Tryz.func29 (by kernel_rfl) (by kernel_rfl) (by kernel_rfl) (by kernel_rfl)
  (fun k=>Known.of tok eok aF (all_cons (jI k) (all_cons (cF k) (all_cons (zC k) (all_cons (yI k) (all_cons (FI k) (all_cons (vJ k) (all_cons (oC k) (all_cons (BQ k) (aB))))))))) gok)
  (fun k=>QuietOk.of (all_cons (fun h r=>⟨rfl,rfl⟩) (all_cons (fun h r=>⟨rfl,rfl⟩) (all_cons (fun h r=>by cases h) (all_cons (fun h r=>by cases h) (all_cons (fun h r=>by cases h) (all_cons (fun h r=>by cases h) (all_cons (fun h r=>by cases h) (all_cons (fun h r=>by cases h) (aB))))))))))
  (fun a=>rfl)
  (all_cons (aO aF (by kernel_rfl) (by (repeat intro _);show _=_;kernel_rfl) (fun k=>by (repeat intro _);show _=_;kernel_rfl)) (all_cons (aO aF (by kernel_rfl) (by (repeat intro _);show _=_;kernel_rfl) (fun k=>by (repeat intro _);show _=_;kernel_rfl)) (all_cons (aO aF (by kernel_rfl) (by (repeat intro _);show _=_;kernel_rfl) (fun k=>by (repeat intro _);show _=_;kernel_rfl)) (all_cons (aO aF (by kernel_rfl) (by (repeat intro _);show _=_;kernel_rfl) (fun k=>by (repeat intro _);show _=_;kernel_rfl)) (aB)))))
  (fun k=>by (repeat intro _);show _=_;kernel_rfl)
noncomputable def vX (k:Nat):bT K TyK:=sm cod (ByteArray) [.bo] [.g [.s, .i .i64, .l true .end, .l true .parcel, .s, .l true .record, .l true .record]] [] (fun k v1 v2 v3 v4 v5 v6 v7=>hZ k (⟨v1,v2,v3,v4,v5,v6,v7⟩:aC)) k [.c (.s)] [] (fun r=>(r,())) (fun v1=>v1) true
theorem F6 (k:Nat):SummOk Tryz.prog cod 30 (vX k):=bA aF Tryz.f30 (fun k=>aW [(18,hJ k)]) [] false [.tmp 2] 0 [] mixed Tryz.func30 (by kernel_rfl) (by kernel_rfl) (by kernel_rfl) (by kernel_rfl)
  (fun k=>Known.of tok eok aF (all_cons (kA k) (aB)) gok)
  (fun k=>QuietOk.of (all_cons (fun h r=>⟨rfl,rfl⟩) (aB)))
  (fun a=>rfl)
  (aB)
  (fun k=>by (repeat intro _);show _=_;kernel_rfl)
noncomputable def BZ (k:Nat):bT K TyK:=sm cod (Int×Int) [.bo] [.c (.s)] [] (tR) k [.c (.i .i64), .c (.i .i64)] [] (fun r=>(r.1,r.2,())) (fun v1 v2=>(v1,v2)) true
theorem LG (k:Nat):SummOk Tryz.prog cod 31 (BZ k):=bA aF Tryz.f31 (fun k=>aW []) [] false [.tmp 2, .tmp 3] 0 [] mixed Tryz.func31 (by kernel_rfl) (by kernel_rfl) (by kernel_rfl) (by kernel_rfl)
  (fun k=>Known.of tok eok aF (aB) gok)
  (fun k=>QuietOk.of (aB))
  (fun a=>rfl)
  (aB)
  (fun k=>by (repeat intro _);show _=_;kernel_rfl)
noncomputable def A5 (k:Nat):bT K TyK:=sm cod (aC×ByteArray) [.mv, .bo] [.g [.s, .i .i64, .o 0, .o 1, .s, .o 2, .o 3], .c (.s)] [.l .end, .l .parcel, .l .record, .l .record] (fun k v1 v2 v3 v4 v5 v6 v7 v8=>qK k (⟨v1,v2,v5,v6,v3,v7,v8⟩:aC) v4) k [.g [.s, .i .i64, .o 4, .o 5, .s, .o 6, .o 7], .c (.s)] [.d, .d, .d, .d, .l .end, .l .parcel, .l .record, .l .record] (fun r=>(r.1.Key,r.1.Width,(),(),r.1.Forged,(),(),r.2,r.1.Ends,r.1.Flight,r.1.Given,r.1.Taken,())) (fun v1 v2 v3 v4 v5 v6 v7 v8=>((⟨v1,v2,v5,v6,v3,v7,v8⟩:aC),v4)) false
noncomputable abbrev OM:List (Nat×Cut K TyK (aC×ByteArray)):=[(3,ct cod [1,2,4] [.c (.s), .c (.r 4 0), .c (.r 5 0)] [.d, .d, .d, .d, .x [.s, .i .i64, .o 6, .o 7, .s, .o 8, .o 9], .x [.s, .i .i64, .o 10, .o 11, .s, .o 12, .o 13], .l .end, .l .parcel, .l .record, .l .record, .l .end, .l .parcel, .l .record, .l .record] lM),
  (14,ct cod [2,4,6] [.c (.r 4 0), .c (.r 5 0), .c (.o 6)] [.d, .d, .d, .d, .x [.s, .i .i64, .o 7, .o 8, .s, .o 9, .o 10], .x [.s, .i .i64, .o 11, .o 12, .s, .o 13, .o 14], .l .str, .l .end, .l .parcel, .l .record, .l .record, .l .end, .l .parcel, .l .record, .l .record] fA),
  (19,ct cod [2,4,6,9] [.c (.r 4 0), .c (.r 5 0), .c (.o 6), .c (.o 7)] [.d, .d, .d, .d, .x [.s, .i .i64, .o 8, .o 9, .s, .o 10, .o 11], .x [.s, .i .i64, .o 12, .o 13, .s, .o 14, .o 15], .l .str, .l .int, .l .end, .l .parcel, .l .record, .l .record, .l .end, .l .parcel, .l .record, .l .record] jO),
  (24,ct cod [2,4,6,9] [.c (.r 4 0), .c (.r 5 0), .c (.o 6), .c (.o 7)] [.d, .d, .d, .d, .x [.s, .i .i64, .o 8, .o 9, .s, .o 10, .o 11], .x [.s, .i .i64, .o 12, .o 13, .s, .o 14, .o 15], .l .str, .l .int, .l .end, .l .parcel, .l .record, .l .record, .l .end, .l .parcel, .l .record, .l .record] jV)]
theorem LU (k:Nat):SummOk Tryz.prog cod 10 (A5 k):=bA aF Tryz.f10 (fun k=>aW [(24,BW k),(8,wW k),(25,BE k),(26,nA k),(9,qR k),(27,uW k),(28,CC k),(29,J8 k),(30,vX k),(31,BZ k),(32,BX k)]) OM false [.cell 4 33, .tmp 5] 4 [true,true,true,true] mixed Tryz.func10 (by kernel_rfl) (by kernel_rfl) (by kernel_rfl) (by kernel_rfl)
  (fun k=>Known.of tok eok aF (all_cons (KV k) (all_cons (AZ k) (all_cons (LE k) (all_cons (pA k) (all_cons (vB k) (all_cons (DS k) (all_cons (LR k) (all_cons (RE k) (all_cons (F6 k) (all_cons (LG k) (all_cons (DE k) (aB)))))))))))) gok)
  (fun k=>QuietOk.of (all_cons (fun h r=>by cases h) (all_cons (fun h r=>by cases h) (all_cons (fun h r=>⟨rfl,rfl⟩) (all_cons (fun h r=>⟨rfl,rfl⟩) (all_cons (fun h r=>by cases h) (all_cons (fun h r=>by cases h) (all_cons (fun h r=>by cases h) (all_cons (fun h r=>by cases h) (all_cons (fun h r=>⟨rfl,rfl⟩) (all_cons (fun h r=>⟨rfl,rfl⟩) (all_cons (fun h r=>by cases h) (aB)))))))))))))
  (fun a=>rfl)
  (all_cons (aO aF (by kernel_rfl) (by (repeat intro _);show _=_;kernel_rfl) (fun k=>by (repeat intro _);show _=_;kernel_rfl)) (all_cons (aO aF (by kernel_rfl) (by (repeat intro _);show _=_;kernel_rfl) (fun k=>by (repeat intro _);show _=_;kernel_rfl)) (all_cons (aO aF (by kernel_rfl) (by (repeat intro _);show _=_;kernel_rfl) (fun k=>by (repeat intro _);show _=_;kernel_rfl)) (all_cons (aO aF (by kernel_rfl) (by (repeat intro _);show _=_;kernel_rfl) (fun k=>by (repeat intro _);show _=_;kernel_rfl)) (aB)))))
  (fun k=>by (repeat intro _);show _=_;kernel_rfl)
noncomputable def yP (k:Nat):bT K TyK:=sm cod (ByteArray) [.bo] [.c (.s)] [] (rR) k [.c (.s)] [] (fun r=>(r,())) (fun v1=>v1) true
noncomputable abbrev K4:List (Nat×Cut K TyK (ByteArray)):=[(6,ct cod [0,3] [.c (.s), .c (.o 0)] [.l .str] eZ),
  (11,ct cod [3,4,5,6] [.c (.o 0), .c (.r 1 0), .c (.o 2), .c (.i .i64)] [.l .str, .x [.s, .i .i64, .o 3, .o 4, .s, .o 5, .o 6], .l .byte, .l .end, .l .parcel, .l .record, .l .record] eH)]
theorem H0 (k:Nat):SummOk Tryz.prog cod 5 (yP k):=bA aF Tryz.f5 (fun k=>aW [(8,wW k),(9,qR k),(10,A5 k)]) K4 false [.tmp 2] 0 [] mixed Tryz.func5 (by kernel_rfl) (by kernel_rfl) (by kernel_rfl) (by kernel_rfl)
  (fun k=>Known.of tok eok aF (all_cons (AZ k) (all_cons (vB k) (all_cons (LU k) (aB)))) gok)
  (fun k=>QuietOk.of (all_cons (fun h r=>by cases h) (all_cons (fun h r=>by cases h) (all_cons (fun h r=>by cases h) (aB)))))
  (fun a=>rfl)
  (all_cons (aO aF (by kernel_rfl) (by (repeat intro _);show _=_;kernel_rfl) (fun k=>by (repeat intro _);show _=_;kernel_rfl)) (all_cons (aO aF (by kernel_rfl) (by (repeat intro _);show _=_;kernel_rfl) (fun k=>by (repeat intro _);show _=_;kernel_rfl)) (aB)))
  (fun k=>by (repeat intro _);show _=_;kernel_rfl)
noncomputable def A4 (k:Nat):bT K TyK:=sm cod (aN) [.bo] [.c (.i .i64)] [] (qD) k [.g [.i .i64, .b, .i .i64, .i .i64, .i .i64, .b, .i .i64, .o 0, .i .i64, .o 1, .s, .o 2]] [.l .item, .l .held, .l .str] (fun r=>(r.Number,r.Up,r.Life,r.Peer,r.Since,r.Owes,r.Send.Base,(),r.Take.Next,(),r.Take.Open,(),r.Send.Items,r.Take.Held,r.Take.Ready,())) (fun v1 v2 v3 v4 v5 v6 v7 v8 v9 v10 v11 v12=>(⟨v1,v2,v3,v4,v5,v6,(⟨v7,v10⟩:aK),(⟨v8,v11,v9,v12⟩:aM)⟩:aN)) false
theorem LW (k:Nat):SummOk Tryz.prog cod 34 (A4 k):=bA aF Tryz.f34 (fun k=>aW []) [] false [.cell 2 61] 0 [] mixed Tryz.func34 (by kernel_rfl) (by kernel_rfl) (by kernel_rfl) (by kernel_rfl)
  (fun k=>Known.of tok eok aF (aB) gok)
  (fun k=>QuietOk.of (aB))
  (fun a=>rfl)
  (aB)
  (fun k=>by (repeat intro _);show _=_;kernel_rfl)
noncomputable def qE (k:Nat):bT K TyK:=sm cod (aC) [.bo, .bo] [.c (.s), .c (.i .i64)] [] (nF) k [.g [.s, .i .i64, .o 0, .o 1, .s, .o 2, .o 3]] [.l .end, .l .parcel, .l .record, .l .record] (fun r=>(r.Key,r.Width,(),(),r.Forged,(),(),r.Ends,r.Flight,r.Given,r.Taken,())) (fun v1 v2 v3 v4 v5 v6 v7=>(⟨v1,v2,v4,v5,v3,v6,v7⟩:aC)) false
theorem u6 (k:Nat):SummOk Tryz.prog cod 12 (qE k):=bA aF Tryz.f12 (fun k=>aW [(34,A4 k)]) [] false [.cell 4 33] 0 [] mixed Tryz.func12 (by kernel_rfl) (by kernel_rfl) (by kernel_rfl) (by kernel_rfl)
  (fun k=>Known.of tok eok aF (all_cons (LW k) (aB)) gok)
  (fun k=>QuietOk.of (all_cons (fun h r=>by cases h) (aB)))
  (fun a=>rfl)
  (aB)
  (fun k=>by (repeat intro _);show _=_;kernel_rfl)
noncomputable def yO (k:Nat):bT K TyK:=sm cod (Int×Bool) [.bo] [.c (.s)] [] (mI) k [.c (.i .i64), .c (.b)] [] (fun r=>(r.1,r.2,())) (fun v1 v2=>(v1,v2)) true
noncomputable abbrev LL:List (Nat×Cut K TyK (Int×Bool)):=[(4,ct cod [0,4] [.c (.s), .c (.i .i64)] [] fD)]
theorem G5 (k:Nat):SummOk Tryz.prog cod 37 (yO k):=bA aF Tryz.f37 (fun k=>aW [(66,yR k)]) LL false [.tmp 2, .tmp 3] 0 [] mixed Tryz.func37 (by kernel_rfl) (by kernel_rfl) (by kernel_rfl) (by kernel_rfl)
  (fun k=>Known.of tok eok aF (all_cons (JK k) (aB)) gok)
  (fun k=>QuietOk.of (all_cons (fun h r=>⟨rfl,rfl⟩) (aB)))
  (fun a=>rfl)
  (all_cons (aO aF (by kernel_rfl) (by (repeat intro _);show _=_;kernel_rfl) (fun k=>by (repeat intro _);show _=_;kernel_rfl)) (aB))
  (fun k=>by (repeat intro _);show _=_;kernel_rfl)
noncomputable def oS (k:Nat):bT K TyK:=sm cod (Bool) [.bo, .bo, .bo] [.c (.i .i64), .c (.i .i64), .c (.i .i64)] [] (bP) k [.c (.b)] [] (fun r=>(r,())) (fun v1=>v1) true
theorem oF (k:Nat):SummOk Tryz.prog cod 100 (oS k):=bA aF Tryz.f100 (fun k=>aW []) [] false [.tmp 6] 0 [] mixed Tryz.func100 (by kernel_rfl) (by kernel_rfl) (by kernel_rfl) (by kernel_rfl)
  (fun k=>Known.of tok eok aF (aB) gok)
  (fun k=>QuietOk.of (aB))
  (fun a=>rfl)
  (aB)
  (fun k=>by (repeat intro _);show _=_;kernel_rfl)
noncomputable def iP (k:Nat):bT K TyK:=sm cod (Bool) [.bo] [.g [.i .i64, .l true .item]] [] (fun k v1 v2=>cQ k (⟨v1,v2⟩:aK)) k [.c (.b)] [] (fun r=>(r,())) (fun v1=>v1) true
noncomputable abbrev FQ:List (Nat×Cut K TyK (Bool)):=[(4,ct cod [25,26,27] [.c (.l true .item), .c (.i .i64), .c (.i .i64)] [] c8)]
theorem kM (k:Nat):SummOk Tryz.prog cod 101 (iP k):=bA aF Tryz.f101 (fun k=>aW [(100,oS k)]) FQ false [.tmp 2] 0 [] mixed Tryz.func101 (by kernel_rfl) (by kernel_rfl) (by kernel_rfl) (by kernel_rfl)
  (fun k=>Known.of tok eok aF (all_cons (oF k) (aB)) gok)
  (fun k=>QuietOk.of (all_cons (fun h r=>⟨rfl,rfl⟩) (aB)))
  (fun a=>rfl)
  (all_cons (aO aF (by kernel_rfl) (by (repeat intro _);show _=_;kernel_rfl) (fun k=>by (repeat intro _);show _=_;kernel_rfl)) (aB))
  (fun k=>by (repeat intro _);show _=_;kernel_rfl)
noncomputable def AK (k:Nat):bT K TyK:=sm cod (Bool) [.bo, .bo] [.g [.i .i64, .l true .held, .s, .l true .str], .g [.s, .b]] [] (fun k v1 v2 v3 v4 v5 v6=>qY k (⟨v1,v2,v3,v4⟩:aM) (⟨v5,v6⟩:bV)) k [.c (.b)] [] (fun r=>(r,())) (fun v1=>v1) true
theorem E3 (k:Nat):SummOk Tryz.prog cod 140 (AK k):=bA aF Tryz.f140 (fun k=>aW []) [] false [.tmp 4] 0 [] mixed Tryz.func140 (by kernel_rfl) (by kernel_rfl) (by kernel_rfl) (by kernel_rfl)
  (fun k=>Known.of tok eok aF (aB) gok)
  (fun k=>QuietOk.of (aB))
  (fun a=>rfl)
  (aB)
  (fun k=>by (repeat intro _);show _=_;kernel_rfl)
noncomputable def iN (k:Nat):bT K TyK:=sm cod (Bool) [.bo] [.g [.i .i64, .l true .held, .s, .l true .str]] [] (fun k v1 v2 v3 v4=>dS k (⟨v1,v2,v3,v4⟩:aM)) k [.c (.b)] [] (fun r=>(r,())) (fun v1=>v1) true
noncomputable abbrev GB:List (Nat×Cut K TyK (Bool)):=[(4,ct cod [1,30,31,32] [.c (.r 0 0), .c (.l true .held), .c (.i .i64), .c (.i .i64)] [.x [.i .i64, .l true .held, .s, .l true .str]] bM),
  (12,ct cod [88,89,90] [.c (.l true .str), .c (.i .i64), .c (.i .i64)] [] d9)]
theorem kL (k:Nat):SummOk Tryz.prog cod 102 (iN k):=bA aF Tryz.f102 (fun k=>aW [(100,oS k),(140,AK k)]) GB false [.tmp 2] 0 [] mixed Tryz.func102 (by kernel_rfl) (by kernel_rfl) (by kernel_rfl) (by kernel_rfl)
  (fun k=>Known.of tok eok aF (all_cons (oF k) (all_cons (E3 k) (aB))) gok)
  (fun k=>QuietOk.of (all_cons (fun h r=>⟨rfl,rfl⟩) (all_cons (fun h r=>⟨rfl,rfl⟩) (aB))))
  (fun a=>rfl)
  (all_cons (aO aF (by kernel_rfl) (by (repeat intro _);show _=_;kernel_rfl) (fun k=>by (repeat intro _);show _=_;kernel_rfl)) (all_cons (aO aF (by kernel_rfl) (by (repeat intro _);show _=_;kernel_rfl) (fun k=>by (repeat intro _);show _=_;kernel_rfl)) (aB)))
  (fun k=>by (repeat intro _);show _=_;kernel_rfl)
noncomputable def BI (k:Nat):bT K TyK:=sm cod (Bool) [.bo] [.g [.i .i64, .l true .item]] [] (fun k v1 v2=>tX k (⟨v1,v2⟩:aK)) k [.c (.b)] [] (fun r=>(r,())) (fun v1=>v1) true
theorem LP (k:Nat):SummOk Tryz.prog cod 103 (BI k):=bA aF Tryz.f103 (fun k=>aW []) [] false [.tmp 2] 0 [] mixed Tryz.func103 (by kernel_rfl) (by kernel_rfl) (by kernel_rfl) (by kernel_rfl)
  (fun k=>Known.of tok eok aF (aB) gok)
  (fun k=>QuietOk.of (aB))
  (fun a=>rfl)
  (aB)
  (fun k=>by (repeat intro _);show _=_;kernel_rfl)
noncomputable def BR (k:Nat):bT K TyK:=sm cod (Bool) [.bo] [.g [.i .i64, .l true .held, .s, .l true .str]] [] (fun k v1 v2 v3 v4=>tS k (⟨v1,v2,v3,v4⟩:aM)) k [.c (.b)] [] (fun r=>(r,())) (fun v1=>v1) true
theorem LJ (k:Nat):SummOk Tryz.prog cod 104 (BR k):=bA aF Tryz.f104 (fun k=>aW []) [] false [.tmp 2] 0 [] mixed Tryz.func104 (by kernel_rfl) (by kernel_rfl) (by kernel_rfl) (by kernel_rfl)
  (fun k=>Known.of tok eok aF (aB) gok)
  (fun k=>QuietOk.of (aB))
  (fun a=>rfl)
  (aB)
  (fun k=>by (repeat intro _);show _=_;kernel_rfl)
noncomputable def d4 (k:Nat):bT K TyK:=sm cod (Bool) [.bo] [.g [.i .i64, .b, .i .i64, .i .i64, .i .i64, .b, .i .i64, .l true .item, .i .i64, .l true .held, .s, .l true .str]] [] (fun k v1 v2 v3 v4 v5 v6 v7 v8 v9 v10 v11 v12=>dU k (⟨v1,v2,v3,v4,v5,v6,(⟨v7,v8⟩:aK),(⟨v9,v10,v11,v12⟩:aM)⟩:aN)) k [.c (.b)] [] (fun r=>(r,())) (fun v1=>v1) true
theorem eE (k:Nat):SummOk Tryz.prog cod 67 (d4 k):=bA aF Tryz.f67 (fun k=>aW [(100,oS k),(101,iP k),(102,iN k),(103,BI k),(104,BR k)]) [] false [.tmp 2] 0 [] mixed Tryz.func67 (by kernel_rfl) (by kernel_rfl) (by kernel_rfl) (by kernel_rfl)
  (fun k=>Known.of tok eok aF (all_cons (oF k) (all_cons (kM k) (all_cons (kL k) (all_cons (LP k) (all_cons (LJ k) (aB)))))) gok)
  (fun k=>QuietOk.of (all_cons (fun h r=>⟨rfl,rfl⟩) (all_cons (fun h r=>⟨rfl,rfl⟩) (all_cons (fun h r=>⟨rfl,rfl⟩) (all_cons (fun h r=>⟨rfl,rfl⟩) (all_cons (fun h r=>⟨rfl,rfl⟩) (aB)))))))
  (fun a=>rfl)
  (aB)
  (fun k=>by (repeat intro _);show _=_;kernel_rfl)
noncomputable def NI (k:Nat):bT K TyK:=sm cod (List bV) [.bo] [.c (.s)] [] (BF) k [.c (.o 0)] [.l .part] (fun r=>((),r,())) (fun v1=>v1) false
noncomputable abbrev X8:List (Nat×Cut K TyK (List bV)):=[(4,ct cod [0,3] [.c (.s), .c (.o 0)] [.l .part] qX)]
theorem TS (k:Nat):SummOk Tryz.prog cod 105 (NI k):=bA aF Tryz.f105 (fun k=>aW []) X8 false [.tmp 2] 0 [] mixed Tryz.func105 (by kernel_rfl) (by kernel_rfl) (by kernel_rfl) (by kernel_rfl)
  (fun k=>Known.of tok eok aF (aB) gok)
  (fun k=>QuietOk.of (aB))
  (fun a=>rfl)
  (all_cons (aO aF (by kernel_rfl) (by (repeat intro _);show _=_;kernel_rfl) (fun k=>by (repeat intro _);show _=_;kernel_rfl)) (aB))
  (fun k=>by (repeat intro _);show _=_;kernel_rfl)
noncomputable def j5 (k:Nat):bT K TyK:=sm cod (aK) [.bo] [.g [.i .i64, .l true .item]] [] (fun k v1 v2=>kK k (⟨v1,v2⟩:aK)) k [.g [.i .i64, .o 0]] [.l .item] (fun r=>(r.Base,(),r.Items,())) (fun v1 v2=>(⟨v1,v2⟩:aK)) false
theorem lO (k:Nat):SummOk Tryz.prog cod 106 (j5 k):=bA aF Tryz.f106 (fun k=>aW []) [] false [.cell 2 56] 0 [] mixed Tryz.func106 (by kernel_rfl) (by kernel_rfl) (by kernel_rfl) (by kernel_rfl)
  (fun k=>Known.of tok eok aF (aB) gok)
  (fun k=>QuietOk.of (aB))
  (fun a=>rfl)
  (aB)
  (fun k=>by (repeat intro _);show _=_;kernel_rfl)
noncomputable def wF (k:Nat):bT K TyK:=sm cod (aK×Int) [.bo, .bo] [.g [.i .i64, .l true .item], .c (.s)] [] (fun k v1 v2 v3=>pJ k (⟨v1,v2⟩:aK) v3) k [.g [.i .i64, .o 0], .c (.i .i64)] [.l .item] (fun r=>(r.1.Base,(),r.2,r.1.Items,())) (fun v1 v2 v3=>((⟨v1,v3⟩:aK),v2)) false
noncomputable abbrev JC:List (Nat×Cut K TyK (aK×Int)):=[(9,ct cod [4,8,40,41,42] [.c (.r 0 0), .c (.r 1 0), .c (.o 2), .c (.i .i64), .c (.i .i64)] [.x [.i .i64, .o 3], .x [.i .i64, .o 4], .l .part, .l .item, .l .item] fH)]
theorem FU (k:Nat):SummOk Tryz.prog cod 68 (wF k):=bA aF Tryz.f68 (fun k=>aW [(101,iP k),(105,NI k),(106,j5 k)]) JC false [.cell 4 56, .tmp 5] 0 [] mixed Tryz.func68 (by kernel_rfl) (by kernel_rfl) (by kernel_rfl) (by kernel_rfl)
  (fun k=>Known.of tok eok aF (all_cons (kM k) (all_cons (TS k) (all_cons (lO k) (aB)))) gok)
  (fun k=>QuietOk.of (all_cons (fun h r=>⟨rfl,rfl⟩) (all_cons (fun h r=>by cases h) (all_cons (fun h r=>by cases h) (aB)))))
  (fun a=>rfl)
  (all_cons (aO aF (by kernel_rfl) (by (repeat intro _);show _=_;kernel_rfl) (fun k=>by (repeat intro _);show _=_;kernel_rfl)) (aB))
  (fun k=>by (repeat intro _);show _=_;kernel_rfl)
noncomputable def mU (k:Nat):bT K TyK:=sm cod (aM) [.bo] [.g [.i .i64, .l true .held, .s, .l true .str]] [] (fun k v1 v2 v3 v4=>nD k (⟨v1,v2,v3,v4⟩:aM)) k [.g [.i .i64, .o 0, .s, .o 1]] [.l .held, .l .str] (fun r=>(r.Next,(),r.Open,(),r.Held,r.Ready,())) (fun v1 v2 v3 v4=>(⟨v1,v3,v2,v4⟩:aM)) false
theorem oY (k:Nat):SummOk Tryz.prog cod 107 (mU k):=bA aF Tryz.f107 (fun k=>aW []) [] false [.cell 2 59] 0 [] mixed Tryz.func107 (by kernel_rfl) (by kernel_rfl) (by kernel_rfl) (by kernel_rfl)
  (fun k=>Known.of tok eok aF (aB) gok)
  (fun k=>QuietOk.of (aB))
  (fun a=>rfl)
  (aB)
  (fun k=>by (repeat intro _);show _=_;kernel_rfl)
noncomputable def gF (k:Nat):bT K TyK:=sm cod (aN) [.bo] [.g [.i .i64, .b, .i .i64, .i .i64, .i .i64, .b, .i .i64, .l true .item, .i .i64, .l true .held, .s, .l true .str]] [] (fun k v1 v2 v3 v4 v5 v6 v7 v8 v9 v10 v11 v12=>gC k (⟨v1,v2,v3,v4,v5,v6,(⟨v7,v8⟩:aK),(⟨v9,v10,v11,v12⟩:aM)⟩:aN)) k [.g [.i .i64, .b, .i .i64, .i .i64, .i .i64, .b, .i .i64, .o 0, .i .i64, .o 1, .s, .o 2]] [.l .item, .l .held, .l .str] (fun r=>(r.Number,r.Up,r.Life,r.Peer,r.Since,r.Owes,r.Send.Base,(),r.Take.Next,(),r.Take.Open,(),r.Send.Items,r.Take.Held,r.Take.Ready,())) (fun v1 v2 v3 v4 v5 v6 v7 v8 v9 v10 v11 v12=>(⟨v1,v2,v3,v4,v5,v6,(⟨v7,v10⟩:aK),(⟨v8,v11,v9,v12⟩:aM)⟩:aN)) false
theorem gR (k:Nat):SummOk Tryz.prog cod 69 (gF k):=bA aF Tryz.f69 (fun k=>aW [(106,j5 k),(107,mU k)]) [] false [.cell 2 61] 0 [] mixed Tryz.func69 (by kernel_rfl) (by kernel_rfl) (by kernel_rfl) (by kernel_rfl)
  (fun k=>Known.of tok eok aF (all_cons (lO k) (all_cons (oY k) (aB))) gok)
  (fun k=>QuietOk.of (all_cons (fun h r=>by cases h) (all_cons (fun h r=>by cases h) (aB))))
  (fun a=>rfl)
  (aB)
  (fun k=>by (repeat intro _);show _=_;kernel_rfl)
noncomputable def sL (k:Nat):bT K TyK:=sm cod (aV) [.bo, .bo] [.g [.i .i64, .b, .i .i64, .i .i64, .i .i64, .b, .i .i64, .l true .item, .i .i64, .l true .held, .s, .l true .str], .c (.s)] [] (fun k v1 v2 v3 v4 v5 v6 v7 v8 v9 v10 v11 v12 v13=>fV k (⟨v1,v2,v3,v4,v5,v6,(⟨v7,v8⟩:aK),(⟨v9,v10,v11,v12⟩:aM)⟩:aN) v13) k [.g [.i .i64, .i .i64, .b, .i .i64, .i .i64, .i .i64, .b, .i .i64, .o 0, .i .i64, .o 1, .s, .o 2, .o 3, .s]] [.l .item, .l .held, .l .str, .l .packet] (fun r=>(r.Code,r.End.Number,r.End.Up,r.End.Life,r.End.Peer,r.End.Since,r.End.Owes,r.End.Send.Base,(),r.End.Take.Next,(),r.End.Take.Open,(),(),r.Text,r.End.Send.Items,r.End.Take.Held,r.End.Take.Ready,r.Out,())) (fun v1 v2 v3 v4 v5 v6 v7 v8 v9 v10 v11 v12 v13 v14 v15=>(⟨v1,(⟨v2,v3,v4,v5,v6,v7,(⟨v8,v12⟩:aK),(⟨v9,v13,v10,v14⟩:aM)⟩:aN),v15,v11⟩:aV)) false
theorem vO (k:Nat):SummOk Tryz.prog cod 38 (sL k):=bA aF Tryz.f38 (fun k=>aW [(67,d4 k),(68,wF k),(69,gF k)]) [] false [.cell 4 82] 0 [] mixed Tryz.func38 (by kernel_rfl) (by kernel_rfl) (by kernel_rfl) (by kernel_rfl)
  (fun k=>Known.of tok eok aF (all_cons (eE k) (all_cons (FU k) (all_cons (gR k) (aB)))) gok)
  (fun k=>QuietOk.of (all_cons (fun h r=>⟨rfl,rfl⟩) (all_cons (fun h r=>by cases h) (all_cons (fun h r=>by cases h) (aB)))))
  (fun a=>rfl)
  (aB)
  (fun k=>by (repeat intro _);show _=_;kernel_rfl)
noncomputable def hD (k:Nat):bT K TyK:=sm cod (Bool) [.bo] [.g [.s, .i .i64, .l true .end, .l true .parcel, .s, .l true .record, .l true .record]] [] (fun k v1 v2 v3 v4 v5 v6 v7=>eX k (⟨v1,v2,v3,v4,v5,v6,v7⟩:aC)) k [.c (.b)] [] (fun r=>(r,())) (fun v1=>v1) true
noncomputable abbrev DY:List (Nat×Cut K TyK (Bool)):=[(4,ct cod [1,48,49,50] [.c (.r 0 0), .c (.l true .end), .c (.i .i64), .c (.i .i64)] [.x [.s, .i .i64, .l true .end, .l true .parcel, .s, .l true .record, .l true .record]] d7),
  (10,ct cod [1,67,68,69] [.c (.r 0 0), .c (.l true .parcel), .c (.i .i64), .c (.i .i64)] [.x [.s, .i .i64, .l true .end, .l true .parcel, .s, .l true .record, .l true .record]] cB),
  (16,ct cod [98,99,100] [.c (.o 0), .c (.i .i64), .c (.i .i64)] [.l .lrecord] cE),
  (19,ct cod [98,99,100,104,105,106] [.c (.o 0), .c (.i .i64), .c (.i .i64), .c (.l true .record), .c (.i .i64), .c (.i .i64)] [.l .lrecord] cC)]
theorem jK (k:Nat):SummOk Tryz.prog cod 70 (hD k):=bA aF Tryz.f70 (fun k=>aW [(67,d4 k),(100,oS k)]) DY false [.tmp 2] 0 [] mixed Tryz.func70 (by kernel_rfl) (by kernel_rfl) (by kernel_rfl) (by kernel_rfl)
  (fun k=>Known.of tok eok aF (all_cons (eE k) (all_cons (oF k) (aB))) gok)
  (fun k=>QuietOk.of (all_cons (fun h r=>⟨rfl,rfl⟩) (all_cons (fun h r=>⟨rfl,rfl⟩) (aB))))
  (fun a=>rfl)
  (all_cons (aO aF (by kernel_rfl) (by (repeat intro _);show _=_;kernel_rfl) (fun k=>by (repeat intro _);show _=_;kernel_rfl)) (all_cons (aO aF (by kernel_rfl) (by (repeat intro _);show _=_;kernel_rfl) (fun k=>by (repeat intro _);show _=_;kernel_rfl)) (all_cons (aO aF (by kernel_rfl) (by (repeat intro _);show _=_;kernel_rfl) (fun k=>by (repeat intro _);show _=_;kernel_rfl)) (all_cons (aO aF (by kernel_rfl) (by (repeat intro _);show _=_;kernel_rfl) (fun k=>by (repeat intro _);show _=_;kernel_rfl)) (aB)))))
  (fun k=>by (repeat intro _);show _=_;kernel_rfl)
noncomputable def o8 (k:Nat):bT K TyK:=sm cod (aC) [.bo] [.g [.s, .i .i64, .l true .end, .l true .parcel, .s, .l true .record, .l true .record]] [] (fun k v1 v2 v3 v4 v5 v6 v7=>kY k (⟨v1,v2,v3,v4,v5,v6,v7⟩:aC)) k [.g [.s, .i .i64, .o 0, .o 1, .s, .o 2, .o 3]] [.l .end, .l .parcel, .l .record, .l .record] (fun r=>(r.Key,r.Width,(),(),r.Forged,(),(),r.Ends,r.Flight,r.Given,r.Taken,())) (fun v1 v2 v3 v4 v5 v6 v7=>(⟨v1,v2,v4,v5,v3,v6,v7⟩:aC)) false
noncomputable abbrev FT:List (Nat×Cut K TyK (aC)):=[(3,ct cod [1,2,10,11] [.c (.r 0 0), .c (.r 1 0), .c (.i .i64), .c (.i .i64)] [.x [.s, .i .i64, .o 2, .l true .parcel, .s, .l true .record, .l true .record], .x [.s, .i .i64, .o 3, .o 4, .s, .o 5, .o 6], .l .end, .l .end, .l .parcel, .l .record, .l .record] eU)]
theorem tP (k:Nat):SummOk Tryz.prog cod 71 (o8 k):=bA aF Tryz.f71 (fun k=>aW [(69,gF k)]) FT false [.cell 2 33] 0 [] mixed Tryz.func71 (by kernel_rfl) (by kernel_rfl) (by kernel_rfl) (by kernel_rfl)
  (fun k=>Known.of tok eok aF (all_cons (gR k) (aB)) gok)
  (fun k=>QuietOk.of (all_cons (fun h r=>by cases h) (aB)))
  (fun a=>rfl)
  (all_cons (aO aF (by kernel_rfl) (by (repeat intro _);show _=_;kernel_rfl) (fun k=>by (repeat intro _);show _=_;kernel_rfl)) (aB))
  (fun k=>by (repeat intro _);show _=_;kernel_rfl)
noncomputable def wD (k:Nat):bT K TyK:=sm cod (aK×List Int) [.bo] [.g [.i .i64, .l true .item]] [] (fun k v1 v2=>pW k (⟨v1,v2⟩:aK)) k [.g [.i .i64, .o 0], .c (.o 1)] [.l .item, .l .int] (fun r=>(r.1.Base,(),(),r.1.Items,r.2,())) (fun v1 v2 v3=>((⟨v1,v2⟩:aK),v3)) false
noncomputable abbrev JX:List (Nat×Cut K TyK (aK×List Int)):=[(6,ct cod [2,4,5,6] [.c (.r 0 0), .c (.r 1 0), .c (.o 2), .c (.i .i64)] [.x [.i .i64, .o 3], .x [.i .i64, .o 4], .l .int, .l .item, .l .item] fO),
  (7,ct cod [2,4,5,6] [.c (.r 0 0), .c (.r 1 0), .c (.o 2), .c (.i .i64)] [.x [.i .i64, .o 3], .x [.i .i64, .o 4], .l .int, .l .item, .l .item] eG)]
theorem FG (k:Nat):SummOk Tryz.prog cod 141 (wD k):=bA aF Tryz.f141 (fun k=>aW [(101,iP k),(106,j5 k)]) JX false [.cell 2 56, .tmp 3] 0 [] mixed Tryz.func141 (by kernel_rfl) (by kernel_rfl) (by kernel_rfl) (by kernel_rfl)
  (fun k=>Known.of tok eok aF (all_cons (kM k) (all_cons (lO k) (aB))) gok)
  (fun k=>QuietOk.of (all_cons (fun h r=>⟨rfl,rfl⟩) (all_cons (fun h r=>by cases h) (aB))))
  (fun a=>rfl)
  (all_cons (aO aF (by kernel_rfl) (by (repeat intro _);show _=_;kernel_rfl) (fun k=>by (repeat intro _);show _=_;kernel_rfl)) (all_cons (aO aF (by kernel_rfl) (by (repeat intro _);show _=_;kernel_rfl) (fun k=>by (repeat intro _);show _=_;kernel_rfl)) (aB)))
  (fun k=>by (repeat intro _);show _=_;kernel_rfl)
noncomputable def vL (k:Nat):bT K TyK:=sm cod (Int×Int) [.bo] [.g [.i .i64, .l true .held, .s, .l true .str]] [] (fun k v1 v2 v3 v4=>kF k (⟨v1,v2,v3,v4⟩:aM)) k [.c (.i .i64), .c (.i .i64)] [] (fun r=>(r.1,r.2,())) (fun v1 v2=>(v1,v2)) true
noncomputable abbrev G4:List (Nat×Cut K TyK (Int×Int)):=[(5,ct cod [1,4,11,12,13] [.c (.r 0 0), .c (.i .i64), .c (.l true .held), .c (.i .i64), .c (.i .i64)] [.x [.i .i64, .l true .held, .s, .l true .str]] fJ)]
theorem F0 (k:Nat):SummOk Tryz.prog cod 142 (vL k):=bA aF Tryz.f142 (fun k=>aW [(102,iN k)]) G4 false [.tmp 2, .tmp 3] 0 [] mixed Tryz.func142 (by kernel_rfl) (by kernel_rfl) (by kernel_rfl) (by kernel_rfl)
  (fun k=>Known.of tok eok aF (all_cons (kL k) (aB)) gok)
  (fun k=>QuietOk.of (all_cons (fun h r=>⟨rfl,rfl⟩) (aB)))
  (fun a=>rfl)
  (all_cons (aO aF (by kernel_rfl) (by (repeat intro _);show _=_;kernel_rfl) (fun k=>by (repeat intro _);show _=_;kernel_rfl)) (aB))
  (fun k=>by (repeat intro _);show _=_;kernel_rfl)
noncomputable def yK (k:Nat):bT K TyK:=sm cod (aV) [.bo] [.g [.i .i64, .b, .i .i64, .i .i64, .i .i64, .b, .i .i64, .l true .item, .i .i64, .l true .held, .s, .l true .str]] [] (fun k v1 v2 v3 v4 v5 v6 v7 v8 v9 v10 v11 v12=>rS k (⟨v1,v2,v3,v4,v5,v6,(⟨v7,v8⟩:aK),(⟨v9,v10,v11,v12⟩:aM)⟩:aN)) k [.g [.i .i64, .i .i64, .b, .i .i64, .i .i64, .i .i64, .b, .i .i64, .o 0, .i .i64, .o 1, .s, .o 2, .o 3, .s]] [.l .item, .l .held, .l .str, .l .packet] (fun r=>(r.Code,r.End.Number,r.End.Up,r.End.Life,r.End.Peer,r.End.Since,r.End.Owes,r.End.Send.Base,(),r.End.Take.Next,(),r.End.Take.Open,(),(),r.Text,r.End.Send.Items,r.End.Take.Held,r.End.Take.Ready,r.Out,())) (fun v1 v2 v3 v4 v5 v6 v7 v8 v9 v10 v11 v12 v13 v14 v15=>(⟨v1,(⟨v2,v3,v4,v5,v6,v7,(⟨v8,v12⟩:aK),(⟨v9,v13,v10,v14⟩:aM)⟩:aN),v15,v11⟩:aV)) false
noncomputable abbrev LQ:List (Nat×Cut K TyK (aV)):=[(9,ct cod [2,3,4] [.c (.r 0 0), .c (.r 1 0), .c (.r 1 1)] [.x [.i .i64, .i .i64, .b, .i .i64, .i .i64, .i .i64, .b, .i .i64, .o 2, .i .i64, .o 3, .s, .o 4, .o 5, .s], .x [.i .i64, .i .i64, .b, .i .i64, .i .i64, .i .i64, .b, .i .i64, .o 6, .i .i64, .o 7, .s, .o 8, .o 9, .s], .l .item, .l .held, .l .str, .l .packet, .l .item, .l .held, .l .str, .l .packet] jZ),
  (13,ct cod [2,3,4,53,54,55] [.c (.r 0 0), .c (.r 1 0), .c (.r 1 1), .c (.o 2), .c (.i .i64), .c (.i .i64)] [.x [.i .i64, .i .i64, .b, .i .i64, .i .i64, .i .i64, .b, .i .i64, .o 3, .i .i64, .o 4, .s, .o 5, .o 6, .s], .x [.i .i64, .i .i64, .b, .i .i64, .i .i64, .i .i64, .b, .i .i64, .o 7, .i .i64, .o 8, .s, .o 9, .o 10, .s], .l .int, .l .item, .l .held, .l .str, .l .packet, .l .item, .l .held, .l .str, .l .packet] fI),
  (18,ct cod [2,3,4] [.c (.r 0 0), .c (.r 1 0), .c (.r 1 1)] [.x [.i .i64, .i .i64, .b, .i .i64, .i .i64, .i .i64, .b, .i .i64, .o 2, .i .i64, .o 3, .s, .o 4, .o 5, .s], .x [.i .i64, .i .i64, .b, .i .i64, .i .i64, .i .i64, .b, .i .i64, .o 6, .i .i64, .o 7, .s, .o 8, .o 9, .s], .l .item, .l .held, .l .str, .l .packet, .l .item, .l .held, .l .str, .l .packet] iR),
  (22,ct cod [2,3] [.c (.r 0 0), .c (.r 1 0)] [.x [.i .i64, .i .i64, .b, .i .i64, .i .i64, .i .i64, .b, .i .i64, .o 2, .i .i64, .o 3, .s, .o 4, .o 5, .s], .x [.i .i64, .i .i64, .b, .i .i64, .i .i64, .i .i64, .b, .i .i64, .o 6, .i .i64, .o 7, .s, .o 8, .o 9, .s], .l .item, .l .held, .l .str, .l .packet, .l .item, .l .held, .l .str, .l .packet] eM)]
theorem IM (k:Nat):SummOk Tryz.prog cod 108 (yK k):=bA aF Tryz.f108 (fun k=>aW [(67,d4 k),(69,gF k),(141,wD k),(142,vL k)]) LQ false [.cell 2 82] 0 [] mixed Tryz.func108 (by kernel_rfl) (by kernel_rfl) (by kernel_rfl) (by kernel_rfl)
  (fun k=>Known.of tok eok aF (all_cons (eE k) (all_cons (gR k) (all_cons (FG k) (all_cons (F0 k) (aB))))) gok)
  (fun k=>QuietOk.of (all_cons (fun h r=>⟨rfl,rfl⟩) (all_cons (fun h r=>by cases h) (all_cons (fun h r=>by cases h) (all_cons (fun h r=>⟨rfl,rfl⟩) (aB))))))
  (fun a=>rfl)
  (all_cons (aO aF (by kernel_rfl) (by (repeat intro _);show _=_;kernel_rfl) (fun k=>by (repeat intro _);show _=_;kernel_rfl)) (all_cons (aO aF (by kernel_rfl) (by (repeat intro _);show _=_;kernel_rfl) (fun k=>by (repeat intro _);show _=_;kernel_rfl)) (all_cons (aO aF (by kernel_rfl) (by (repeat intro _);show _=_;kernel_rfl) (fun k=>by (repeat intro _);show _=_;kernel_rfl)) (all_cons (aO aF (by kernel_rfl) (by (repeat intro _);show _=_;kernel_rfl) (fun k=>by (repeat intro _);show _=_;kernel_rfl)) (aB)))))
  (fun k=>by (repeat intro _);show _=_;kernel_rfl)
noncomputable def jF (k:Nat):bT K TyK:=sm cod (Bool) [.bo] [.g [.i .i64, .i .i64, .i .i64, .i .i64, .i .i64, .i .i64, .i .i64, .b, .s]] [] (fun k v1 v2 v3 v4 v5 v6 v7 v8 v9=>cG k (⟨v1,v2,v3,v4,v5,v6,v7,v8,v9⟩:aE)) k [.c (.b)] [] (fun r=>(r,())) (fun v1=>v1) true
theorem lY (k:Nat):SummOk Tryz.prog cod 143 (jF k):=bA aF Tryz.f143 (fun k=>aW [(100,oS k)]) [] false [.tmp 2] 0 [] mixed Tryz.func143 (by kernel_rfl) (by kernel_rfl) (by kernel_rfl) (by kernel_rfl)
  (fun k=>Known.of tok eok aF (all_cons (oF k) (aB)) gok)
  (fun k=>QuietOk.of (all_cons (fun h r=>⟨rfl,rfl⟩) (aB)))
  (fun a=>rfl)
  (aB)
  (fun k=>by (repeat intro _);show _=_;kernel_rfl)
noncomputable def S4 (k:Nat):bT K TyK:=sm cod (ByteArray) [.bo, .bo] [.c (.i .i64), .c (.i .i64)] [] (qW) k [.c (.s)] [] (fun r=>(r,())) (fun v1=>v1) true
noncomputable abbrev bb_:List (Nat×Cut K TyK (ByteArray)):=[(3,ct cod [0,5,6] [.c (.i .i64), .c (.o 0), .c (.i .i64)] [.l .byte] pY)]
theorem YS (k:Nat):SummOk Tryz.prog cod 144 (S4 k):=bA aF Tryz.f144 (fun k=>aW []) bb_ false [.tmp 4] 0 [] mixed Tryz.func144 (by kernel_rfl) (by kernel_rfl) (by kernel_rfl) (by kernel_rfl)
  (fun k=>Known.of tok eok aF (aB) gok)
  (fun k=>QuietOk.of (aB))
  (fun a=>rfl)
  (all_cons (aO aF (by kernel_rfl) (by (repeat intro _);show _=_;kernel_rfl) (fun k=>by (repeat intro _);show _=_;kernel_rfl)) (aB))
  (fun k=>by (repeat intro _);show _=_;kernel_rfl)
noncomputable def M0 (k:Nat):bT K TyK:=sm cod (ByteArray) [.bo, .bo, .bo] [.c (.s), .c (.s), .c (.i .i64)] [] (GQ) k [.c (.s)] [] (fun r=>(r,())) (fun v1=>v1) true
noncomputable abbrev YP:List (Nat×Cut K TyK (ByteArray)):=[(6,ct cod [2,7,8,9] [.c (.i .i64), .c (.i .u64), .c (.s), .c (.i .i64)] [] nZ),
  (11,ct cod [2,7,10,11] [.c (.i .i64), .c (.i .u64), .c (.z 0 0), .c (.i .i64)] [.l .byte] mD)]
theorem TE (k:Nat):SummOk Tryz.prog cod 145 (M0 k):=bA aF Tryz.f145 (fun k=>aW []) YP false [.tmp 6] 0 [] mixed Tryz.func145 (by kernel_rfl) (by kernel_rfl) (by kernel_rfl) (by kernel_rfl)
  (fun k=>Known.of tok eok aF (aB) gok)
  (fun k=>QuietOk.of (aB))
  (fun a=>rfl)
  (all_cons (aO aF (by kernel_rfl) (by (repeat intro _);show _=_;kernel_rfl) (fun k=>by (repeat intro _);show _=_;kernel_rfl)) (all_cons (aO aF (by kernel_rfl) (by (repeat intro _);show _=_;kernel_rfl) (fun k=>by (repeat intro _);show _=_;kernel_rfl)) (aB)))
  (fun k=>by (repeat intro _);show _=_;kernel_rfl)
noncomputable def oB (k:Nat):bT K TyK:=sm cod (ByteArray) [.bo, .bo, .bo] [.g [.i .i64, .i .i64, .i .i64, .i .i64, .i .i64, .i .i64, .i .i64, .b, .s], .c (.s), .c (.i .i64)] [] (fun k v1 v2 v3 v4 v5 v6 v7 v8 v9 v10 v11=>gK k (⟨v1,v2,v3,v4,v5,v6,v7,v8,v9⟩:aE) v10 v11) k [.c (.s)] [] (fun r=>(r,())) (fun v1=>v1) true
noncomputable abbrev DV:List (Nat×Cut K TyK (ByteArray)):=[(10,ct cod [1,2,7] [.c (.s), .c (.i .i64), .c (.s)] [] fC),
  (9,ct cod [1,2,3,7,8] [.c (.s), .c (.i .i64), .c (.r 0 0), .c (.s), .c (.i .i64)] [.x [.i .i64, .i .i64, .i .i64, .i .i64, .i .i64, .i .i64, .i .i64, .b, .s]] fU)]
theorem sI (k:Nat):SummOk Tryz.prog cod 109 (oB k):=bA aF Tryz.f109 (fun k=>aW [(143,jF k),(144,S4 k),(145,M0 k)]) DV false [.tmp 6] 0 [] mixed Tryz.func109 (by kernel_rfl) (by kernel_rfl) (by kernel_rfl) (by kernel_rfl)
  (fun k=>Known.of tok eok aF (all_cons (lY k) (all_cons (YS k) (all_cons (TE k) (aB)))) gok)
  (fun k=>QuietOk.of (all_cons (fun h r=>⟨rfl,rfl⟩) (all_cons (fun h r=>⟨rfl,rfl⟩) (all_cons (fun h r=>⟨rfl,rfl⟩) (aB)))))
  (fun a=>rfl)
  (all_cons (aO aF (by kernel_rfl) (by (repeat intro _);show _=_;kernel_rfl) (fun k=>by (repeat intro _);show _=_;kernel_rfl)) (all_cons (aO aF (by kernel_rfl) (by (repeat intro _);show _=_;kernel_rfl) (fun k=>by (repeat intro _);show _=_;kernel_rfl)) (aB)))
  (fun k=>by (repeat intro _);show _=_;kernel_rfl)
noncomputable def oA (k:Nat):bT K TyK:=sm cod (aC) [.mv] [.c (.r 0 0)] [.x [.s, .i .i64, .o 1, .o 2, .s, .o 3, .o 4], .l .end, .l .parcel, .l .record, .l .record] (fun k v1 v2 v3 v4 v5 v6 v7=>j7 k (⟨v1,v2,v4,v5,v3,v6,v7⟩:aC)) k [] [.x [.s, .i .i64, .o 5, .o 6, .s, .o 7, .o 8], .d, .d, .d, .d, .l .end, .l .parcel, .l .record, .l .record] (fun r=>(r.Key,r.Width,(),(),r.Forged,(),(),r.Ends,r.Flight,r.Given,r.Taken,())) (fun v1 v2 v3 v4 v5 v6 v7=>(⟨v1,v2,v4,v5,v3,v6,v7⟩:aC)) false
noncomputable abbrev DH:List (Nat×Cut K TyK (aC)):=[(1,ct cod [0,11,12] [.c (.r 0 0), .c (.i .i64), .c (.i .i64)] [.x [.s, .i .i64, .o 5, .o 6, .s, .o 7, .o 8], .d, .d, .d, .d, .l .end, .l .parcel, .l .record, .l .record] cN),
  (6,ct cod [0,2,11,12,32,33,34] [.c (.r 0 0), .c (.i .i64), .c (.i .i64), .c (.i .i64), .c (.o 5), .c (.i .i64), .c (.i .i64)] [.x [.s, .i .i64, .o 6, .o 7, .s, .o 8, .o 9], .d, .d, .d, .d, .l .packet, .l .end, .l .parcel, .l .record, .l .record] eA),
  (11,ct cod [0,2,11,12,32,33,34] [.c (.r 0 0), .c (.i .i64), .c (.i .i64), .c (.i .i64), .c (.o 5), .c (.i .i64), .c (.i .i64)] [.x [.s, .i .i64, .o 6, .o 7, .s, .o 8, .o 9], .d, .d, .d, .d, .l .packet, .l .end, .l .parcel, .l .record, .l .record] fB)]
theorem sH (k:Nat):SummOk Tryz.prog cod 72 (oA k):=bA aF Tryz.f72 (fun k=>aW [(108,yK k),(109,oB k)]) DH false [] 5 [false,true,true,true,true] mixed Tryz.func72 (by kernel_rfl) (by kernel_rfl) (by kernel_rfl) (by kernel_rfl)
  (fun k=>Known.of tok eok aF (all_cons (IM k) (all_cons (sI k) (aB))) gok)
  (fun k=>QuietOk.of (all_cons (fun h r=>by cases h) (all_cons (fun h r=>⟨rfl,rfl⟩) (aB))))
  (fun a=>rfl)
  (all_cons (aO aF (by kernel_rfl) (by (repeat intro _);show _=_;kernel_rfl) (fun k=>by (repeat intro _);show _=_;kernel_rfl)) (all_cons (aO aF (by kernel_rfl) (by (repeat intro _);show _=_;kernel_rfl) (fun k=>by (repeat intro _);show _=_;kernel_rfl)) (all_cons (aO aF (by kernel_rfl) (by (repeat intro _);show _=_;kernel_rfl) (fun k=>by (repeat intro _);show _=_;kernel_rfl)) (aB))))
  (fun k=>by (repeat intro _);show _=_;kernel_rfl)
noncomputable def ME (k:Nat):bT K TyK:=sm cod (Int) [.bo] [.c (.s)] [] (xM) k [.c (.i .i64)] [] (fun r=>(r,())) (fun v1=>v1) true
noncomputable abbrev YR:List (Nat×Cut K TyK (Int)):=[(3,ct cod [0,3,4] [.c (.s), .c (.i .i64), .c (.i .i64)] [] n7)]
theorem UL (k:Nat):SummOk Tryz.prog cod 146 (ME k):=bA aF Tryz.f146 (fun k=>aW []) YR false [.tmp 2] 0 [] mixed Tryz.func146 (by kernel_rfl) (by kernel_rfl) (by kernel_rfl) (by kernel_rfl)
  (fun k=>Known.of tok eok aF (aB) gok)
  (fun k=>QuietOk.of (aB))
  (fun a=>rfl)
  (all_cons (aO aF (by kernel_rfl) (by (repeat intro _);show _=_;kernel_rfl) (fun k=>by (repeat intro _);show _=_;kernel_rfl)) (aB))
  (fun k=>by (repeat intro _);show _=_;kernel_rfl)
noncomputable def s4 (k:Nat):bT K TyK:=sm cod (aE×Bool) [.bo, .bo, .bo] [.c (.s), .c (.s), .c (.i .i64)] [] (mS) k [.g [.i .i64, .i .i64, .i .i64, .i .i64, .i .i64, .i .i64, .i .i64, .b, .s], .c (.b)] [] (fun r=>(r.1.Kind,r.1.From,r.1.Mine,r.1.Yours,r.1.Next,r.1.Mask,r.1.Seq,r.1.Last,r.1.Part,r.2,())) (fun v1 v2 v3 v4 v5 v6 v7 v8 v9 v10=>((⟨v1,v2,v3,v4,v5,v6,v7,v8,v9⟩:aE),v10)) true
noncomputable abbrev C0:List (Nat×Cut K TyK (aE×Bool)):=[(10,ct cod [0,1,2,6,9] [.c (.s), .c (.s), .c (.i .i64), .c (.r 0 0), .c (.r 1 0)] [.x [.i .i64, .i .i64, .i .i64, .i .i64, .i .i64, .i .i64, .i .i64, .b, .s], .x [.i .i64, .i .i64, .i .i64, .i .i64, .i .i64, .i .i64, .i .i64, .b, .s]] cY)]
theorem AS (k:Nat):SummOk Tryz.prog cod 110 (s4 k):=bA aF Tryz.f110 (fun k=>aW [(146,ME k),(143,jF k),(109,oB k)]) C0 false [.cell 6 128, .tmp 7] 0 [] mixed Tryz.func110 (by kernel_rfl) (by kernel_rfl) (by kernel_rfl) (by kernel_rfl)
  (fun k=>Known.of tok eok aF (all_cons (UL k) (all_cons (lY k) (all_cons (sI k) (aB)))) gok)
  (fun k=>QuietOk.of (all_cons (fun h r=>⟨rfl,rfl⟩) (all_cons (fun h r=>⟨rfl,rfl⟩) (all_cons (fun h r=>⟨rfl,rfl⟩) (aB)))))
  (fun a=>rfl)
  (all_cons (aO aF (by kernel_rfl) (by (repeat intro _);show _=_;kernel_rfl) (fun k=>by (repeat intro _);show _=_;kernel_rfl)) (aB))
  (fun k=>by (repeat intro _);show _=_;kernel_rfl)
noncomputable def xG (k:Nat):bT K TyK:=sm cod (aK) [.bo, .bo, .bo] [.g [.i .i64, .l true .item], .c (.i .i64), .c (.i .i64)] [] (fun k v1 v2 v3 v4=>pN k (⟨v1,v2⟩:aK) v3 v4) k [.g [.i .i64, .o 0]] [.l .item] (fun r=>(r.Base,(),r.Items,())) (fun v1 v2=>(⟨v1,v2⟩:aK)) false
noncomputable abbrev HR:List (Nat×Cut K TyK (aK)):=[(5,ct cod [1,2,6,7,8] [.c (.i .i64), .c (.i .i64), .c (.r 0 0), .c (.r 1 0), .c (.i .i64)] [.x [.i .i64, .o 2], .x [.i .i64, .o 3], .l .item, .l .item] fN),
  (12,ct cod [2,6,7,9] [.c (.i .i64), .c (.r 0 0), .c (.r 1 0), .c (.i .i64)] [.x [.i .i64, .o 2], .x [.i .i64, .o 3], .l .item, .l .item] c7),
  (13,ct cod [2,6,7,9] [.c (.i .i64), .c (.r 0 0), .c (.r 1 0), .c (.i .i64)] [.x [.i .i64, .o 2], .x [.i .i64, .o 3], .l .item, .l .item] eR)]
theorem FH (k:Nat):SummOk Tryz.prog cod 147 (xG k):=bA aF Tryz.f147 (fun k=>aW [(101,iP k),(106,j5 k),(100,oS k)]) HR false [.cell 6 56] 0 [] mixed Tryz.func147 (by kernel_rfl) (by kernel_rfl) (by kernel_rfl) (by kernel_rfl)
  (fun k=>Known.of tok eok aF (all_cons (kM k) (all_cons (lO k) (all_cons (oF k) (aB)))) gok)
  (fun k=>QuietOk.of (all_cons (fun h r=>⟨rfl,rfl⟩) (all_cons (fun h r=>by cases h) (all_cons (fun h r=>⟨rfl,rfl⟩) (aB)))))
  (fun a=>rfl)
  (all_cons (aO aF (by kernel_rfl) (by (repeat intro _);show _=_;kernel_rfl) (fun k=>by (repeat intro _);show _=_;kernel_rfl)) (all_cons (aO aF (by kernel_rfl) (by (repeat intro _);show _=_;kernel_rfl) (fun k=>by (repeat intro _);show _=_;kernel_rfl)) (all_cons (aO aF (by kernel_rfl) (by (repeat intro _);show _=_;kernel_rfl) (fun k=>by (repeat intro _);show _=_;kernel_rfl)) (aB))))
  (fun k=>by (repeat intro _);show _=_;kernel_rfl)
noncomputable def zL (k:Nat):bT K TyK:=sm cod (aM) [.mv] [.g [.i .i64, .o 0, .s, .o 1]] [.l .held, .l .str] (fun k v1 v2 v3 v4=>nE k (⟨v1,v3,v2,v4⟩:aM)) k [.g [.i .i64, .o 2, .s, .o 3]] [.d, .d, .l .held, .l .str] (fun r=>(r.Next,(),r.Open,(),r.Held,r.Ready,())) (fun v1 v2 v3 v4=>(⟨v1,v3,v2,v4⟩:aM)) false
noncomputable abbrev VR:List (Nat×Cut K TyK (aM)):=[(1,ct cod [1,2] [.c (.r 2 0), .c (.r 3 0)] [.d, .d, .x [.i .i64, .o 4, .s, .o 5], .x [.i .i64, .o 6, .s, .o 7], .l .held, .l .str, .l .held, .l .str] mG)]
theorem ET (k:Nat):SummOk Tryz.prog cod 113 (zL k):=bA aF Tryz.f113 (fun k=>aW [(140,AK k)]) VR false [.cell 2 59] 2 [true,true] mixed Tryz.func113 (by kernel_rfl) (by kernel_rfl) (by kernel_rfl) (by kernel_rfl)
  (fun k=>Known.of tok eok aF (all_cons (E3 k) (aB)) gok)
  (fun k=>QuietOk.of (all_cons (fun h r=>⟨rfl,rfl⟩) (aB)))
  (fun a=>rfl)
  (all_cons (aO aF (by kernel_rfl) (by (repeat intro _);show _=_;kernel_rfl) (fun k=>by (repeat intro _);show _=_;kernel_rfl)) (aB))
  (fun k=>by (repeat intro _);show _=_;kernel_rfl)
noncomputable def xC (k:Nat):bT K TyK:=sm cod (aM) [.bo, .bo, .bo] [.g [.i .i64, .l true .held, .s, .l true .str], .c (.i .i64), .g [.s, .b]] [] (fun k v1 v2 v3 v4 v5 v6 v7=>pP k (⟨v1,v2,v3,v4⟩:aM) v5 (⟨v6,v7⟩:bV)) k [.g [.i .i64, .o 0, .s, .o 1]] [.l .held, .l .str] (fun r=>(r.Next,(),r.Open,(),r.Held,r.Ready,())) (fun v1 v2 v3 v4=>(⟨v1,v3,v2,v4⟩:aM)) false
noncomputable abbrev J6:List (Nat×Cut K TyK (aM)):=[(7,ct cod [1,5,6,7,8] [.c (.i .i64), .c (.r 0 0), .c (.r 1 0), .c (.r 2 0), .c (.i .i64)] [.x [.s, .b], .x [.i .i64, .o 3, .s, .o 4], .x [.i .i64, .o 5, .s, .o 6], .l .held, .l .str, .l .held, .l .str] fM)]
theorem F9 (k:Nat):SummOk Tryz.prog cod 148 (xC k):=bA aF Tryz.f148 (fun k=>aW [(102,iN k),(107,mU k),(100,oS k),(113,zL k)]) J6 false [.cell 6 59] 0 [] mixed Tryz.func148 (by kernel_rfl) (by kernel_rfl) (by kernel_rfl) (by kernel_rfl)
  (fun k=>Known.of tok eok aF (all_cons (kL k) (all_cons (oY k) (all_cons (oF k) (all_cons (ET k) (aB))))) gok)
  (fun k=>QuietOk.of (all_cons (fun h r=>⟨rfl,rfl⟩) (all_cons (fun h r=>by cases h) (all_cons (fun h r=>⟨rfl,rfl⟩) (all_cons (fun h r=>by cases h) (aB))))))
  (fun a=>rfl)
  (all_cons (aO aF (by kernel_rfl) (by (repeat intro _);show _=_;kernel_rfl) (fun k=>by (repeat intro _);show _=_;kernel_rfl)) (aB))
  (fun k=>by (repeat intro _);show _=_;kernel_rfl)
noncomputable def yT (k:Nat):bT K TyK:=sm cod (aV) [.bo, .bo] [.g [.i .i64, .b, .i .i64, .i .i64, .i .i64, .b, .i .i64, .l true .item, .i .i64, .l true .held, .s, .l true .str], .g [.i .i64, .i .i64, .i .i64, .i .i64, .i .i64, .i .i64, .i .i64, .b, .s]] [] (fun k v1 v2 v3 v4 v5 v6 v7 v8 v9 v10 v11 v12 v13 v14 v15 v16 v17 v18 v19 v20 v21=>rX k (⟨v1,v2,v3,v4,v5,v6,(⟨v7,v8⟩:aK),(⟨v9,v10,v11,v12⟩:aM)⟩:aN) (⟨v13,v14,v15,v16,v17,v18,v19,v20,v21⟩:aE)) k [.g [.i .i64, .i .i64, .b, .i .i64, .i .i64, .i .i64, .b, .i .i64, .o 0, .i .i64, .o 1, .s, .o 2, .o 3, .s]] [.l .item, .l .held, .l .str, .l .packet] (fun r=>(r.Code,r.End.Number,r.End.Up,r.End.Life,r.End.Peer,r.End.Since,r.End.Owes,r.End.Send.Base,(),r.End.Take.Next,(),r.End.Take.Open,(),(),r.Text,r.End.Send.Items,r.End.Take.Held,r.End.Take.Ready,r.Out,())) (fun v1 v2 v3 v4 v5 v6 v7 v8 v9 v10 v11 v12 v13 v14 v15=>(⟨v1,(⟨v2,v3,v4,v5,v6,v7,(⟨v8,v12⟩:aK),(⟨v9,v13,v10,v14⟩:aM)⟩:aN),v15,v11⟩:aV)) false
noncomputable abbrev LN:List (Nat×Cut K TyK (aV)):=[(9,ct cod [3,4,5,6] [.c (.r 0 0), .c (.r 1 0), .c (.r 2 0), .c (.r 2 1)] [.x [.i .i64, .i .i64, .i .i64, .i .i64, .i .i64, .i .i64, .i .i64, .b, .s], .x [.i .i64, .i .i64, .b, .i .i64, .i .i64, .i .i64, .b, .i .i64, .o 3, .i .i64, .o 4, .s, .o 5, .o 6, .s], .x [.i .i64, .i .i64, .b, .i .i64, .i .i64, .i .i64, .b, .i .i64, .o 7, .i .i64, .o 8, .s, .o 9, .o 10, .s], .l .item, .l .held, .l .str, .l .packet, .l .item, .l .held, .l .str, .l .packet] jR),
  (16,ct cod [4,5] [.c (.r 0 0), .c (.r 1 0)] [.x [.i .i64, .i .i64, .b, .i .i64, .i .i64, .i .i64, .b, .i .i64, .o 2, .i .i64, .o 3, .s, .o 4, .o 5, .s], .x [.i .i64, .i .i64, .b, .i .i64, .i .i64, .i .i64, .b, .i .i64, .o 6, .i .i64, .o 7, .s, .o 8, .o 9, .s], .l .item, .l .held, .l .str, .l .packet, .l .item, .l .held, .l .str, .l .packet] iM)]
theorem HK (k:Nat):SummOk Tryz.prog cod 111 (yT k):=bA aF Tryz.f111 (fun k=>aW [(67,d4 k),(69,gF k),(143,jF k),(147,xG k),(148,xC k)]) LN false [.cell 4 82] 0 [] mixed Tryz.func111 (by kernel_rfl) (by kernel_rfl) (by kernel_rfl) (by kernel_rfl)
  (fun k=>Known.of tok eok aF (all_cons (eE k) (all_cons (gR k) (all_cons (lY k) (all_cons (FH k) (all_cons (F9 k) (aB)))))) gok)
  (fun k=>QuietOk.of (all_cons (fun h r=>⟨rfl,rfl⟩) (all_cons (fun h r=>by cases h) (all_cons (fun h r=>⟨rfl,rfl⟩) (all_cons (fun h r=>by cases h) (all_cons (fun h r=>by cases h) (aB)))))))
  (fun a=>rfl)
  (all_cons (aO aF (by kernel_rfl) (by (repeat intro _);show _=_;kernel_rfl) (fun k=>by (repeat intro _);show _=_;kernel_rfl)) (all_cons (aO aF (by kernel_rfl) (by (repeat intro _);show _=_;kernel_rfl) (fun k=>by (repeat intro _);show _=_;kernel_rfl)) (aB)))
  (fun k=>by (repeat intro _);show _=_;kernel_rfl)
noncomputable def mR (k:Nat):bT K TyK:=sm cod (aC) [.mv, .mv] [.c (.r 0 0), .g [.i .i64, .s, .s]] [.x [.s, .i .i64, .o 1, .o 2, .s, .o 3, .o 4], .l .end, .l .parcel, .l .record, .l .record] (fun k v1 v2 v3 v4 v5 v6 v7 v8 v9 v10=>fK k (⟨v4,v5,v7,v8,v6,v9,v10⟩:aC) (⟨v1,v2,v3⟩:aD)) k [] [.x [.s, .i .i64, .o 5, .o 6, .s, .o 7, .o 8], .d, .d, .d, .d, .l .end, .l .parcel, .l .record, .l .record] (fun r=>(r.Key,r.Width,(),(),r.Forged,(),(),r.Ends,r.Flight,r.Given,r.Taken,())) (fun v1 v2 v3 v4 v5 v6 v7=>(⟨v1,v2,v4,v5,v3,v6,v7⟩:aC)) false
noncomputable abbrev B6:List (Nat×Cut K TyK (aC)):=[(5,ct cod [0,3,4] [.c (.r 0 0), .c (.r 5 0), .c (.r 6 0)] [.x [.s, .i .i64, .o 7, .o 8, .s, .o 9, .o 10], .d, .d, .d, .d, .x [.i .i64, .s, .s], .x [.i .i64, .i .i64, .i .i64, .i .i64, .i .i64, .i .i64, .i .i64, .b, .s], .l .end, .l .parcel, .l .record, .l .record] dN)]
theorem qP (k:Nat):SummOk Tryz.prog cod 73 (mR k):=bA aF Tryz.f73 (fun k=>aW [(110,s4 k),(111,yT k)]) B6 false [] 5 [false,true,true,true,true] mixed Tryz.func73 (by kernel_rfl) (by kernel_rfl) (by kernel_rfl) (by kernel_rfl)
  (fun k=>Known.of tok eok aF (all_cons (AS k) (all_cons (HK k) (aB))) gok)
  (fun k=>QuietOk.of (all_cons (fun h r=>⟨rfl,rfl⟩) (all_cons (fun h r=>by cases h) (aB))))
  (fun a=>rfl)
  (all_cons (aO aF (by kernel_rfl) (by (repeat intro _);show _=_;kernel_rfl) (fun k=>by (repeat intro _);show _=_;kernel_rfl)) (aB))
  (fun k=>by (repeat intro _);show _=_;kernel_rfl)
noncomputable def yZ (k:Nat):bT K TyK:=sm cod (aN) [.bo] [.g [.i .i64, .b, .i .i64, .i .i64, .i .i64, .b, .i .i64, .l true .item, .i .i64, .l true .held, .s, .l true .str]] [] (fun k v1 v2 v3 v4 v5 v6 v7 v8 v9 v10 v11 v12=>rY k (⟨v1,v2,v3,v4,v5,v6,(⟨v7,v8⟩:aK),(⟨v9,v10,v11,v12⟩:aM)⟩:aN)) k [.g [.i .i64, .b, .i .i64, .i .i64, .i .i64, .b, .i .i64, .o 0, .i .i64, .o 1, .s, .o 2]] [.l .item, .l .held, .l .str] (fun r=>(r.Number,r.Up,r.Life,r.Peer,r.Since,r.Owes,r.Send.Base,(),r.Take.Next,(),r.Take.Open,(),r.Send.Items,r.Take.Held,r.Take.Ready,())) (fun v1 v2 v3 v4 v5 v6 v7 v8 v9 v10 v11 v12=>(⟨v1,v2,v3,v4,v5,v6,(⟨v7,v10⟩:aK),(⟨v8,v11,v9,v12⟩:aM)⟩:aN)) false
theorem II (k:Nat):SummOk Tryz.prog cod 74 (yZ k):=bA aF Tryz.f74 (fun k=>aW [(67,d4 k)]) [] false [.cell 2 61] 0 [] mixed Tryz.func74 (by kernel_rfl) (by kernel_rfl) (by kernel_rfl) (by kernel_rfl)
  (fun k=>Known.of tok eok aF (all_cons (eE k) (aB)) gok)
  (fun k=>QuietOk.of (all_cons (fun h r=>⟨rfl,rfl⟩) (aB)))
  (fun a=>rfl)
  (aB)
  (fun k=>by (repeat intro _);show _=_;kernel_rfl)
noncomputable def yM (k:Nat):bT K TyK:=sm cod (aN) [.bo] [.g [.i .i64, .b, .i .i64, .i .i64, .i .i64, .b, .i .i64, .l true .item, .i .i64, .l true .held, .s, .l true .str]] [] (fun k v1 v2 v3 v4 v5 v6 v7 v8 v9 v10 v11 v12=>rN k (⟨v1,v2,v3,v4,v5,v6,(⟨v7,v8⟩:aK),(⟨v9,v10,v11,v12⟩:aM)⟩:aN)) k [.g [.i .i64, .b, .i .i64, .i .i64, .i .i64, .b, .i .i64, .o 0, .i .i64, .o 1, .s, .o 2]] [.l .item, .l .held, .l .str] (fun r=>(r.Number,r.Up,r.Life,r.Peer,r.Since,r.Owes,r.Send.Base,(),r.Take.Next,(),r.Take.Open,(),r.Send.Items,r.Take.Held,r.Take.Ready,())) (fun v1 v2 v3 v4 v5 v6 v7 v8 v9 v10 v11 v12=>(⟨v1,v2,v3,v4,v5,v6,(⟨v7,v10⟩:aK),(⟨v8,v11,v9,v12⟩:aM)⟩:aN)) false
theorem IG (k:Nat):SummOk Tryz.prog cod 75 (yM k):=bA aF Tryz.f75 (fun k=>aW [(67,d4 k),(69,gF k)]) [] false [.cell 2 61] 0 [] mixed Tryz.func75 (by kernel_rfl) (by kernel_rfl) (by kernel_rfl) (by kernel_rfl)
  (fun k=>Known.of tok eok aF (all_cons (eE k) (all_cons (gR k) (aB))) gok)
  (fun k=>QuietOk.of (all_cons (fun h r=>⟨rfl,rfl⟩) (all_cons (fun h r=>by cases h) (aB))))
  (fun a=>rfl)
  (aB)
  (fun k=>by (repeat intro _);show _=_;kernel_rfl)
noncomputable def nS (k:Nat):bT K TyK:=sm cod (Bool×aC) [.mv] [.c (.r 0 0)] [.x [.s, .i .i64, .o 1, .o 2, .s, .o 3, .o 4], .l .end, .l .parcel, .l .record, .l .record] (fun k v1 v2 v3 v4 v5 v6 v7=>j4 k (⟨v1,v2,v4,v5,v3,v6,v7⟩:aC)) k [.c (.b)] [.x [.s, .i .i64, .o 5, .o 6, .s, .o 7, .o 8], .d, .d, .d, .d, .l .end, .l .parcel, .l .record, .l .record] (fun r=>(r.1,r.2.Key,r.2.Width,(),(),r.2.Forged,(),(),r.2.Ends,r.2.Flight,r.2.Given,r.2.Taken,())) (fun v1 v2 v3 v4 v5 v6 v7 v8=>(v1,(⟨v2,v3,v5,v6,v4,v7,v8⟩:aC))) false
theorem rO (k:Nat):SummOk Tryz.prog cod 76 (nS k):=bA aF Tryz.f76 (fun k=>aW []) [] false [.tmp 2] 5 [false,true,true,true,true] mixed Tryz.func76 (by kernel_rfl) (by kernel_rfl) (by kernel_rfl) (by kernel_rfl)
  (fun k=>Known.of tok eok aF (aB) gok)
  (fun k=>QuietOk.of (aB))
  (fun a=>rfl)
  (aB)
  (fun k=>by (repeat intro _);show _=_;kernel_rfl)
noncomputable def wT (k:Nat):bT K TyK:=sm cod (aM×ByteArray×Bool) [.bo] [.g [.i .i64, .l true .held, .s, .l true .str]] [] (fun k v1 v2 v3 v4=>pL k (⟨v1,v2,v3,v4⟩:aM)) k [.g [.i .i64, .o 0, .s, .o 1], .c (.s), .c (.b)] [.l .held, .l .str] (fun r=>(r.1.Next,(),r.1.Open,(),r.2.1,r.2.2,r.1.Held,r.1.Ready,())) (fun v1 v2 v3 v4 v5 v6=>((⟨v1,v5,v2,v6⟩:aM),v3,v4)) false
theorem FD (k:Nat):SummOk Tryz.prog cod 79 (wT k):=bA aF Tryz.f79 (fun k=>aW [(102,iN k),(107,mU k),(113,zL k)]) [] false [.cell 2 59, .tmp 3, .tmp 4] 0 [] mixed Tryz.func79 (by kernel_rfl) (by kernel_rfl) (by kernel_rfl) (by kernel_rfl)
  (fun k=>Known.of tok eok aF (all_cons (kL k) (all_cons (oY k) (all_cons (ET k) (aB)))) gok)
  (fun k=>QuietOk.of (all_cons (fun h r=>⟨rfl,rfl⟩) (all_cons (fun h r=>by cases h) (all_cons (fun h r=>by cases h) (aB)))))
  (fun a=>rfl)
  (aB)
  (fun k=>by (repeat intro _);show _=_;kernel_rfl)
noncomputable def sM (k:Nat):bT K TyK:=sm cod (aV) [.bo] [.g [.i .i64, .b, .i .i64, .i .i64, .i .i64, .b, .i .i64, .l true .item, .i .i64, .l true .held, .s, .l true .str]] [] (fun k v1 v2 v3 v4 v5 v6 v7 v8 v9 v10 v11 v12=>mE k (⟨v1,v2,v3,v4,v5,v6,(⟨v7,v8⟩:aK),(⟨v9,v10,v11,v12⟩:aM)⟩:aN)) k [.g [.i .i64, .i .i64, .b, .i .i64, .i .i64, .i .i64, .b, .i .i64, .o 0, .i .i64, .o 1, .s, .o 2, .o 3, .s]] [.l .item, .l .held, .l .str, .l .packet] (fun r=>(r.Code,r.End.Number,r.End.Up,r.End.Life,r.End.Peer,r.End.Since,r.End.Owes,r.End.Send.Base,(),r.End.Take.Next,(),r.End.Take.Open,(),(),r.Text,r.End.Send.Items,r.End.Take.Held,r.End.Take.Ready,r.Out,())) (fun v1 v2 v3 v4 v5 v6 v7 v8 v9 v10 v11 v12 v13 v14 v15=>(⟨v1,(⟨v2,v3,v4,v5,v6,v7,(⟨v8,v12⟩:aK),(⟨v9,v13,v10,v14⟩:aM)⟩:aN),v15,v11⟩:aV)) false
theorem wI (k:Nat):SummOk Tryz.prog cod 41 (sM k):=bA aF Tryz.f41 (fun k=>aW [(67,d4 k),(79,wT k),(69,gF k)]) [] false [.cell 2 82] 0 [] mixed Tryz.func41 (by kernel_rfl) (by kernel_rfl) (by kernel_rfl) (by kernel_rfl)
  (fun k=>Known.of tok eok aF (all_cons (eE k) (all_cons (FD k) (all_cons (gR k) (aB)))) gok)
  (fun k=>QuietOk.of (all_cons (fun h r=>⟨rfl,rfl⟩) (all_cons (fun h r=>by cases h) (all_cons (fun h r=>by cases h) (aB)))))
  (fun a=>rfl)
  (aB)
  (fun k=>by (repeat intro _);show _=_;kernel_rfl)
noncomputable def nY (k:Nat):bT K TyK:=sm cod (aC) [.mv, .mv] [.c (.r 0 0), .c (.i .i64)] [.x [.s, .i .i64, .o 1, .o 2, .s, .o 3, .o 4], .l .end, .l .parcel, .l .record, .l .record] (fun k v1 v2 v3 v4 v5 v6 v7 v8=>jP k (⟨v2,v3,v5,v6,v4,v7,v8⟩:aC) v1) k [] [.x [.s, .i .i64, .o 5, .o 6, .s, .o 7, .o 8], .d, .d, .d, .d, .l .end, .l .parcel, .l .record, .l .record] (fun r=>(r.Key,r.Width,(),(),r.Forged,(),(),r.Ends,r.Flight,r.Given,r.Taken,())) (fun v1 v2 v3 v4 v5 v6 v7=>(⟨v1,v2,v4,v5,v3,v6,v7⟩:aC)) false
theorem rW (k:Nat):SummOk Tryz.prog cod 77 (nY k):=bA aF Tryz.f77 (fun k=>aW [(76,nS k),(41,sM k)]) [] false [] 5 [false,true,true,true,true] mixed Tryz.func77 (by kernel_rfl) (by kernel_rfl) (by kernel_rfl) (by kernel_rfl)
  (fun k=>Known.of tok eok aF (all_cons (rO k) (all_cons (wI k) (aB))) gok)
  (fun k=>QuietOk.of (all_cons (fun h r=>by cases h) (all_cons (fun h r=>by cases h) (aB))))
  (fun a=>rfl)
  (aB)
  (fun k=>by (repeat intro _);show _=_;kernel_rfl)
noncomputable def R2 (k:Nat):bT K TyK:=sm cod (aC) [.bo, .bo] [.g [.s, .i .i64, .l true .end, .l true .parcel, .s, .l true .record, .l true .record], .g [.i .i64, .i .i64, .i .i64, .i .i64, .s]] [] (fun k v1 v2 v3 v4 v5 v6 v7 v8 v9 v10 v11 v12=>sW k (⟨v1,v2,v3,v4,v5,v6,v7⟩:aC) (⟨v8,v9,v10,v11,v12⟩:c6)) k [.g [.s, .i .i64, .o 0, .o 1, .s, .o 2, .o 3]] [.l .end, .l .parcel, .l .record, .l .record] (fun r=>(r.Key,r.Width,(),(),r.Forged,(),(),r.Ends,r.Flight,r.Given,r.Taken,())) (fun v1 v2 v3 v4 v5 v6 v7=>(⟨v1,v2,v4,v5,v3,v6,v7⟩:aC)) false
noncomputable abbrev Z2:List (Nat×Cut K TyK (aC)):=[(5,ct cod [3,4,5,6] [.c (.r 0 0), .c (.r 1 0), .c (.r 2 0), .c (.b)] [.x [.i .i64, .i .i64, .i .i64, .i .i64, .s], .x [.s, .i .i64, .o 3, .o 4, .s, .o 5, .o 6], .x [.s, .i .i64, .o 7, .o 8, .s, .o 9, .o 10], .l .end, .l .parcel, .l .record, .l .record, .l .end, .l .parcel, .l .record, .l .record] tE),
  (6,ct cod [3,4,5,6,7] [.c (.r 0 0), .c (.r 1 0), .c (.r 2 0), .c (.b), .c (.b)] [.x [.i .i64, .i .i64, .i .i64, .i .i64, .s], .x [.s, .i .i64, .o 3, .o 4, .s, .o 5, .o 6], .x [.s, .i .i64, .o 7, .o 8, .s, .o 9, .o 10], .l .end, .l .parcel, .l .record, .l .record, .l .end, .l .parcel, .l .record, .l .record] tF),
  (45,ct cod [4,5] [.c (.r 0 0), .c (.r 1 0)] [.x [.s, .i .i64, .o 2, .o 3, .s, .o 4, .o 5], .x [.s, .i .i64, .o 6, .o 7, .s, .o 8, .o 9], .l .end, .l .parcel, .l .record, .l .record, .l .end, .l .parcel, .l .record, .l .record] aR),
  (11,ct cod [3,4,5,7] [.c (.r 0 0), .c (.r 1 0), .c (.r 2 0), .c (.b)] [.x [.i .i64, .i .i64, .i .i64, .i .i64, .s], .x [.s, .i .i64, .o 3, .o 4, .s, .o 5, .o 6], .x [.s, .i .i64, .o 7, .o 8, .s, .o 9, .o 10], .l .end, .l .parcel, .l .record, .l .record, .l .end, .l .parcel, .l .record, .l .record] rB),
  (16,ct cod [3,4,5,6,7,37] [.c (.r 0 0), .c (.r 1 0), .c (.r 2 0), .c (.b), .c (.b), .c (.i .i64)] [.x [.i .i64, .i .i64, .i .i64, .i .i64, .s], .x [.s, .i .i64, .o 3, .o 4, .s, .o 5, .o 6], .x [.s, .i .i64, .o 7, .o 8, .s, .o 9, .o 10], .l .end, .l .parcel, .l .record, .l .record, .l .end, .l .parcel, .l .record, .l .record] tZ)]
theorem ZA (k:Nat):SummOk Tryz.prog cod 39 (R2 k):=bA aF Tryz.f39 (fun k=>aW [(70,hD k),(71,o8 k),(72,oA k),(73,mR k),(74,yZ k),(75,yM k),(76,nS k),(38,sL k),(77,nY k)]) Z2 false [.cell 4 33] 0 [] mixed Tryz.func39 (by kernel_rfl) (by kernel_rfl) (by kernel_rfl) (by kernel_rfl)
  (fun k=>Known.of tok eok aF (all_cons (jK k) (all_cons (tP k) (all_cons (sH k) (all_cons (qP k) (all_cons (II k) (all_cons (IG k) (all_cons (rO k) (all_cons (vO k) (all_cons (rW k) (aB)))))))))) gok)
  (fun k=>QuietOk.of (all_cons (fun h r=>⟨rfl,rfl⟩) (all_cons (fun h r=>by cases h) (all_cons (fun h r=>by cases h) (all_cons (fun h r=>by cases h) (all_cons (fun h r=>by cases h) (all_cons (fun h r=>by cases h) (all_cons (fun h r=>by cases h) (all_cons (fun h r=>by cases h) (all_cons (fun h r=>by cases h) (aB)))))))))))
  (fun a=>rfl)
  (all_cons (aO aF (by kernel_rfl) (by (repeat intro _);show _=_;kernel_rfl) (fun k=>by (repeat intro _);show _=_;kernel_rfl)) (all_cons (aO aF (by kernel_rfl) (by (repeat intro _);show _=_;kernel_rfl) (fun k=>by (repeat intro _);show _=_;kernel_rfl)) (all_cons (aO aF (by kernel_rfl) (by (repeat intro _);show _=_;kernel_rfl) (fun k=>by (repeat intro _);show _=_;kernel_rfl)) (all_cons (aO aF (by kernel_rfl) (by (repeat intro _);show _=_;kernel_rfl) (fun k=>by (repeat intro _);show _=_;kernel_rfl)) (all_cons (aO aF (by kernel_rfl) (by (repeat intro _);show _=_;kernel_rfl) (fun k=>by (repeat intro _);show _=_;kernel_rfl)) (aB))))))
  (fun k=>by (repeat intro _);show _=_;kernel_rfl)
noncomputable def H7 (k:Nat):bT K TyK:=sm cod (aC) [.bo, .bo, .bo] [.g [.s, .i .i64, .l true .end, .l true .parcel, .s, .l true .record, .l true .record], .c (.i .i64), .c (.i .i64)] [] (fun k v1 v2 v3 v4 v5 v6 v7 v8 v9=>CI k (⟨v1,v2,v3,v4,v5,v6,v7⟩:aC) v8 v9) k [.g [.s, .i .i64, .o 0, .o 1, .s, .o 2, .o 3]] [.l .end, .l .parcel, .l .record, .l .record] (fun r=>(r.Key,r.Width,(),(),r.Forged,(),(),r.Ends,r.Flight,r.Given,r.Taken,())) (fun v1 v2 v3 v4 v5 v6 v7=>(⟨v1,v2,v4,v5,v3,v6,v7⟩:aC)) false
noncomputable abbrev VY:List (Nat×Cut K TyK (aC)):=[(7,ct cod [1,2,6,7,8] [.c (.i .i64), .c (.i .i64), .c (.r 0 0), .c (.r 1 0), .c (.m 2)] [.x [.s, .i .i64, .o 3, .o 4, .s, .o 5, .o 6], .x [.s, .i .i64, .o 7, .o 8, .s, .o 9, .o 10], .m .key .int, .l .end, .l .parcel, .l .record, .l .record, .l .end, .l .parcel, .l .record, .l .record] hH),
  (13,ct cod [1,2,6,7,8,40,41,42] [.c (.i .i64), .c (.i .i64), .c (.r 0 0), .c (.r 1 0), .c (.m 2), .c (.o 3), .c (.i .i64), .c (.i .i64)] [.x [.s, .i .i64, .o 4, .o 5, .s, .o 6, .o 7], .x [.s, .i .i64, .o 8, .o 9, .s, .o 10, .o 11], .m .key .int, .l .parcel, .l .end, .l .parcel, .l .record, .l .record, .l .end, .l .parcel, .l .record, .l .record] iB),
  (17,ct cod [1,2,6,7,8,11,12,40,41,42] [.c (.i .i64), .c (.i .i64), .c (.r 0 0), .c (.r 1 0), .c (.m 2), .c (.r 3 0), .c (.r 4 0), .c (.o 5), .c (.i .i64), .c (.i .i64)] [.x [.s, .i .i64, .o 6, .o 7, .s, .o 8, .o 9], .x [.s, .i .i64, .o 10, .o 11, .s, .o 12, .o 13], .m .key .int, .x [.i .i64, .s, .s], .x [.i .i64, .s], .l .parcel, .l .end, .l .parcel, .l .record, .l .record, .l .end, .l .parcel, .l .record, .l .record] cX),
  (21,ct cod [1,2,6,7,8,13] [.c (.i .i64), .c (.i .i64), .c (.r 0 0), .c (.r 1 0), .c (.m 2), .c (.i .i64)] [.x [.s, .i .i64, .o 3, .o 4, .s, .o 5, .o 6], .x [.s, .i .i64, .o 7, .o 8, .s, .o 9, .o 10], .m .key .int, .l .end, .l .parcel, .l .record, .l .record, .l .end, .l .parcel, .l .record, .l .record] eO),
  (19,ct cod [1,2,6,7,8,40,41,42] [.c (.i .i64), .c (.i .i64), .c (.r 0 0), .c (.r 1 0), .c (.m 2), .c (.o 3), .c (.i .i64), .c (.i .i64)] [.x [.s, .i .i64, .o 4, .o 5, .s, .o 6, .o 7], .x [.s, .i .i64, .o 8, .o 9, .s, .o 10, .o 11], .m .key .int, .l .parcel, .l .end, .l .parcel, .l .record, .l .record, .l .end, .l .parcel, .l .record, .l .record] iI),
  (24,ct cod [1,2,6,7,8,13,14] [.c (.i .i64), .c (.i .i64), .c (.r 0 0), .c (.r 1 0), .c (.m 2), .c (.i .i64), .c (.i .i64)] [.x [.s, .i .i64, .o 3, .o 4, .s, .o 5, .o 6], .x [.s, .i .i64, .o 7, .o 8, .s, .o 9, .o 10], .m .key .int, .l .end, .l .parcel, .l .record, .l .record, .l .end, .l .parcel, .l .record, .l .record] j9)]
theorem RG (k:Nat):SummOk Tryz.prog cod 42 (H7 k):=bA aF Tryz.f42 (fun k=>aW [(70,hD k),(71,o8 k),(72,oA k),(73,mR k),(77,nY k)]) VY false [.cell 6 33] 0 [] mixed Tryz.func42 (by kernel_rfl) (by kernel_rfl) (by kernel_rfl) (by kernel_rfl)
  (fun k=>Known.of tok eok aF (all_cons (jK k) (all_cons (tP k) (all_cons (sH k) (all_cons (qP k) (all_cons (rW k) (aB)))))) gok)
  (fun k=>QuietOk.of (all_cons (fun h r=>⟨rfl,rfl⟩) (all_cons (fun h r=>by cases h) (all_cons (fun h r=>by cases h) (all_cons (fun h r=>by cases h) (all_cons (fun h r=>by cases h) (aB)))))))
  (fun a=>rfl)
  (all_cons (aO aF (by kernel_rfl) (by (repeat intro _);show _=_;kernel_rfl) (fun k=>by (repeat intro _);show _=_;kernel_rfl)) (all_cons (aO aF (by kernel_rfl) (by (repeat intro _);show _=_;kernel_rfl) (fun k=>by (repeat intro _);show _=_;kernel_rfl)) (all_cons (aO aF (by kernel_rfl) (by (repeat intro _);show _=_;kernel_rfl) (fun k=>by (repeat intro _);show _=_;kernel_rfl)) (all_cons (aO aF (by kernel_rfl) (by (repeat intro _);show _=_;kernel_rfl) (fun k=>by (repeat intro _);show _=_;kernel_rfl)) (all_cons (aO aF (by kernel_rfl) (by (repeat intro _);show _=_;kernel_rfl) (fun k=>by (repeat intro _);show _=_;kernel_rfl)) (all_cons (aO aF (by kernel_rfl) (by (repeat intro _);show _=_;kernel_rfl) (fun k=>by (repeat intro _);show _=_;kernel_rfl)) (aB)))))))
  (fun k=>by (repeat intro _);show _=_;kernel_rfl)
noncomputable def H1 (k:Nat):bT K TyK:=sm cod (ByteArray) [.bo] [.g [.i .i64, .b, .i .i64, .i .i64, .i .i64, .b, .i .i64, .l true .item, .i .i64, .l true .held, .s, .l true .str]] [] (fun k v1 v2 v3 v4 v5 v6 v7 v8 v9 v10 v11 v12=>wS k (⟨v1,v2,v3,v4,v5,v6,(⟨v7,v8⟩:aK),(⟨v9,v10,v11,v12⟩:aM)⟩:aN)) k [.c (.s)] [] (fun r=>(r,())) (fun v1=>v1) true
theorem SR (k:Nat):SummOk Tryz.prog cod 43 (H1 k):=bA aF Tryz.f43 (fun k=>aW [(40,sR k)]) [] false [.tmp 2] 0 [] mixed Tryz.func43 (by kernel_rfl) (by kernel_rfl) (by kernel_rfl) (by kernel_rfl)
  (fun k=>Known.of tok eok aF (all_cons (vK k) (aB)) gok)
  (fun k=>QuietOk.of (all_cons (fun h r=>⟨rfl,rfl⟩) (aB)))
  (fun a=>rfl)
  (aB)
  (fun k=>by (repeat intro _);show _=_;kernel_rfl)
noncomputable def EC (k:Nat):bT K TyK:=sm cod (Bool) [.bo] [.g [.s, .i .i64, .l true .end, .l true .parcel, .s, .l true .record, .l true .record]] [] (fun k v1 v2 v3 v4 v5 v6 v7=>xT k (⟨v1,v2,v3,v4,v5,v6,v7⟩:aC)) k [.c (.b)] [] (fun r=>(r,())) (fun v1=>v1) true
noncomputable abbrev QF:List (Nat×Cut K TyK (Bool)):=[(5,ct cod [1,3,16,17,18] [.c (.r 0 0), .c (.m 1), .c (.l true .record), .c (.i .i64), .c (.i .i64)] [.x [.s, .i .i64, .l true .end, .l true .parcel, .s, .l true .record, .l true .record], .m .pair .lstr] fY),
  (12,ct cod [3,7,41,42,43] [.c (.m 0), .c (.m 1), .c (.l true .record), .c (.i .i64), .c (.i .i64)] [.m .pair .lstr, .m .pair .int] bO),
  (17,ct cod [3,7,10,41,42,43] [.c (.m 0), .c (.m 1), .c (.r 2 0), .c (.l true .record), .c (.i .i64), .c (.i .i64)] [.m .pair .lstr, .m .pair .int, .x [.i .i64, .i .i64, .i .i64]] bX)]
theorem OL (k:Nat):SummOk Tryz.prog cod 44 (EC k):=bA aF Tryz.f44 (fun k=>aW [(70,hD k)]) QF false [.tmp 2] 0 [] mixed Tryz.func44 (by kernel_rfl) (by kernel_rfl) (by kernel_rfl) (by kernel_rfl)
  (fun k=>Known.of tok eok aF (all_cons (jK k) (aB)) gok)
  (fun k=>QuietOk.of (all_cons (fun h r=>⟨rfl,rfl⟩) (aB)))
  (fun a=>rfl)
  (all_cons (aO aF (by kernel_rfl) (by (repeat intro _);show _=_;kernel_rfl) (fun k=>by (repeat intro _);show _=_;kernel_rfl)) (all_cons (aO aF (by kernel_rfl) (by (repeat intro _);show _=_;kernel_rfl) (fun k=>by (repeat intro _);show _=_;kernel_rfl)) (all_cons (aO aF (by kernel_rfl) (by (repeat intro _);show _=_;kernel_rfl) (fun k=>by (repeat intro _);show _=_;kernel_rfl)) (aB))))
  (fun k=>by (repeat intro _);show _=_;kernel_rfl)
noncomputable def JJ (k:Nat):bT K TyK:=sm cod (Bool) [.bo] [.g [.s, .i .i64, .l true .end, .l true .parcel, .s, .l true .record, .l true .record]] [] (fun k v1 v2 v3 v4 v5 v6 v7=>B5 k (⟨v1,v2,v3,v4,v5,v6,v7⟩:aC)) k [.c (.b)] [] (fun r=>(r,())) (fun v1=>v1) true
noncomputable abbrev TA:List (Nat×Cut K TyK (Bool)):=[(4,ct cod [1,9,10,11] [.c (.r 0 0), .c (.l true .end), .c (.i .i64), .c (.i .i64)] [.x [.s, .i .i64, .l true .end, .l true .parcel, .s, .l true .record, .l true .record]] mC)]
theorem ST (k:Nat):SummOk Tryz.prog cod 45 (JJ k):=bA aF Tryz.f45 (fun k=>aW [(70,hD k)]) TA false [.tmp 2] 0 [] mixed Tryz.func45 (by kernel_rfl) (by kernel_rfl) (by kernel_rfl) (by kernel_rfl)
  (fun k=>Known.of tok eok aF (all_cons (jK k) (aB)) gok)
  (fun k=>QuietOk.of (all_cons (fun h r=>⟨rfl,rfl⟩) (aB)))
  (fun a=>rfl)
  (all_cons (aO aF (by kernel_rfl) (by (repeat intro _);show _=_;kernel_rfl) (fun k=>by (repeat intro _);show _=_;kernel_rfl)) (aB))
  (fun k=>by (repeat intro _);show _=_;kernel_rfl)
noncomputable def I3 (k:Nat):bT K TyK:=sm cod (aC×ByteArray) [.mv, .bo] [.g [.s, .i .i64, .o 0, .o 1, .s, .o 2, .o 3], .c (.s)] [.l .end, .l .parcel, .l .record, .l .record] (fun k v1 v2 v3 v4 v5 v6 v7 v8=>BC k (⟨v1,v2,v5,v6,v3,v7,v8⟩:aC) v4) k [.g [.s, .i .i64, .o 4, .o 5, .s, .o 6, .o 7], .c (.s)] [.d, .d, .d, .d, .l .end, .l .parcel, .l .record, .l .record] (fun r=>(r.1.Key,r.1.Width,(),(),r.1.Forged,(),(),r.2,r.1.Ends,r.1.Flight,r.1.Given,r.1.Taken,())) (fun v1 v2 v3 v4 v5 v6 v7 v8=>((⟨v1,v2,v5,v6,v3,v7,v8⟩:aC),v4)) false
noncomputable abbrev TU:List (Nat×Cut K TyK (aC×ByteArray)):=[(14,ct cod [1,2,4,10,81,82,83] [.c (.s), .c (.r 4 0), .c (.r 5 0), .c (.o 6), .c (.o 6), .c (.i .i64), .c (.i .i64)] [.d, .d, .d, .d, .x [.s, .i .i64, .o 7, .o 8, .s, .o 9, .o 10], .x [.s, .i .i64, .o 11, .o 12, .s, .o 13, .o 14], .l .str, .l .end, .l .parcel, .l .record, .l .record, .l .end, .l .parcel, .l .record, .l .record] kI),
  (29,ct cod [1,2,4,10] [.c (.s), .c (.r 4 0), .c (.r 5 0), .c (.o 6)] [.d, .d, .d, .d, .x [.s, .i .i64, .o 7, .o 8, .s, .o 9, .o 10], .x [.s, .i .i64, .o 11, .o 12, .s, .o 13, .o 14], .l .str, .l .end, .l .parcel, .l .record, .l .record, .l .end, .l .parcel, .l .record, .l .record] pS),
  (31,ct cod [1,2,4,10,16,120,121,122] [.c (.s), .c (.r 4 0), .c (.r 5 0), .c (.o 6), .c (.o 7), .c (.sb 6), .c (.i .i64), .c (.i .i64)] [.d, .d, .d, .d, .x [.s, .i .i64, .o 8, .o 9, .s, .o 10, .o 11], .x [.s, .i .i64, .o 12, .o 13, .s, .o 14, .o 15], .l .str, .l .int, .l .end, .l .parcel, .l .record, .l .record, .l .end, .l .parcel, .l .record, .l .record] kO),
  (43,ct cod [1,2,4,10,16] [.c (.s), .c (.r 4 0), .c (.r 5 0), .c (.o 6), .c (.o 7)] [.d, .d, .d, .d, .x [.s, .i .i64, .o 8, .o 9, .s, .o 10, .o 11], .x [.s, .i .i64, .o 12, .o 13, .s, .o 14, .o 15], .l .str, .l .int, .l .end, .l .parcel, .l .record, .l .record, .l .end, .l .parcel, .l .record, .l .record] m9),
  (46,ct cod [2,4,16] [.c (.r 4 0), .c (.r 5 0), .c (.o 6)] [.d, .d, .d, .d, .x [.s, .i .i64, .o 7, .o 8, .s, .o 9, .o 10], .x [.s, .i .i64, .o 11, .o 12, .s, .o 13, .o 14], .l .int, .l .end, .l .parcel, .l .record, .l .record, .l .end, .l .parcel, .l .record, .l .record] m0),
  (58,ct cod [1,2,4,10,16] [.c (.s), .c (.r 4 0), .c (.r 5 0), .c (.o 6), .c (.o 7)] [.d, .d, .d, .d, .x [.s, .i .i64, .o 8, .o 9, .s, .o 10, .o 11], .x [.s, .i .i64, .o 12, .o 13, .s, .o 14, .o 15], .l .str, .l .int, .l .end, .l .parcel, .l .record, .l .record, .l .end, .l .parcel, .l .record, .l .record] nJ),
  (52,ct cod [2,4,24,225,226] [.c (.r 4 0), .c (.r 5 0), .c (.o 6), .c (.i .i64), .c (.i .i64)] [.d, .d, .d, .d, .x [.s, .i .i64, .o 7, .o 8, .s, .o 9, .o 10], .x [.s, .i .i64, .o 11, .o 12, .s, .o 13, .o 14], .l .byte, .l .end, .l .parcel, .l .record, .l .record, .l .end, .l .parcel, .l .record, .l .record] iL),
  (63,ct cod [1,2,4] [.c (.s), .c (.r 4 0), .c (.r 5 0)] [.d, .d, .d, .d, .x [.s, .i .i64, .o 6, .o 7, .s, .o 8, .o 9], .x [.s, .i .i64, .o 10, .o 11, .s, .o 12, .o 13], .l .end, .l .parcel, .l .record, .l .record, .l .end, .l .parcel, .l .record, .l .record] mO),
  (56,ct cod [2,4,24,225,226] [.c (.r 4 0), .c (.r 5 0), .c (.o 6), .c (.i .i64), .c (.i .i64)] [.d, .d, .d, .d, .x [.s, .i .i64, .o 7, .o 8, .s, .o 9, .o 10], .x [.s, .i .i64, .o 11, .o 12, .s, .o 13, .o 14], .l .byte, .l .end, .l .parcel, .l .record, .l .record, .l .end, .l .parcel, .l .record, .l .record] kH),
  (68,ct cod [2,4,26] [.c (.r 4 0), .c (.r 5 0), .c (.s)] [.d, .d, .d, .d, .x [.s, .i .i64, .o 6, .o 7, .s, .o 8, .o 9], .x [.s, .i .i64, .o 10, .o 11, .s, .o 12, .o 13], .l .end, .l .parcel, .l .record, .l .record, .l .end, .l .parcel, .l .record, .l .record] mX),
  (70,ct cod [2,4,26] [.c (.r 4 0), .c (.r 5 0), .c (.s)] [.d, .d, .d, .d, .x [.s, .i .i64, .o 6, .o 7, .s, .o 8, .o 9], .x [.s, .i .i64, .o 10, .o 11, .s, .o 12, .o 13], .l .end, .l .parcel, .l .record, .l .record, .l .end, .l .parcel, .l .record, .l .record] mP),
  (72,ct cod [2,4,26] [.c (.r 4 0), .c (.r 5 0), .c (.s)] [.d, .d, .d, .d, .x [.s, .i .i64, .o 6, .o 7, .s, .o 8, .o 9], .x [.s, .i .i64, .o 10, .o 11, .s, .o 12, .o 13], .l .end, .l .parcel, .l .record, .l .record, .l .end, .l .parcel, .l .record, .l .record] nK)]
theorem SU (k:Nat):SummOk Tryz.prog cod 13 (I3 k):=bA aF Tryz.f13 (fun k=>aW [(35,qQ k),(36,u7 k),(37,yO k),(38,sL k),(39,R2 k),(40,sR k),(11,qM k),(12,qE k),(41,sM k),(42,H7 k),(43,H1 k),(44,EC k),(45,JJ k)]) TU false [.cell 4 33, .tmp 5] 4 [true,true,true,true] mixed Tryz.func13 (by kernel_rfl) (by kernel_rfl) (by kernel_rfl) (by kernel_rfl)
  (fun k=>Known.of tok eok aF (all_cons (xV k) (all_cons (DU k) (all_cons (G5 k) (all_cons (vO k) (all_cons (ZA k) (all_cons (vK k) (all_cons (uX k) (all_cons (u6 k) (all_cons (wI k) (all_cons (RG k) (all_cons (SR k) (all_cons (OL k) (all_cons (ST k) (aB)))))))))))))) gok)
  (fun k=>QuietOk.of (all_cons (fun h r=>⟨rfl,rfl⟩) (all_cons (fun h r=>by cases h) (all_cons (fun h r=>⟨rfl,rfl⟩) (all_cons (fun h r=>by cases h) (all_cons (fun h r=>by cases h) (all_cons (fun h r=>⟨rfl,rfl⟩) (all_cons (fun h r=>by cases h) (all_cons (fun h r=>by cases h) (all_cons (fun h r=>by cases h) (all_cons (fun h r=>by cases h) (all_cons (fun h r=>⟨rfl,rfl⟩) (all_cons (fun h r=>⟨rfl,rfl⟩) (all_cons (fun h r=>⟨rfl,rfl⟩) (aB)))))))))))))))
  (fun a=>rfl)
  (all_cons (aO aF (by kernel_rfl) (by (repeat intro _);show _=_;kernel_rfl) (fun k=>by (repeat intro _);show _=_;kernel_rfl)) (all_cons (aO aF (by kernel_rfl) (by (repeat intro _);show _=_;kernel_rfl) (fun k=>by (repeat intro _);show _=_;kernel_rfl)) (all_cons (aO aF (by kernel_rfl) (by (repeat intro _);show _=_;kernel_rfl) (fun k=>by (repeat intro _);show _=_;kernel_rfl)) (all_cons (aO aF (by kernel_rfl) (by (repeat intro _);show _=_;kernel_rfl) (fun k=>by (repeat intro _);show _=_;kernel_rfl)) (all_cons (aO aF (by kernel_rfl) (by (repeat intro _);show _=_;kernel_rfl) (fun k=>by (repeat intro _);show _=_;kernel_rfl)) (all_cons (aO aF (by kernel_rfl) (by (repeat intro _);show _=_;kernel_rfl) (fun k=>by (repeat intro _);show _=_;kernel_rfl)) (all_cons (aO aF (by kernel_rfl) (by (repeat intro _);show _=_;kernel_rfl) (fun k=>by (repeat intro _);show _=_;kernel_rfl)) (all_cons (aO aF (by kernel_rfl) (by (repeat intro _);show _=_;kernel_rfl) (fun k=>by (repeat intro _);show _=_;kernel_rfl)) (all_cons (aO aF (by kernel_rfl) (by (repeat intro _);show _=_;kernel_rfl) (fun k=>by (repeat intro _);show _=_;kernel_rfl)) (all_cons (aO aF (by kernel_rfl) (by (repeat intro _);show _=_;kernel_rfl) (fun k=>by (repeat intro _);show _=_;kernel_rfl)) (all_cons (aO aF (by kernel_rfl) (by (repeat intro _);show _=_;kernel_rfl) (fun k=>by (repeat intro _);show _=_;kernel_rfl)) (all_cons (aO aF (by kernel_rfl) (by (repeat intro _);show _=_;kernel_rfl) (fun k=>by (repeat intro _);show _=_;kernel_rfl)) (aB)))))))))))))
  (fun k=>by (repeat intro _);show _=_;kernel_rfl)
noncomputable def iU (k:Nat):bT K TyK:=sm cod (Int×Unit×cW) [.mv, .bo] [.c (.r 0 0), .c (.s)] [.x [.y 0, .o 1], .l .bbyte] (fun k v1 v2 v3=>dG k (⟨v2,v3⟩:cW) v1) k [.c (.i .i64), .c (.f)] [.x [.r 0 0, .o 2], .d, .l .bbyte] (fun r=>(r.1,(),(),(),r.2.2.buf,())) (fun v1 v2=>(v1,(),(⟨true,v2⟩:cW))) false
theorem oP (k:Nat):SummOk Tryz.prog cod 14 (iU k):=bA aF Tryz.f14 (fun k=>aW [(46,a6 k)]) [] false [.tmp 4, .tmp 5] 2 [false,false] mixed Tryz.func14 (by kernel_rfl) (by kernel_rfl) (by kernel_rfl) (by kernel_rfl)
  (fun k=>Known.of gU_ gS_ aF (all_cons (pT k) (aB)) gok)
  (fun k=>QuietOk.of (all_cons (fun h r=>by cases h) (aB)))
  (fun a=>rfl)
  (aB)
  (fun k=>by (repeat intro _);cases ‹Bool›<;>(show _=_;kernel_rfl))
noncomputable def yG (k:Nat):bT K TyK:=sm cod (ByteArray) [.bo] [.c (.s)] [] (sE) k [.c (.s)] [] (fun r=>(r,())) (fun v1=>v1) true
noncomputable abbrev KZ:List (Nat×Cut K TyK (ByteArray)):=[(4,ct cod [0,3] [.c (.s), .c (.o 0)] [.l .str] gV),
  (9,ct cod [4,5,32,33,34] [.c (.r 0 0), .c (.r 1 0), .c (.o 2), .c (.i .i64), .c (.i .i64)] [.x [.s, .i .i64, .o 3, .o 4, .s, .o 5, .o 6], .x [.y 1, .o 7], .l .str, .l .end, .l .parcel, .l .record, .l .record, .l .bbyte] gP)]
theorem H9 (k:Nat):SummOk Tryz.prog cod 6 (yG k):=bA aF Tryz.f6 (fun k=>aW [(11,qM k),(12,qE k),(13,I3 k),(14,iU k),(15,bE k)]) KZ false [.tmp 2] 0 [] mixed Tryz.func6 (by kernel_rfl) (by kernel_rfl) (by kernel_rfl) (by kernel_rfl)
  (fun k=>Known.of tok eok aF (all_cons (uX k) (all_cons (u6 k) (all_cons (SU k) (all_cons (oP k) (all_cons (sT k) (aB)))))) gok)
  (fun k=>QuietOk.of (all_cons (fun h r=>by cases h) (all_cons (fun h r=>by cases h) (all_cons (fun h r=>by cases h) (all_cons (fun h r=>by cases h) (all_cons (fun h r=>by cases h) (aB)))))))
  (fun a=>rfl)
  (all_cons (aO aF (by kernel_rfl) (by (repeat intro _);show _=_;kernel_rfl) (fun k=>by (repeat intro _);show _=_;kernel_rfl)) (all_cons (aO aF (by kernel_rfl) (by (repeat intro _);cases ‹Bool›<;>(show _=_;kernel_rfl)) (fun k=>by (repeat intro _);cases ‹Bool›<;>(show _=_;kernel_rfl))) (aB)))
  (fun k=>by (repeat intro _);show _=_;kernel_rfl)
noncomputable def wY (k:Nat):bT K TyK:=sm cod (Bool) [.pe] [.c (.s)] [] (iK) k [.c (.b)] [] (fun r=>(r,())) (fun v1=>v1) true
theorem ok_laws_FnExactSession (k:Nat):SummOk Tryz.prog cod 3 (wY k):=bA aF Tryz.f3 (fun k=>aW [(5,yP k),(6,yG k)]) [] false [.tmp 2] 0 [] mixed Tryz.func3 (by kernel_rfl) (by kernel_rfl) (by kernel_rfl) (by kernel_rfl)
  (fun k=>Known.of tok eok aF (all_cons (H0 k) (all_cons (H9 k) (aB))) gok)
  (fun k=>QuietOk.of (all_cons (fun h r=>⟨rfl,rfl⟩) (all_cons (fun h r=>⟨rfl,rfl⟩) (aB))))
  (fun a=>rfl)
  (aB)
  (fun k=>by (repeat intro _);show _=_;kernel_rfl)
end Km.X
