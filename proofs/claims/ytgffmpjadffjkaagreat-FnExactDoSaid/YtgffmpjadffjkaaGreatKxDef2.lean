/- A part of the proof of FnExactDo: the functions that it reads off the program. There is no condition. -/
import Derived.Test.YtgffmpjadffjkaaGreatKxDef1
import Derived.Test.YtgffmpjadffjkaaGreatKmAm4
namespace Km.X
open Go Km
set_option linter.unusedVariables false
set_option maxRecDepth 100000
mutual
noncomputable def b5_:Nat→List an_→Int→Int→ByteArray→Int→List an_→List ac_→ByteArray→List ab_→List ab_→Option (Bool)
  | 0,_,_,_,_,_,_,_,_,_,_=>none
  | k+1,x0,x1,x2,x3,x4,x5,x6,x7,x8,x9=>
    bif (decide (x2<x1)) then
      (idx x0 x2).bind fun y1=>
      (bV_ k y1).bind fun r2=>
      bif (!r2) then
        some false
      else
        bif (y1.Number !=(IntKind.wrap .i64 (x2+1))) then
          some false
        else
          b5_ k x0 x1 (IntKind.wrap .i64 (x2+1)) x3 x4 x5 x6 x7 x8 x9
    else
      a4_ k x6 (x6.length:Int) 0 x3 x4 x5 x6 x7 x8 x9
noncomputable def a4_:Nat→List ac_→Int→Int→ByteArray→Int→List an_→List ac_→ByteArray→List ab_→List ab_→Option (Bool)
  | 0,_,_,_,_,_,_,_,_,_,_=>none
  | k+1,x0,x1,x2,x3,x4,x5,x6,x7,x8,x9=>
    bif (decide (x2<x1)) then
      (idx x0 x2).bind fun y3=>
      bif (y3.To !=1) then
        bif (y3.To !=2) then
          some false
        else
          bif (decide ((y3.Sent.size:Int)>100)) then
            some false
          else
            bif (decide ((y3.Bytes.size:Int)>100)) then
              some false
            else
              a4_ k x0 x1 (IntKind.wrap .i64 (x2+1)) x3 x4 x5 x6 x7 x8 x9
      else
        bif (decide ((y3.Sent.size:Int)>100)) then
          some false
        else
          bif (decide ((y3.Bytes.size:Int)>100)) then
            some false
          else
            a4_ k x0 x1 (IntKind.wrap .i64 (x2+1)) x3 x4 x5 x6 x7 x8 x9
    else
      a5_ k (([x8,x9]:List (List ab_)).length:Int) 0 ([x8,x9]:List (List ab_))
noncomputable def a5_:Nat→Int→Int→List (List ab_)→Option (Bool)
  | 0,_,_,_=>none
  | k+1,x0,x1,x2=>
    bif (decide (x1<x0)) then
      (idx x2 x1).bind fun _=>
      (x2[(Int.toNat x1)]?).bind fun y4=>
      a6_ k x0 x1 y4 (y4.length:Int) 0 x2
    else
      some true
noncomputable def a6_:Nat→Int→Int→List ab_→Int→Int→List (List ab_)→Option (Bool)
  | 0,_,_,_,_,_,_=>none
  | k+1,x0,x1,x2,x3,x4,x5=>
    bif (decide (x4<x3)) then
      (idx x2 x4).bind fun y5=>
      bif (y5.From !=1) then
        bif (y5.From !=2) then
          some false
        else
          (aX_ k y5.A 1 1000).bind fun r6=>
          bif (!r6) then
            some false
          else
            (aX_ k y5.B 1 1000).bind fun r7=>
            bif (!r7) then
              some false
            else
              bif (decide ((y5.Text.size:Int)>200)) then
                some false
              else
                a6_ k x0 x1 x2 x3 (IntKind.wrap .i64 (x4+1)) x5
      else
        (aX_ k y5.A 1 1000).bind fun r8=>
        bif (!r8) then
          some false
        else
          (aX_ k y5.B 1 1000).bind fun r9=>
          bif (!r9) then
            some false
          else
            bif (decide ((y5.Text.size:Int)>200)) then
              some false
            else
              a6_ k x0 x1 x2 x3 (IntKind.wrap .i64 (x4+1)) x5
    else
      a5_ k x0 (IntKind.wrap .i64 (x1+1)) x5
end
noncomputable def e2_ (k:Nat) (a0:ae_):Option (Bool):=
  bif (decide (a0.Width<1)) then
    some false
  else
    bif (decide (a0.Width>8)) then
      some false
    else
      bif (decide ((a0.Key.size:Int)>30)) then
        some false
      else
        bif ((a0.Ends.length:Int) !=2) then
          some false
        else
          bif (decide ((a0.Flight.length:Int)>1000)) then
            some false
          else
            bif (decide ((IntKind.wrap .i64 ((a0.Given.length:Int)+(a0.Taken.length:Int)))>400)) then
              some false
            else
              b5_ k a0.Ends (a0.Ends.length:Int) 0 a0.Key a0.Width a0.Ends a0.Flight a0.Forged a0.Given a0.Taken
noncomputable def bO_:Nat→Int→Int→ByteArray→Int→List ac_→ByteArray→List ab_→List ab_→ByteArray→Int→ByteArray→List an_→List an_→List ac_→List ab_→List ab_→Option (ae_)
  | 0,_,_,_,_,_,_,_,_,_,_,_,_,_,_,_,_=>none
  | k+1,x0,x1,x2,x3,x4,x5,x6,x7,x8,x9,x10,x11,x12,x13,x14,x15=>
    bif (decide (x1<x0)) then
      (idx x11 x1).bind fun _=>
      (x11[(Int.toNat x1)]?).bind fun y2=>
      (cm_ k y2).bind fun r3=>
      (idx x11 x1).bind fun _=>
      (x11[(Int.toNat x1)]?).bind fun y4=>
      bO_ k x0 (IntKind.wrap .i64 (x1+1)) x2 x3 x4 x5 x6 x7 x8 x9 x10 (x11.set (Int.toNat x1) r3) x12 x13 x14 x15
    else
      (app 40 ([]:List ac_) x4).bind fun l5=>
      (app 40 ([]:List ab_) x6).bind fun l6=>
      (app 40 ([]:List ab_) x7).bind fun l7=>
      some (⟨x2,x3,x11,l5,x5,l6,l7⟩:ae_)
noncomputable def dG_ (k:Nat) (a0:ae_):Option (ae_):=
  (app 152 ([]:List an_) a0.Ends).bind fun l1=>
  bO_ k (l1.length:Int) 0 a0.Key a0.Width a0.Flight a0.Forged a0.Given a0.Taken (⟨#[]⟩:ByteArray) 0 (⟨#[]⟩:ByteArray) l1 ([]:List an_) ([]:List ac_) ([]:List ab_) ([]:List ab_)
mutual
noncomputable def be_:Nat→Int→Int→ByteArray→Int→ByteArray→List an_→List ac_→List ab_→List ab_→Option (ae_)
  | 0,_,_,_,_,_,_,_,_,_=>none
  | k+1,x0,x1,x2,x3,x4,x5,x6,x7,x8=>
    bif (decide (x1<x0)) then
      (idx x5 x1).bind fun _=>
      (x5[(Int.toNat x1)]?).bind fun y1=>
      (gH_ k y1).bind fun r2=>
      (idx x5 x1).bind fun _=>
      (x5[(Int.toNat x1)]?).bind fun y3=>
      b3_ k x1 x0 x1 (r2.Out.length:Int) 0 x2 x3 x4 r2.Out (x5.set (Int.toNat x1) r2.End) x6 x7 x8
    else
      some (⟨x2,x3,x5,x6,x4,x7,x8⟩:ae_)
noncomputable def b3_:Nat→Int→Int→Int→Int→Int→ByteArray→Int→ByteArray→List ad_→List an_→List ac_→List ab_→List ab_→Option (ae_)
  | 0,_,_,_,_,_,_,_,_,_,_,_,_,_=>none
  | k+1,x0,x1,x2,x3,x4,x5,x6,x7,x8,x9,x10,x11,x12=>
    bif (decide (x4<x3)) then
      (idx x8 x4).bind fun _=>
      (x8[(Int.toNat x4)]?).bind fun y4=>
      bif (decide ((x10.length:Int)<1000)) then
        (c2_ k y4 x5 x6).bind fun r5=>
        (app 40 x10 ([(⟨(IntKind.wrap .i64 (2-x0)),r5,r5⟩:ac_)]:List ac_)).bind fun l6=>
        cA_ k x0 x1 x2 x3 x4 x5 x6 x7 x8 x9 l6 x11 x12
      else
        cA_ k x0 x1 x2 x3 x4 x5 x6 x7 x8 x9 x10 x11 x12
    else
      be_ k x1 (IntKind.wrap .i64 (x2+1)) x5 x6 x7 x9 x10 x11 x12
noncomputable def cA_:Nat→Int→Int→Int→Int→Int→ByteArray→Int→ByteArray→List ad_→List an_→List ac_→List ab_→List ab_→Option (ae_)
  | 0,_,_,_,_,_,_,_,_,_,_,_,_,_=>none
  | k+1,x0,x1,x2,x3,x4,x5,x6,x7,x8,x9,x10,x11,x12=>
    b3_ k x0 x1 x2 x3 (IntKind.wrap .i64 (x4+1)) x5 x6 x7 x8 x9 x10 x11 x12
end
noncomputable def eX_ (k:Nat) (a0:ae_):Option (ae_):=
  be_ k (a0.Ends.length:Int) 0 a0.Key a0.Width a0.Forged a0.Ends a0.Flight a0.Given a0.Taken
noncomputable def bH_:Nat→ByteArray→Int→ByteArray→Int→ByteArray→ByteArray→Int→Int→Int→Int→Int→Int→Int→Bool→ByteArray→List an_→List ac_→List ab_→List ab_→Option (ae_)
  | 0,_,_,_,_,_,_,_,_,_,_,_,_,_,_,_,_,_,_,_=>none
  | k+1,x0,x1,x2,x3,x4,x5,x6,x7,x8,x9,x10,x11,x12,x13,x14,x15,x16,x17,x18=>
    (idx x15 (IntKind.wrap .i64 (x3-1))).bind fun _=>
    (x15[(Int.toNat (IntKind.wrap .i64 (x3-1)))]?).bind fun y2=>
    (gN_ k y2 (⟨x6,x7,x8,x9,x10,x11,x12,x13,x14⟩:ad_)).bind fun r3=>
    (idx x15 (IntKind.wrap .i64 (x3-1))).bind fun _=>
    (x15[(Int.toNat (IntKind.wrap .i64 (x3-1)))]?).bind fun y4=>
    some (⟨x0,x1,(x15.set (Int.toNat (IntKind.wrap .i64 (x3-1))) r3.End),x16,x2,x17,x18⟩:ae_)
noncomputable def eo_ (k:Nat) (a0:ae_) (a1:ac_):Option (ae_):=
  (eP_ k a1.Bytes a0.Key a0.Width).bind fun r1=>
  bif (!r1.2) then
    some a0
  else
    bif (!(a1.Bytes.toList==a1.Sent.toList)) then
      bif (a0.Forged.toList==(⟨#[]⟩:ByteArray).toList) then
        bH_ k a0.Key a0.Width a1.Bytes a1.To a1.Sent a1.Bytes r1.1.Kind r1.1.From r1.1.Mine r1.1.Yours r1.1.Next r1.1.Mask r1.1.Seq r1.1.Last r1.1.Part a0.Ends a0.Flight a0.Given a0.Taken
      else
        bH_ k a0.Key a0.Width a0.Forged a1.To a1.Sent a1.Bytes r1.1.Kind r1.1.From r1.1.Mine r1.1.Yours r1.1.Next r1.1.Mask r1.1.Seq r1.1.Last r1.1.Part a0.Ends a0.Flight a0.Given a0.Taken
    else
      bH_ k a0.Key a0.Width a0.Forged a1.To a1.Sent a1.Bytes r1.1.Kind r1.1.From r1.1.Mine r1.1.Yours r1.1.Next r1.1.Mask r1.1.Seq r1.1.Last r1.1.Part a0.Ends a0.Flight a0.Given a0.Taken
noncomputable def dU_ (k:Nat) (a0:ae_):Option (Bool×ae_):=
  some ((decide ((IntKind.wrap .i64 ((a0.Given.length:Int)+(a0.Taken.length:Int)))≥400)),a0)
noncomputable def e4_ (k:Nat) (a0:ae_) (a1:Int):Option (ae_):=
  (dU_ k a0).bind fun r1=>
  bif r1.1 then
    some r1.2
  else
    (idx r1.2.Ends (IntKind.wrap .i64 (a1-1))).bind fun _=>
    (r1.2.Ends[(Int.toNat (IntKind.wrap .i64 (a1-1)))]?).bind fun y2=>
    (hf_ k y2).bind fun r3=>
    bif (r3.Code==0) then
      (idx r1.2.Ends (IntKind.wrap .i64 (a1-1))).bind fun _=>
      (r1.2.Ends[(Int.toNat (IntKind.wrap .i64 (a1-1)))]?).bind fun y4=>
      (idx r1.2.Ends (IntKind.wrap .i64 (a1-1))).bind fun _=>
      (r1.2.Ends[(Int.toNat (IntKind.wrap .i64 (a1-1)))]?).bind fun y5=>
      (app 40 r1.2.Taken ([(⟨(IntKind.wrap .i64 (3-a1)),y4.Peer,y4.Life,r3.Text⟩:ab_)]:List ab_)).bind fun l6=>
      some (⟨r1.2.Key,r1.2.Width,(r1.2.Ends.set (Int.toNat (IntKind.wrap .i64 (a1-1))) r3.End),r1.2.Flight,r1.2.Forged,r1.2.Given,l6⟩:ae_)
    else
      some r1.2
mutual
noncomputable def ht_:Nat→Bool→Int→Int→Int→Int→ByteArray→ByteArray→Int→ByteArray→ByteArray→Int→ByteArray→List an_→List ac_→List ab_→List ab_→List an_→List ac_→List ab_→List ab_→Option (ae_)
  | 0,_,_,_,_,_,_,_,_,_,_,_,_,_,_,_,_,_,_,_,_=>none
  | k+1,x0,x1,x2,x3,x4,x5,x6,x7,x8,x9,x10,x11,x12,x13,x14,x15,x16,x17,x18,x19=>
    bif (decide (x2≥0)) then
      hx_ k x0 (decide (x2<(x17.length:Int))) x1 x2 x3 x4 x5 x6 x7 x8 x9 x10 x11 x12 x13 x14 x15 x16 x17 x18 x19
    else
      hx_ k x0 false x1 x2 x3 x4 x5 x6 x7 x8 x9 x10 x11 x12 x13 x14 x15 x16 x17 x18 x19
noncomputable def hx_:Nat→Bool→Bool→Int→Int→Int→Int→ByteArray→ByteArray→Int→ByteArray→ByteArray→Int→ByteArray→List an_→List ac_→List ab_→List ab_→List an_→List ac_→List ab_→List ab_→Option (ae_)
  | 0,_,_,_,_,_,_,_,_,_,_,_,_,_,_,_,_,_,_,_,_,_=>none
  | k+1,x0,x1,x2,x3,x4,x5,x6,x7,x8,x9,x10,x11,x12,x13,x14,x15,x16,x17,x18,x19,x20=>
    bif (x2==1) then
      (eX_ k (⟨x10,x11,x17,x18,x12,x19,x20⟩:ae_)).bind fun r3=>
      au_ k x7 x8 x9 r3.Key r3.Width r3.Forged x13 x14 x15 x16 r3.Ends r3.Flight r3.Given r3.Taken
    else
      bif (x2==2) then
        gt_ k x1 x2 x3 x4 x5 x6 x7 x8 x9 x10 x11 x12 x13 x14 x15 x16 x17 x18 x19 x20
      else
        bif (x2==4) then
          gt_ k x1 x2 x3 x4 x5 x6 x7 x8 x9 x10 x11 x12 x13 x14 x15 x16 x17 x18 x19 x20
        else
          ig_ k x0 x1 x2 x2 x3 x4 x5 x6 x7 x8 x9 x10 x11 x12 x13 x14 x15 x16 x17 x18 x19 x20
noncomputable def au_:Nat→ByteArray→Int→ByteArray→ByteArray→Int→ByteArray→List an_→List ac_→List ab_→List ab_→List an_→List ac_→List ab_→List ab_→Option (ae_)
  | 0,_,_,_,_,_,_,_,_,_,_,_,_,_,_=>none
  | k+1,x0,x1,x2,x3,x4,x5,x6,x7,x8,x9,x10,x11,x12,x13=>
    some (⟨x3,x4,x10,x11,x5,x12,x13⟩:ae_)
noncomputable def gt_:Nat→Bool→Int→Int→Int→Int→ByteArray→ByteArray→Int→ByteArray→ByteArray→Int→ByteArray→List an_→List ac_→List ab_→List ab_→List an_→List ac_→List ab_→List ab_→Option (ae_)
  | 0,_,_,_,_,_,_,_,_,_,_,_,_,_,_,_,_,_,_,_,_=>none
  | k+1,x0,x1,x2,x3,x4,x5,x6,x7,x8,x9,x10,x11,x12,x13,x14,x15,x16,x17,x18,x19=>
    bif x0 then
      (idx x17 x2).bind fun _=>
      (x17[(Int.toNat x2)]?).bind fun y4=>
      (if (x2:Int)=x2 then wnd x17.length 0 x2 else none).bind fun p5=>
      (wnd x17.length (IntKind.wrap .i64 (x2+1)) (x17.length:Int)).bind fun p6=>
      (app 40 (dO_ x17 p5.1 p5.2) (dO_ x17 p6.1 p6.2)).bind fun l7=>
      bif (x1==2) then
        (eo_ k (⟨x9,x10,x16,l7,x11,x18,x19⟩:ae_) y4).bind fun r8=>
        au_ k x6 x7 x8 r8.Key r8.Width r8.Forged x12 x13 x14 x15 r8.Ends r8.Flight r8.Given r8.Taken
      else
        au_ k x6 x7 x8 x9 x10 x11 x12 x13 x14 x15 x16 l7 x18 x19
    else
      au_ k x6 x7 x8 x9 x10 x11 x12 x13 x14 x15 x16 x17 x18 x19
noncomputable def ig_:Nat→Bool→Bool→Int→Int→Int→Int→Int→ByteArray→ByteArray→Int→ByteArray→ByteArray→Int→ByteArray→List an_→List ac_→List ab_→List ab_→List an_→List ac_→List ab_→List ab_→Option (ae_)
  | 0,_,_,_,_,_,_,_,_,_,_,_,_,_,_,_,_,_,_,_,_,_,_=>none
  | k+1,x0,x1,x2,x3,x4,x5,x6,x7,x8,x9,x10,x11,x12,x13,x14,x15,x16,x17,x18,x19,x20,x21=>
    bif (x2==3) then
      bif x1 then
        bif (decide ((x19.length:Int)<1000)) then
          (idx x19 x4).bind fun _=>
          (x19[(Int.toNat x4)]?).bind fun y9=>
          (app 40 x19 ([y9]:List ac_)).bind fun l10=>
          au_ k x8 x9 x10 x11 x12 x13 x14 x15 x16 x17 x18 l10 x20 x21
        else
          au_ k x8 x9 x10 x11 x12 x13 x14 x15 x16 x17 x18 x19 x20 x21
      else
        au_ k x8 x9 x10 x11 x12 x13 x14 x15 x16 x17 x18 x19 x20 x21
    else
      bif (x2==5) then
        bif x1 then
          bif (decide (x6≥0)) then
            bif (decide (x5≥0)) then
              (idx x19 x4).bind fun _=>
              (x19[(Int.toNat x4)]?).bind fun y11=>
              bif (decide (x5<(y11.Bytes.size:Int))) then
                (idx x19 x4).bind fun _=>
                (x19[(Int.toNat x4)]?).bind fun y12=>
                (idx (bX_ y12.Bytes) x5).bind fun _=>
                ((bX_ y12.Bytes)[(Int.toNat x5)]?).bind fun y13=>
                (qN_ x6 256).bind fun q14=>
                (idx (bX_ y12.Bytes) x5).bind fun _=>
                ((bX_ y12.Bytes)[(Int.toNat x5)]?).bind fun y15=>
                (idx x19 x4).bind fun _=>
                (x19[(Int.toNat x4)]?).bind fun y16=>
                au_ k x8 x9 x10 x11 x12 x13 x14 x15 x16 x17 x18 (x19.set (Int.toNat x4) (⟨y16.To,y16.Sent,(iJ_ ((bX_ y12.Bytes).set (Int.toNat x5) (m6_ .u8 y13 (IntKind.wrap .u8 q14))))⟩:ac_)) x20 x21
              else
                au_ k x8 x9 x10 x11 x12 x13 x14 x15 x16 x17 x18 x19 x20 x21
            else
              au_ k x8 x9 x10 x11 x12 x13 x14 x15 x16 x17 x18 x19 x20 x21
          else
            au_ k x8 x9 x10 x11 x12 x13 x14 x15 x16 x17 x18 x19 x20 x21
        else
          au_ k x8 x9 x10 x11 x12 x13 x14 x15 x16 x17 x18 x19 x20 x21
      else
        bif (x2==6) then
          bif x1 then
            bif (decide (x5≥0)) then
              (idx x19 x4).bind fun _=>
              (x19[(Int.toNat x4)]?).bind fun y17=>
              bif (decide (x5≤(y17.Bytes.size:Int))) then
                (idx x19 x4).bind fun _=>
                (x19[(Int.toNat x4)]?).bind fun y18=>
                (wnd y18.Bytes.size 0 x5).bind fun p19=>
                (idx x19 x4).bind fun _=>
                (x19[(Int.toNat x4)]?).bind fun y20=>
                au_ k x8 x9 x10 x11 x12 x13 x14 x15 x16 x17 x18 (x19.set (Int.toNat x4) (⟨y20.To,y20.Sent,(y18.Bytes.extract p19.1 p19.2)⟩:ac_)) x20 x21
              else
                au_ k x8 x9 x10 x11 x12 x13 x14 x15 x16 x17 x18 x19 x20 x21
            else
              au_ k x8 x9 x10 x11 x12 x13 x14 x15 x16 x17 x18 x19 x20 x21
          else
            au_ k x8 x9 x10 x11 x12 x13 x14 x15 x16 x17 x18 x19 x20 x21
        else
          bif (x2==7) then
            bif x1 then
              (idx x19 x4).bind fun _=>
              (x19[(Int.toNat x4)]?).bind fun y21=>
              (idx x19 x4).bind fun _=>
              (x19[(Int.toNat x4)]?).bind fun y22=>
              au_ k x8 x9 x10 x11 x12 x13 x14 x15 x16 x17 x18 (x19.set (Int.toNat x4) (⟨(IntKind.wrap .i64 (3-y21.To)),y22.Sent,y22.Bytes⟩:ac_)) x20 x21
            else
              au_ k x8 x9 x10 x11 x12 x13 x14 x15 x16 x17 x18 x19 x20 x21
          else
            bif (x2==8) then
              bif x0 then
                (idx x18 (IntKind.wrap .i64 (x4-1))).bind fun _=>
                (x18[(Int.toNat (IntKind.wrap .i64 (x4-1)))]?).bind fun y23=>
                (gS_ k y23).bind fun r24=>
                (idx x18 (IntKind.wrap .i64 (x4-1))).bind fun _=>
                (x18[(Int.toNat (IntKind.wrap .i64 (x4-1)))]?).bind fun y25=>
                au_ k x8 x9 x10 x11 x12 x13 x14 x15 x16 x17 (x18.set (Int.toNat (IntKind.wrap .i64 (x4-1))) r24) x19 x20 x21
              else
                au_ k x8 x9 x10 x11 x12 x13 x14 x15 x16 x17 x18 x19 x20 x21
            else
              bif (x2==9) then
                bif x0 then
                  (idx x18 (IntKind.wrap .i64 (x4-1))).bind fun _=>
                  (x18[(Int.toNat (IntKind.wrap .i64 (x4-1)))]?).bind fun y26=>
                  (gM_ k y26).bind fun r27=>
                  (idx x18 (IntKind.wrap .i64 (x4-1))).bind fun _=>
                  (x18[(Int.toNat (IntKind.wrap .i64 (x4-1)))]?).bind fun y28=>
                  au_ k x8 x9 x10 x11 x12 x13 x14 x15 x16 x17 (x18.set (Int.toNat (IntKind.wrap .i64 (x4-1))) r27) x19 x20 x21
                else
                  au_ k x8 x9 x10 x11 x12 x13 x14 x15 x16 x17 x18 x19 x20 x21
              else
                bif (x2==10) then
                  bif x0 then
                    (dU_ k (⟨x11,x12,x18,x19,x13,x20,x21⟩:ae_)).bind fun r29=>
                    bif (!r29.1) then
                      both (
                        (idx r29.2.Ends (IntKind.wrap .i64 (x4-1))).bind fun _=>
                        (r29.2.Ends[(Int.toNat (IntKind.wrap .i64 (x4-1)))]?).bind fun y30=>
                        (fz_ k y30 x7).bind fun r31=>
                        bif (r31.Code==0) then
                          (idx r29.2.Ends (IntKind.wrap .i64 (x4-1))).bind fun _=>
                          (r29.2.Ends[(Int.toNat (IntKind.wrap .i64 (x4-1)))]?).bind fun y32=>
                          (app 40 r29.2.Given ([(⟨x4,r31.End.Life,r31.End.Peer,x7⟩:ab_)]:List ab_)).bind fun l33=>
                          au_ k x8 x9 x10 r29.2.Key r29.2.Width r29.2.Forged x14 x15 x16 x17 (r29.2.Ends.set (Int.toNat (IntKind.wrap .i64 (x4-1))) r31.End) r29.2.Flight l33 r29.2.Taken
                        else
                          au_ k x8 x9 x10 r29.2.Key r29.2.Width r29.2.Forged x14 x15 x16 x17 r29.2.Ends r29.2.Flight r29.2.Given r29.2.Taken
                      ) (
                        (idx r29.2.Ends (IntKind.wrap .i64 (x4-1))).bind fun _=>
                        (r29.2.Ends[(Int.toNat (IntKind.wrap .i64 (x4-1)))]?).bind fun y34=>
                        (fz_ k y34 x7).bind fun r35=>
                        bif (r35.Code==0) then
                          (idx r29.2.Ends (IntKind.wrap .i64 (x4-1))).bind fun _=>
                          (r29.2.Ends[(Int.toNat (IntKind.wrap .i64 (x4-1)))]?).bind fun y36=>
                          (app 40 r29.2.Given ([(⟨x4,r35.End.Life,r35.End.Peer,x7⟩:ab_)]:List ab_)).bind fun l37=>
                          au_ k x8 x9 x10 r29.2.Key r29.2.Width r29.2.Forged x14 x15 x16 x17 (r29.2.Ends.set (Int.toNat (IntKind.wrap .i64 (x4-1))) r35.End) r29.2.Flight l37 r29.2.Taken
                        else
                          au_ k x8 x9 x10 r29.2.Key r29.2.Width r29.2.Forged x14 x15 x16 x17 r29.2.Ends r29.2.Flight r29.2.Given r29.2.Taken
                      )
                    else
                      au_ k x8 x9 x10 r29.2.Key r29.2.Width r29.2.Forged x14 x15 x16 x17 r29.2.Ends r29.2.Flight r29.2.Given r29.2.Taken
                  else
                    au_ k x8 x9 x10 x11 x12 x13 x14 x15 x16 x17 x18 x19 x20 x21
                else
                  bif (x2==11) then
                    bif x0 then
                      (e4_ k (⟨x11,x12,x18,x19,x13,x20,x21⟩:ae_) x4).bind fun r38=>
                      au_ k x8 x9 x10 r38.Key r38.Width r38.Forged x14 x15 x16 x17 r38.Ends r38.Flight r38.Given r38.Taken
                    else
                      au_ k x8 x9 x10 x11 x12 x13 x14 x15 x16 x17 x18 x19 x20 x21
                  else
                    au_ k x8 x9 x10 x11 x12 x13 x14 x15 x16 x17 x18 x19 x20 x21
end
noncomputable def bI_ (k:Nat) (a0:ae_) (a1:bu_):Option (ae_):=
  (e2_ k a0).bind fun r1=>
  bif (!r1) then
    some (⟨(⟨#[]⟩:ByteArray),0,([]:List an_),([]:List ac_),(⟨#[]⟩:ByteArray),([]:List ab_),([]:List ab_)⟩:ae_)
  else
    (dG_ k a0).bind fun r2=>
    bif (a1.A==1) then
      ht_ k true a1.Kind a1.A a1.B a1.C a1.Text (⟨#[]⟩:ByteArray) 0 (⟨#[]⟩:ByteArray) r2.Key r2.Width r2.Forged ([]:List an_) ([]:List ac_) ([]:List ab_) ([]:List ab_) r2.Ends r2.Flight r2.Given r2.Taken
    else
      ht_ k (a1.A==2) a1.Kind a1.A a1.B a1.C a1.Text (⟨#[]⟩:ByteArray) 0 (⟨#[]⟩:ByteArray) r2.Key r2.Width r2.Forged ([]:List an_) ([]:List ac_) ([]:List ab_) ([]:List ab_) r2.Ends r2.Flight r2.Given r2.Taken
noncomputable def bE_:Nat→List ab_→Int→Option (Bool)
  | 0,_,_=>none
  | k+1,x0,x1=>
    bif (decide (x1<(x0.length:Int))) then
      (idx x0 x1).bind fun y1=>
      (aF_ k y1.From 1 2).bind fun r2=>
      bif (!r2) then
        some false
      else
        (aF_ k y1.A 1 1000).bind fun r3=>
        bif (!r3) then
          some false
        else
          (aF_ k y1.B 1 1000).bind fun r4=>
          bif (!r4) then
            some false
          else
            bif (decide ((y1.Text.size:Int)>200)) then
              some false
            else
              bE_ k x0 (IntKind.wrap .i64 (x1+1))
    else
      some true
noncomputable def et_ (k:Nat) (a0:List ab_):Option (Bool):=
  bE_ k a0 0
mutual
noncomputable def b4_:Nat→Int→ByteArray→Int→List an_→List ac_→ByteArray→List ab_→List ab_→Option (Bool)
  | 0,_,_,_,_,_,_,_,_=>none
  | k+1,x0,x1,x2,x3,x4,x5,x6,x7=>
    bif (decide (x0<2)) then
      (idx x3 x0).bind fun y2=>
      (bS_ k y2).bind fun r3=>
      bif (!r3) then
        some false
      else
        (idx x3 x0).bind fun y4=>
        bif (y4.Number !=(IntKind.wrap .i64 (x0+1))) then
          some false
        else
          b4_ k (IntKind.wrap .i64 (x0+1)) x1 x2 x3 x4 x5 x6 x7
    else
      b6_ k 0 x1 x2 x3 x4 x5 x6 x7
noncomputable def b6_:Nat→Int→ByteArray→Int→List an_→List ac_→ByteArray→List ab_→List ab_→Option (Bool)
  | 0,_,_,_,_,_,_,_,_=>none
  | k+1,x0,x1,x2,x3,x4,x5,x6,x7=>
    bif (decide (x0<(x4.length:Int))) then
      (idx x4 x0).bind fun y5=>
      (aF_ k y5.To 1 2).bind fun r6=>
      bif (!r6) then
        some false
      else
        bif (decide ((y5.Sent.size:Int)>100)) then
          some false
        else
          bif (decide ((y5.Bytes.size:Int)>100)) then
            some false
          else
            b6_ k (IntKind.wrap .i64 (x0+1)) x1 x2 x3 x4 x5 x6 x7
    else
      (et_ k x6).bind fun r7=>
      bif r7 then
        (et_ k x7).bind fun r8=>
        some r8
      else
        some false
end
noncomputable def eL_ (k:Nat) (a0:ae_):Option (Bool):=
  (aF_ k a0.Width 1 8).bind fun r1=>
  bif (!r1) then
    some false
  else
    bif (decide ((a0.Key.size:Int)>30)) then
      some false
    else
      bif ((a0.Ends.length:Int) !=2) then
        some false
      else
        bif (decide ((a0.Flight.length:Int)>1000)) then
          some false
        else
          bif (decide ((IntKind.wrap .i64 ((a0.Given.length:Int)+(a0.Taken.length:Int)))>400)) then
            some false
          else
            b4_ k 0 a0.Key a0.Width a0.Ends a0.Flight a0.Forged a0.Given a0.Taken
noncomputable def dE_:Nat→Int→ByteArray→Int→List an_→List ac_→ByteArray→List ab_→List ab_→ByteArray→Int→ByteArray→ByteArray→Int→List ac_→ByteArray→List ab_→List ab_→List an_→List ac_→List ab_→List ab_→List an_→Option (ae_)
  | 0,_,_,_,_,_,_,_,_,_,_,_,_,_,_,_,_,_,_,_,_,_,_=>none
  | k+1,x0,x1,x2,x3,x4,x5,x6,x7,x8,x9,x10,x11,x12,x13,x14,x15,x16,x17,x18,x19,x20,x21=>
    bif (decide (x0<(x3.length:Int))) then
      (idx x3 x0).bind fun y1=>
      (cV_ k y1).bind fun r2=>
      (app 152 x21 ([r2]:List an_)).bind fun l3=>
      dE_ k (IntKind.wrap .i64 (x0+1)) x1 x2 x3 x4 x5 x6 x7 x8 x9 x10 x11 x12 x13 x14 x15 x16 x17 x18 x19 x20 l3
    else
      (app 40 ([]:List ac_) x4).bind fun l4=>
      (app 40 ([]:List ab_) x6).bind fun l5=>
      (app 40 ([]:List ab_) x7).bind fun l6=>
      some (⟨x11,x12,x21,l4,x14,l5,l6⟩:ae_)
noncomputable def gr_ (k:Nat) (a0:ae_):Option (ae_):=
  dE_ k 0 a0.Key a0.Width a0.Ends a0.Flight a0.Forged a0.Given a0.Taken (⟨#[]⟩:ByteArray) 0 (⟨#[]⟩:ByteArray) a0.Key a0.Width a0.Flight a0.Forged a0.Given a0.Taken ([]:List an_) ([]:List ac_) ([]:List ab_) ([]:List ab_) ([]:List an_)
mutual
noncomputable def bR_:Nat→Int→ByteArray→Int→ByteArray→ByteArray→Int→ByteArray→List an_→List ac_→List ab_→List ab_→List an_→List ac_→List ab_→List ab_→Option (ae_)
  | 0,_,_,_,_,_,_,_,_,_,_,_,_,_,_,_=>none
  | k+1,x0,x1,x2,x3,x4,x5,x6,x7,x8,x9,x10,x11,x12,x13,x14=>
    bif (decide (x0<2)) then
      (idx x7 x0).bind fun _=>
      (x7[(Int.toNat x0)]?).bind fun y1=>
      (gT_ k y1).bind fun r2=>
      (idx x7 x0).bind fun _=>
      (x7[(Int.toNat x0)]?).bind fun y3=>
      dF_ k x0 0 x1 x2 x3 x4 x5 x6 r2.Code r2.End.Number r2.End.Up r2.End.Life r2.End.Peer r2.End.Since r2.End.Owes r2.End.Send.Base r2.End.Take.Next r2.End.Take.Open r2.Text (x7.set (Int.toNat x0) r2.End) x8 x9 x10 x11 x12 x13 x14 r2.Out
    else
      some (⟨x1,x2,x7,x8,x3,x9,x10⟩:ae_)
noncomputable def dF_:Nat→Int→Int→ByteArray→Int→ByteArray→ByteArray→Int→ByteArray→Int→Int→Bool→Int→Int→Int→Bool→Int→Int→ByteArray→ByteArray→List an_→List ac_→List ab_→List ab_→List an_→List ac_→List ab_→List ab_→List ad_→Option (ae_)
  | 0,_,_,_,_,_,_,_,_,_,_,_,_,_,_,_,_,_,_,_,_,_,_,_,_,_,_,_,_=>none
  | k+1,x0,x1,x2,x3,x4,x5,x6,x7,x8,x9,x10,x11,x12,x13,x14,x15,x16,x17,x18,x19,x20,x21,x22,x23,x24,x25,x26,x27=>
    bif (decide (x1<(x27.length:Int))) then
      bif (decide ((x20.length:Int)<1000)) then
        (idx x27 x1).bind fun _=>
        (x27[(Int.toNat x1)]?).bind fun y4=>
        (c6_ k y4 x2 x3).bind fun r5=>
        (app 40 x20 ([(⟨(IntKind.wrap .i64 (2-x0)),r5,r5⟩:ac_)]:List ac_)).bind fun l6=>
        dF_ k x0 (IntKind.wrap .i64 (x1+1)) x2 x3 x4 x5 x6 x7 x8 x9 x10 x11 x12 x13 x14 x15 x16 x17 x18 x19 l6 x21 x22 x23 x24 x25 x26 x27
      else
        bR_ k (IntKind.wrap .i64 (x0+1)) x2 x3 x4 x5 x6 x7 x19 x20 x21 x22 x23 x24 x25 x26
    else
      bR_ k (IntKind.wrap .i64 (x0+1)) x2 x3 x4 x5 x6 x7 x19 x20 x21 x22 x23 x24 x25 x26
end
noncomputable def h9_ (k:Nat) (a0:ae_):Option (ae_):=
  bR_ k 0 a0.Key a0.Width a0.Forged (⟨#[]⟩:ByteArray) 0 (⟨#[]⟩:ByteArray) a0.Ends a0.Flight a0.Given a0.Taken ([]:List an_) ([]:List ac_) ([]:List ab_) ([]:List ab_)
noncomputable def ee_ (k:Nat) (a0:List ac_) (a1:Int):Option (List ac_):=
  (wnd a0.length 0 a1).bind fun p1=>
  (app 40 ([]:List ac_) (dO_ a0 p1.1 p1.2)).bind fun l2=>
  (wnd a0.length (IntKind.wrap .i64 (a1+1)) (a0.length:Int)).bind fun p3=>
  (app 40 l2 (dO_ a0 p3.1 p3.2)).bind fun l4=>
  some l4
noncomputable def c4_:Nat→ByteArray→Int→ByteArray→ByteArray→Int→ByteArray→Int→ByteArray→ByteArray→Int→Int→Int→Int→Int→Int→Int→Bool→ByteArray→List an_→List ac_→List ab_→List ab_→List an_→List ac_→List ab_→List ab_→Option (ae_)
  | 0,_,_,_,_,_,_,_,_,_,_,_,_,_,_,_,_,_,_,_,_,_,_,_,_,_,_=>none
  | k+1,x0,x1,x2,x3,x4,x5,x6,x7,x8,x9,x10,x11,x12,x13,x14,x15,x16,x17,x18,x19,x20,x21,x22,x23,x24,x25=>
    (idx x18 (IntKind.wrap .i64 (x6-1))).bind fun _=>
    (x18[(Int.toNat (IntKind.wrap .i64 (x6-1)))]?).bind fun y4=>
    (g0_ k y4 (⟨x9,x10,x11,x12,x13,x14,x15,x16,x17⟩:ad_)).bind fun r5=>
    (idx x18 (IntKind.wrap .i64 (x6-1))).bind fun _=>
    (x18[(Int.toNat (IntKind.wrap .i64 (x6-1)))]?).bind fun y6=>
    some (⟨x0,x1,(x18.set (Int.toNat (IntKind.wrap .i64 (x6-1))) r5.End),x19,x2,x20,x21⟩:ae_)
noncomputable def gC_ (k:Nat) (a0:ae_) (a1:Int):Option (ae_):=
  (idx a0.Flight a1).bind fun _=>
  (a0.Flight[(Int.toNat a1)]?).bind fun y1=>
  (ee_ k a0.Flight a1).bind fun r2=>
  (eY_ k y1.Bytes a0.Key a0.Width).bind fun r3=>
  bif (!r3.2) then
    some (⟨a0.Key,a0.Width,a0.Ends,r2,a0.Forged,a0.Given,a0.Taken⟩:ae_)
  else
    bif (!(y1.Bytes.toList==y1.Sent.toList)) then
      bif (a0.Forged.toList==(⟨#[]⟩:ByteArray).toList) then
        c4_ k a0.Key a0.Width y1.Bytes (⟨#[]⟩:ByteArray) 0 (⟨#[]⟩:ByteArray) y1.To y1.Sent y1.Bytes r3.1.Kind r3.1.From r3.1.Mine r3.1.Yours r3.1.Next r3.1.Mask r3.1.Seq r3.1.Last r3.1.Part a0.Ends r2 a0.Given a0.Taken ([]:List an_) ([]:List ac_) ([]:List ab_) ([]:List ab_)
      else
        c4_ k a0.Key a0.Width a0.Forged (⟨#[]⟩:ByteArray) 0 (⟨#[]⟩:ByteArray) y1.To y1.Sent y1.Bytes r3.1.Kind r3.1.From r3.1.Mine r3.1.Yours r3.1.Next r3.1.Mask r3.1.Seq r3.1.Last r3.1.Part a0.Ends r2 a0.Given a0.Taken ([]:List an_) ([]:List ac_) ([]:List ab_) ([]:List ab_)
    else
      c4_ k a0.Key a0.Width a0.Forged (⟨#[]⟩:ByteArray) 0 (⟨#[]⟩:ByteArray) y1.To y1.Sent y1.Bytes r3.1.Kind r3.1.From r3.1.Mine r3.1.Yours r3.1.Next r3.1.Mask r3.1.Seq r3.1.Last r3.1.Part a0.Ends r2 a0.Given a0.Taken ([]:List an_) ([]:List ac_) ([]:List ab_) ([]:List ab_)
mutual
noncomputable def c7_:Nat→ByteArray→Int→ByteArray→ByteArray→Int→ByteArray→List an_→List ac_→List ab_→List ab_→List an_→List ac_→List ab_→List ab_→Option (ae_)
  | 0,_,_,_,_,_,_,_,_,_,_,_,_,_,_=>none
  | k+1,x0,x1,x2,x3,x4,x5,x6,x7,x8,x9,x10,x11,x12,x13=>
    some (⟨x0,x1,x6,x7,x2,x8,x9⟩:ae_)
noncomputable def aP_:Nat→ByteArray→Int→ByteArray→Int→Int→Int→Int→ByteArray→ByteArray→Int→ByteArray→Int→ByteArray→ByteArray→List an_→List ac_→List ab_→List ab_→List an_→List ac_→List ab_→List ab_→Option (ae_)
  | 0,_,_,_,_,_,_,_,_,_,_,_,_,_,_,_,_,_,_,_,_,_,_=>none
  | k+1,x0,x1,x2,x3,x4,x5,x6,x7,x8,x9,x10,x11,x12,x13,x14,x15,x16,x17,x18,x19,x20,x21=>
    (idx x15 x4).bind fun _=>
    (x15[(Int.toNat x4)]?).bind fun y9=>
    some (⟨x0,x1,x14,(x15.set (Int.toNat x4) (⟨x11,x12,x13⟩:ac_)),x2,x16,x17⟩:ae_)
end
noncomputable def f0_ (k:Nat) (a0:ae_) (a1:bu_):Option (ae_):=
  (idx a0.Flight a1.A).bind fun _=>
  (a0.Flight[(Int.toNat a1.A)]?).bind fun y1=>
  bif (a1.Kind==2) then
    (gC_ k a0 a1.A).bind fun r2=>
    some r2
  else
    bif (a1.Kind==4) then
      (ee_ k a0.Flight a1.A).bind fun r3=>
      some (⟨a0.Key,a0.Width,a0.Ends,r3,a0.Forged,a0.Given,a0.Taken⟩:ae_)
    else
      bif (a1.Kind==3) then
        bif (decide ((a0.Flight.length:Int)<1000)) then
          (app 40 a0.Flight ([y1]:List ac_)).bind fun l4=>
          c7_ k a0.Key a0.Width a0.Forged (⟨#[]⟩:ByteArray) 0 (⟨#[]⟩:ByteArray) a0.Ends l4 a0.Given a0.Taken ([]:List an_) ([]:List ac_) ([]:List ab_) ([]:List ab_)
        else
          c7_ k a0.Key a0.Width a0.Forged (⟨#[]⟩:ByteArray) 0 (⟨#[]⟩:ByteArray) a0.Ends a0.Flight a0.Given a0.Taken ([]:List an_) ([]:List ac_) ([]:List ab_) ([]:List ab_)
      else
        bif (a1.Kind==5) then
          bif (decide (a1.B≥0)) then
            bif (decide (a1.B<(y1.Bytes.size:Int))) then
              bif (decide (a1.C≥0)) then
                (idx (bX_ y1.Bytes) a1.B).bind fun _=>
                ((bX_ y1.Bytes)[(Int.toNat a1.B)]?).bind fun y5=>
                (qN_ a1.C 256).bind fun q6=>
                (idx (bX_ y1.Bytes) a1.B).bind fun _=>
                ((bX_ y1.Bytes)[(Int.toNat a1.B)]?).bind fun y7=>
                aP_ k a0.Key a0.Width a0.Forged a1.Kind a1.A a1.B a1.C a1.Text (⟨#[]⟩:ByteArray) 0 (⟨#[]⟩:ByteArray) y1.To y1.Sent (iJ_ ((bX_ y1.Bytes).set (Int.toNat a1.B) (m6_ .u8 y5 (IntKind.wrap .u8 q6)))) a0.Ends a0.Flight a0.Given a0.Taken ([]:List an_) ([]:List ac_) ([]:List ab_) ([]:List ab_)
              else
                aP_ k a0.Key a0.Width a0.Forged a1.Kind a1.A a1.B a1.C a1.Text (⟨#[]⟩:ByteArray) 0 (⟨#[]⟩:ByteArray) y1.To y1.Sent y1.Bytes a0.Ends a0.Flight a0.Given a0.Taken ([]:List an_) ([]:List ac_) ([]:List ab_) ([]:List ab_)
            else
              aP_ k a0.Key a0.Width a0.Forged a1.Kind a1.A a1.B a1.C a1.Text (⟨#[]⟩:ByteArray) 0 (⟨#[]⟩:ByteArray) y1.To y1.Sent y1.Bytes a0.Ends a0.Flight a0.Given a0.Taken ([]:List an_) ([]:List ac_) ([]:List ab_) ([]:List ab_)
          else
            aP_ k a0.Key a0.Width a0.Forged a1.Kind a1.A a1.B a1.C a1.Text (⟨#[]⟩:ByteArray) 0 (⟨#[]⟩:ByteArray) y1.To y1.Sent y1.Bytes a0.Ends a0.Flight a0.Given a0.Taken ([]:List an_) ([]:List ac_) ([]:List ab_) ([]:List ab_)
        else
          bif (a1.Kind==6) then
            bif (decide (a1.B≥0)) then
              bif (decide (a1.B≤(y1.Bytes.size:Int))) then
                (wnd y1.Bytes.size 0 a1.B).bind fun p8=>
                aP_ k a0.Key a0.Width a0.Forged a1.Kind a1.A a1.B a1.C a1.Text (⟨#[]⟩:ByteArray) 0 (⟨#[]⟩:ByteArray) y1.To y1.Sent (y1.Bytes.extract p8.1 p8.2) a0.Ends a0.Flight a0.Given a0.Taken ([]:List an_) ([]:List ac_) ([]:List ab_) ([]:List ab_)
              else
                aP_ k a0.Key a0.Width a0.Forged a1.Kind a1.A a1.B a1.C a1.Text (⟨#[]⟩:ByteArray) 0 (⟨#[]⟩:ByteArray) y1.To y1.Sent y1.Bytes a0.Ends a0.Flight a0.Given a0.Taken ([]:List an_) ([]:List ac_) ([]:List ab_) ([]:List ab_)
            else
              aP_ k a0.Key a0.Width a0.Forged a1.Kind a1.A a1.B a1.C a1.Text (⟨#[]⟩:ByteArray) 0 (⟨#[]⟩:ByteArray) y1.To y1.Sent y1.Bytes a0.Ends a0.Flight a0.Given a0.Taken ([]:List an_) ([]:List ac_) ([]:List ab_) ([]:List ab_)
          else
            bif (a1.Kind==7) then
              aP_ k a0.Key a0.Width a0.Forged a1.Kind a1.A a1.B a1.C a1.Text (⟨#[]⟩:ByteArray) 0 (⟨#[]⟩:ByteArray) (IntKind.wrap .i64 (3-y1.To)) y1.Sent y1.Bytes a0.Ends a0.Flight a0.Given a0.Taken ([]:List an_) ([]:List ac_) ([]:List ab_) ([]:List ab_)
            else
              aP_ k a0.Key a0.Width a0.Forged a1.Kind a1.A a1.B a1.C a1.Text (⟨#[]⟩:ByteArray) 0 (⟨#[]⟩:ByteArray) y1.To y1.Sent y1.Bytes a0.Ends a0.Flight a0.Given a0.Taken ([]:List an_) ([]:List ac_) ([]:List ab_) ([]:List ab_)
noncomputable def a9_:Nat→ByteArray→Int→ByteArray→ByteArray→Int→ByteArray→List an_→List ac_→List ab_→List ab_→List an_→List ac_→List ab_→List ab_→Option (ae_)
  | 0,_,_,_,_,_,_,_,_,_,_,_,_,_,_=>none
  | k+1,x0,x1,x2,x3,x4,x5,x6,x7,x8,x9,x10,x11,x12,x13=>
    some (⟨x0,x1,x6,x7,x2,x8,x9⟩:ae_)
noncomputable def hB_ (k:Nat) (a0:ae_) (a1:bu_):Option (ae_):=
  (idx a0.Ends (IntKind.wrap .i64 (a1.A-1))).bind fun _=>
  (a0.Ends[(Int.toNat (IntKind.wrap .i64 (a1.A-1)))]?).bind fun y1=>
  bif (a1.Kind==8) then
    (g8_ k y1).bind fun r2=>
    (idx a0.Ends (IntKind.wrap .i64 (a1.A-1))).bind fun _=>
    (a0.Ends[(Int.toNat (IntKind.wrap .i64 (a1.A-1)))]?).bind fun y3=>
    a9_ k a0.Key a0.Width a0.Forged (⟨#[]⟩:ByteArray) 0 (⟨#[]⟩:ByteArray) (a0.Ends.set (Int.toNat (IntKind.wrap .i64 (a1.A-1))) r2) a0.Flight a0.Given a0.Taken ([]:List an_) ([]:List ac_) ([]:List ab_) ([]:List ab_)
  else
    bif (a1.Kind==9) then
      (gZ_ k y1).bind fun r4=>
      (idx a0.Ends (IntKind.wrap .i64 (a1.A-1))).bind fun _=>
      (a0.Ends[(Int.toNat (IntKind.wrap .i64 (a1.A-1)))]?).bind fun y5=>
      a9_ k a0.Key a0.Width a0.Forged (⟨#[]⟩:ByteArray) 0 (⟨#[]⟩:ByteArray) (a0.Ends.set (Int.toNat (IntKind.wrap .i64 (a1.A-1))) r4) a0.Flight a0.Given a0.Taken ([]:List an_) ([]:List ac_) ([]:List ab_) ([]:List ab_)
    else
      bif (a1.Kind==10) then
        (gJ_ k y1 a1.Text).bind fun r6=>
        bif (r6.Code==0) then
          bif (decide ((IntKind.wrap .i64 ((a0.Given.length:Int)+(a0.Taken.length:Int)))<400)) then
            (idx a0.Ends (IntKind.wrap .i64 (a1.A-1))).bind fun _=>
            (a0.Ends[(Int.toNat (IntKind.wrap .i64 (a1.A-1)))]?).bind fun y7=>
            (app 40 a0.Given ([(⟨a1.A,y1.Life,y1.Peer,a1.Text⟩:ab_)]:List ab_)).bind fun l8=>
            a9_ k a0.Key a0.Width a0.Forged (⟨#[]⟩:ByteArray) 0 (⟨#[]⟩:ByteArray) (a0.Ends.set (Int.toNat (IntKind.wrap .i64 (a1.A-1))) r6.End) a0.Flight l8 a0.Taken ([]:List an_) ([]:List ac_) ([]:List ab_) ([]:List ab_)
          else
            a9_ k a0.Key a0.Width a0.Forged (⟨#[]⟩:ByteArray) 0 (⟨#[]⟩:ByteArray) a0.Ends a0.Flight a0.Given a0.Taken ([]:List an_) ([]:List ac_) ([]:List ab_) ([]:List ab_)
        else
          a9_ k a0.Key a0.Width a0.Forged (⟨#[]⟩:ByteArray) 0 (⟨#[]⟩:ByteArray) a0.Ends a0.Flight a0.Given a0.Taken ([]:List an_) ([]:List ac_) ([]:List ab_) ([]:List ab_)
      else
        bif (a1.Kind==11) then
          (gR_ k y1).bind fun r9=>
          bif (r9.Code==0) then
            bif (decide ((IntKind.wrap .i64 ((a0.Given.length:Int)+(a0.Taken.length:Int)))<400)) then
              (idx a0.Ends (IntKind.wrap .i64 (a1.A-1))).bind fun _=>
              (a0.Ends[(Int.toNat (IntKind.wrap .i64 (a1.A-1)))]?).bind fun y10=>
              (app 40 a0.Taken ([(⟨(IntKind.wrap .i64 (3-a1.A)),y1.Peer,y1.Life,r9.Text⟩:ab_)]:List ab_)).bind fun l11=>
              a9_ k a0.Key a0.Width a0.Forged (⟨#[]⟩:ByteArray) 0 (⟨#[]⟩:ByteArray) (a0.Ends.set (Int.toNat (IntKind.wrap .i64 (a1.A-1))) r9.End) a0.Flight a0.Given l11 ([]:List an_) ([]:List ac_) ([]:List ab_) ([]:List ab_)
            else
              a9_ k a0.Key a0.Width a0.Forged (⟨#[]⟩:ByteArray) 0 (⟨#[]⟩:ByteArray) a0.Ends a0.Flight a0.Given a0.Taken ([]:List an_) ([]:List ac_) ([]:List ab_) ([]:List ab_)
          else
            a9_ k a0.Key a0.Width a0.Forged (⟨#[]⟩:ByteArray) 0 (⟨#[]⟩:ByteArray) a0.Ends a0.Flight a0.Given a0.Taken ([]:List an_) ([]:List ac_) ([]:List ab_) ([]:List ab_)
        else
          a9_ k a0.Key a0.Width a0.Forged (⟨#[]⟩:ByteArray) 0 (⟨#[]⟩:ByteArray) a0.Ends a0.Flight a0.Given a0.Taken ([]:List an_) ([]:List ac_) ([]:List ab_) ([]:List ab_)
noncomputable def l2_ (k:Nat) (a0:ae_) (a1:bu_):Option (ae_):=
  bif (a1.Kind==1) then
    (h9_ k a0).bind fun r1=>
    some r1
  else
    (aF_ k a1.Kind 2 7).bind fun r2=>
    bif r2 then
      (aF_ k a1.A 0 (IntKind.wrap .i64 ((a0.Flight.length:Int)-1))).bind fun r3=>
      bif r3 then
        (f0_ k a0 a1).bind fun r4=>
        some r4
      else
        (aF_ k a1.Kind 8 11).bind fun r5=>
        bif r5 then
          (aF_ k a1.A 1 2).bind fun r6=>
          bif r6 then
            (hB_ k a0 a1).bind fun r7=>
            some r7
          else
            some a0
        else
          some a0
    else
      (aF_ k a1.Kind 8 11).bind fun r8=>
      bif r8 then
        (aF_ k a1.A 1 2).bind fun r9=>
        bif r9 then
          (hB_ k a0 a1).bind fun r10=>
          some r10
        else
          some a0
      else
        some a0
noncomputable def mY_ (k:Nat) (a0:ae_) (a1:bu_):Option (ae_):=
  (eL_ k a0).bind fun r1=>
  bif (!r1) then
    some (⟨(⟨#[]⟩:ByteArray),0,([]:List an_),([]:List ac_),(⟨#[]⟩:ByteArray),([]:List ab_),([]:List ab_)⟩:ae_)
  else
    (gr_ k a0).bind fun r2=>
    (l2_ k r2 a1).bind fun r3=>
    (gr_ k r3).bind fun r4=>
    some r4
noncomputable def dA_:Nat→List an_→Int→Int→Option (Int)
  | 0,_,_,_=>none
  | k+1,x0,x1,x2=>
    bif (decide (x2<(x0.length:Int))) then
      (idx x0 x2).bind fun y1=>
      (jL_ k y1 x1).bind fun r2=>
      bif (decide (r2<0)) then
        some (-1)
      else
        dA_ k x0 r2 (IntKind.wrap .i64 (x2+1))
    else
      some x1
noncomputable def hV_ (k:Nat) (a0:List an_) (a1:Int):Option (Int):=
  bif (decide ((IntKind.wrap .i64 (a1-(a0.length:Int)))<0)) then
    some (-1)
  else
    dA_ k a0 (IntKind.wrap .i64 (a1-(a0.length:Int))) 0
noncomputable def gf_ (k:Nat) (a0:ac_) (a1:Int):Option (Int):=
  bif (decide ((IntKind.wrap .i64 (a1-(a0.Sent.size:Int)))<0)) then
    some (-1)
  else
    bif (decide ((IntKind.wrap .i64 ((IntKind.wrap .i64 (a1-(a0.Sent.size:Int)))-(a0.Bytes.size:Int)))<0)) then
      some (-1)
    else
      some (IntKind.wrap .i64 ((IntKind.wrap .i64 (a1-(a0.Sent.size:Int)))-(a0.Bytes.size:Int)))
noncomputable def co_:Nat→List ac_→Int→Int→Option (Int)
  | 0,_,_,_=>none
  | k+1,x0,x1,x2=>
    bif (decide (x2<(x0.length:Int))) then
      (idx x0 x2).bind fun y1=>
      (gf_ k y1 x1).bind fun r2=>
      bif (decide (r2<0)) then
        some (-1)
      else
        co_ k x0 r2 (IntKind.wrap .i64 (x2+1))
    else
      some x1
noncomputable def fs_ (k:Nat) (a0:List ac_) (a1:Int):Option (Int):=
  bif (decide ((IntKind.wrap .i64 (a1-(a0.length:Int)))<0)) then
    some (-1)
  else
    co_ k a0 (IntKind.wrap .i64 (a1-(a0.length:Int))) 0
noncomputable def f1_ (k:Nat) (a0:ab_) (a1:Int):Option (Int):=
  bif (decide ((IntKind.wrap .i64 (a1-(a0.Text.size:Int)))<0)) then
    some (-1)
  else
    some (IntKind.wrap .i64 (a1-(a0.Text.size:Int)))
noncomputable def cw_:Nat→List ab_→Int→Int→Option (Int)
  | 0,_,_,_=>none
  | k+1,x0,x1,x2=>
    bif (decide (x2<(x0.length:Int))) then
      (idx x0 x2).bind fun y1=>
      (f1_ k y1 x1).bind fun r2=>
      bif (decide (r2<0)) then
        some (-1)
      else
        cw_ k x0 r2 (IntKind.wrap .i64 (x2+1))
    else
      some x1
noncomputable def ec_ (k:Nat) (a0:List ab_) (a1:Int):Option (Int):=
  bif (decide ((IntKind.wrap .i64 (a1-(a0.length:Int)))<0)) then
    some (-1)
  else
    cw_ k a0 (IntKind.wrap .i64 (a1-(a0.length:Int))) 0
noncomputable def gY_ (k:Nat) (a0:ae_) (a1:Int):Option (Int):=
  bif (decide ((IntKind.wrap .i64 (a1-(a0.Key.size:Int)))<0)) then
    some (-1)
  else
    (hV_ k a0.Ends (IntKind.wrap .i64 (a1-(a0.Key.size:Int)))).bind fun r1=>
    bif (decide (r1<0)) then
      some (-1)
    else
      (fs_ k a0.Flight r1).bind fun r2=>
      bif (decide (r2<0)) then
        some (-1)
      else
        bif (decide ((IntKind.wrap .i64 (r2-(a0.Forged.size:Int)))<0)) then
          some (-1)
        else
          (ec_ k a0.Given (IntKind.wrap .i64 (r2-(a0.Forged.size:Int)))).bind fun r3=>
          bif (decide (r3<0)) then
            some (-1)
          else
            (ec_ k a0.Taken r3).bind fun r4=>
            bif (decide (r4<0)) then
              some (-1)
            else
              some r4
noncomputable def dD_:Nat→List an_→Int→List an_→Option (List an_)
  | 0,_,_,_=>none
  | k+1,x0,x1,x2=>
    bif (decide (x1<(x0.length:Int))) then
      (idx x0 x1).bind fun y2=>
      (jK_ k y2).bind fun r3=>
      (idx x2 x1).bind fun _=>
      (x2[(Int.toNat x1)]?).bind fun y4=>
      dD_ k x0 (IntKind.wrap .i64 (x1+1)) (x2.set (Int.toNat x1) r3)
    else
      some x2
noncomputable def hQ_ (k:Nat) (a0:List an_):Option (List an_):=
  (if ((a0.length:Int):Int)=(a0.length:Int) then room 152 (a0.length:Int) else none).bind fun n1=>
  dD_ k a0 0 (List.replicate n1 (⟨0,false,0,0,0,false,(⟨0,([]:List ag_)⟩:al_),(⟨0,([]:List ai_),(⟨#[]⟩:ByteArray),([]:List ByteArray)⟩:ak_)⟩:an_))
noncomputable def hU_ (k:Nat) (a0:ac_):Option (ac_):=
  some a0
noncomputable def cu_:Nat→List ac_→Int→List ac_→Option (List ac_)
  | 0,_,_,_=>none
  | k+1,x0,x1,x2=>
    bif (decide (x1<(x0.length:Int))) then
      (idx x0 x1).bind fun y2=>
      (hU_ k y2).bind fun r3=>
      (idx x2 x1).bind fun _=>
      (x2[(Int.toNat x1)]?).bind fun y4=>
      cu_ k x0 (IntKind.wrap .i64 (x1+1)) (x2.set (Int.toNat x1) r3)
    else
      some x2
noncomputable def fp_ (k:Nat) (a0:List ac_):Option (List ac_):=
  (if ((a0.length:Int):Int)=(a0.length:Int) then room 40 (a0.length:Int) else none).bind fun n1=>
  cu_ k a0 0 (List.replicate n1 (⟨0,(⟨#[]⟩:ByteArray),(⟨#[]⟩:ByteArray)⟩:ac_))
noncomputable def hZ_ (k:Nat) (a0:ab_):Option (ab_):=
  some a0
noncomputable def cr_:Nat→List ab_→Int→List ab_→Option (List ab_)
  | 0,_,_,_=>none
  | k+1,x0,x1,x2=>
    bif (decide (x1<(x0.length:Int))) then
      (idx x0 x1).bind fun y2=>
      (hZ_ k y2).bind fun r3=>
      (idx x2 x1).bind fun _=>
      (x2[(Int.toNat x1)]?).bind fun y4=>
      cr_ k x0 (IntKind.wrap .i64 (x1+1)) (x2.set (Int.toNat x1) r3)
    else
      some x2
noncomputable def el_ (k:Nat) (a0:List ab_):Option (List ab_):=
  (if ((a0.length:Int):Int)=(a0.length:Int) then room 40 (a0.length:Int) else none).bind fun n1=>
  cr_ k a0 0 (List.replicate n1 (⟨0,0,0,(⟨#[]⟩:ByteArray)⟩:ab_))
noncomputable def as_ (k:Nat) (a0:ae_):Option (ae_):=
  (hQ_ k a0.Ends).bind fun r1=>
  (fp_ k a0.Flight).bind fun r2=>
  (el_ k a0.Given).bind fun r3=>
  (el_ k a0.Taken).bind fun r4=>
  some (⟨a0.Key,a0.Width,r1,r2,a0.Forged,r3,r4⟩:ae_)
noncomputable def dy_:Nat→List an_→List an_→Int→Option (Bool)
  | 0,_,_,_=>none
  | k+1,x0,x1,x2=>
    bif (decide (x2<(x0.length:Int))) then
      (idx x0 x2).bind fun y1=>
      (idx x1 x2).bind fun y2=>
      (jP_ k y1 y2).bind fun r3=>
      bif (!r3) then
        some false
      else
        dy_ k x0 x1 (IntKind.wrap .i64 (x2+1))
    else
      some true
noncomputable def hO_ (k:Nat) (a0:List an_) (a1:List an_):Option (Bool):=
  bif ((a0.length:Int) !=(a1.length:Int)) then
    some false
  else
    dy_ k a0 a1 0
noncomputable def f3_ (k:Nat) (a0:ac_) (a1:ac_):Option (Bool):=
  bif (a0.To !=a1.To) then
    some false
  else
    bif (!(a0.Sent.toList==a1.Sent.toList)) then
      some false
    else
      bif (!(a0.Bytes.toList==a1.Bytes.toList)) then
        some false
      else
        some true
noncomputable def cs_:Nat→List ac_→List ac_→Int→Option (Bool)
  | 0,_,_,_=>none
  | k+1,x0,x1,x2=>
    bif (decide (x2<(x0.length:Int))) then
      (idx x0 x2).bind fun y1=>
      (idx x1 x2).bind fun y2=>
      (f3_ k y1 y2).bind fun r3=>
      bif (!r3) then
        some false
      else
        cs_ k x0 x1 (IntKind.wrap .i64 (x2+1))
    else
      some true
noncomputable def fo_ (k:Nat) (a0:List ac_) (a1:List ac_):Option (Bool):=
  bif ((a0.length:Int) !=(a1.length:Int)) then
    some false
  else
    cs_ k a0 a1 0
noncomputable def gb_ (k:Nat) (a0:ab_) (a1:ab_):Option (Bool):=
  bif (a0.From !=a1.From) then
    some false
  else
    bif (a0.A !=a1.A) then
      some false
    else
      bif (a0.B !=a1.B) then
        some false
      else
        bif (!(a0.Text.toList==a1.Text.toList)) then
          some false
        else
          some true
noncomputable def cy_:Nat→List ab_→List ab_→Int→Option (Bool)
  | 0,_,_,_=>none
  | k+1,x0,x1,x2=>
    bif (decide (x2<(x0.length:Int))) then
      (idx x0 x2).bind fun y1=>
      (idx x1 x2).bind fun y2=>
      (gb_ k y1 y2).bind fun r3=>
      bif (!r3) then
        some false
      else
        cy_ k x0 x1 (IntKind.wrap .i64 (x2+1))
    else
      some true
noncomputable def ei_ (k:Nat) (a0:List ab_) (a1:List ab_):Option (Bool):=
  bif ((a0.length:Int) !=(a1.length:Int)) then
    some false
  else
    cy_ k a0 a1 0
noncomputable def ao_ (k:Nat) (a0:ae_) (a1:ae_):Option (Bool):=
  bif (!(a0.Key.toList==a1.Key.toList)) then
    some false
  else
    bif (a0.Width !=a1.Width) then
      some false
    else
      (hO_ k a0.Ends a1.Ends).bind fun r1=>
      bif (!r1) then
        some false
      else
        (fo_ k a0.Flight a1.Flight).bind fun r2=>
        bif (!r2) then
          some false
        else
          bif (!(a0.Forged.toList==a1.Forged.toList)) then
            some false
          else
            (ei_ k a0.Given a1.Given).bind fun r3=>
            bif (!r3) then
              some false
            else
              (ei_ k a0.Taken a1.Taken).bind fun r4=>
              bif (!r4) then
                some false
              else
                some true
noncomputable def bq_:Nat→Int→Int→List ac_→Option (Int×List ac_)
  | 0,_,_,_=>none
  | k+1,x0,x1,x2=>
    bif (decide (x1<(x2.length:Int))) then
      (idx x2 x1).bind fun _=>
      (x2[(Int.toNat x1)]?).bind fun y1=>
      (aJ_ k (IntKind.wrap .i64 (x0+1))).bind fun r2=>
      (idx (x2.set (Int.toNat x1) (⟨x0,y1.Sent,y1.Bytes⟩:ac_)) x1).bind fun _=>
      ((x2.set (Int.toNat x1) (⟨x0,y1.Sent,y1.Bytes⟩:ac_))[(Int.toNat x1)]?).bind fun y3=>
      (aJ_ k (IntKind.wrap .i64 ((IntKind.wrap .i64 (x0+1))+1))).bind fun r4=>
      (idx ((x2.set (Int.toNat x1) (⟨x0,y1.Sent,y1.Bytes⟩:ac_)).set (Int.toNat x1) (⟨y3.To,r2,y3.Bytes⟩:ac_)) x1).bind fun _=>
      (((x2.set (Int.toNat x1) (⟨x0,y1.Sent,y1.Bytes⟩:ac_)).set (Int.toNat x1) (⟨y3.To,r2,y3.Bytes⟩:ac_))[(Int.toNat x1)]?).bind fun y5=>
      bq_ k (IntKind.wrap .i64 ((IntKind.wrap .i64 ((IntKind.wrap .i64 (x0+1))+1))+1)) (IntKind.wrap .i64 (x1+1)) (((x2.set (Int.toNat x1) (⟨x0,y1.Sent,y1.Bytes⟩:ac_)).set (Int.toNat x1) (⟨y3.To,r2,y3.Bytes⟩:ac_)).set (Int.toNat x1) (⟨y5.To,y5.Sent,r4⟩:ac_))
    else
      some (x0,x2)
noncomputable def ey_ (k:Nat) (a0:List ac_) (a1:Int):Option (Int×List ac_):=
  bq_ k a1 0 a0
noncomputable def bm_:Nat→Int→Int→List ab_→Option (Int×List ab_)
  | 0,_,_,_=>none
  | k+1,x0,x1,x2=>
    bif (decide (x1<(x2.length:Int))) then
      (idx x2 x1).bind fun _=>
      (x2[(Int.toNat x1)]?).bind fun y1=>
      (idx (x2.set (Int.toNat x1) (⟨x0,y1.A,y1.B,y1.Text⟩:ab_)) x1).bind fun _=>
      ((x2.set (Int.toNat x1) (⟨x0,y1.A,y1.B,y1.Text⟩:ab_))[(Int.toNat x1)]?).bind fun y2=>
      (idx ((x2.set (Int.toNat x1) (⟨x0,y1.A,y1.B,y1.Text⟩:ab_)).set (Int.toNat x1) (⟨y2.From,(IntKind.wrap .i64 (x0+1)),y2.B,y2.Text⟩:ab_)) x1).bind fun _=>
      (((x2.set (Int.toNat x1) (⟨x0,y1.A,y1.B,y1.Text⟩:ab_)).set (Int.toNat x1) (⟨y2.From,(IntKind.wrap .i64 (x0+1)),y2.B,y2.Text⟩:ab_))[(Int.toNat x1)]?).bind fun y3=>
      (aJ_ k (IntKind.wrap .i64 ((IntKind.wrap .i64 ((IntKind.wrap .i64 (x0+1))+1))+1))).bind fun r4=>
      (idx (((x2.set (Int.toNat x1) (⟨x0,y1.A,y1.B,y1.Text⟩:ab_)).set (Int.toNat x1) (⟨y2.From,(IntKind.wrap .i64 (x0+1)),y2.B,y2.Text⟩:ab_)).set (Int.toNat x1) (⟨y3.From,y3.A,(IntKind.wrap .i64 ((IntKind.wrap .i64 (x0+1))+1)),y3.Text⟩:ab_)) x1).bind fun _=>
      ((((x2.set (Int.toNat x1) (⟨x0,y1.A,y1.B,y1.Text⟩:ab_)).set (Int.toNat x1) (⟨y2.From,(IntKind.wrap .i64 (x0+1)),y2.B,y2.Text⟩:ab_)).set (Int.toNat x1) (⟨y3.From,y3.A,(IntKind.wrap .i64 ((IntKind.wrap .i64 (x0+1))+1)),y3.Text⟩:ab_))[(Int.toNat x1)]?).bind fun y5=>
      bm_ k (IntKind.wrap .i64 ((IntKind.wrap .i64 ((IntKind.wrap .i64 ((IntKind.wrap .i64 (x0+1))+1))+1))+1)) (IntKind.wrap .i64 (x1+1)) ((((x2.set (Int.toNat x1) (⟨x0,y1.A,y1.B,y1.Text⟩:ab_)).set (Int.toNat x1) (⟨y2.From,(IntKind.wrap .i64 (x0+1)),y2.B,y2.Text⟩:ab_)).set (Int.toNat x1) (⟨y3.From,y3.A,(IntKind.wrap .i64 ((IntKind.wrap .i64 (x0+1))+1)),y3.Text⟩:ab_)).set (Int.toNat x1) (⟨y5.From,y5.A,y5.B,r4⟩:ab_))
    else
      some (x0,x2)
noncomputable def du_ (k:Nat) (a0:List ab_) (a1:Int):Option (Int×List ab_):=
  bm_ k a1 0 a0
noncomputable def cg_:Nat→List an_→Int→Int→Option (Int)
  | 0,_,_,_=>none
  | k+1,x0,x1,x2=>
    bif (decide (x2<(x0.length:Int))) then
      (idx x0 x2).bind fun y1=>
      bif (y1.Number !=x1) then
        some (-1)
      else
        (idx x0 x2).bind fun y2=>
        (qN_ (IntKind.wrap .i64 (x1+1)) 3).bind fun q3=>
        bif (!(y2.Up==(q3==0))) then
          some (-1)
        else
          (idx x0 x2).bind fun y4=>
          bif (y4.Life !=(IntKind.wrap .i64 ((IntKind.wrap .i64 (x1+1))+1))) then
            some (-1)
          else
            (idx x0 x2).bind fun y5=>
            bif (y5.Peer !=(IntKind.wrap .i64 ((IntKind.wrap .i64 ((IntKind.wrap .i64 (x1+1))+1))+1))) then
              some (-1)
            else
              (idx x0 x2).bind fun y6=>
              bif (y6.Since !=(IntKind.wrap .i64 ((IntKind.wrap .i64 ((IntKind.wrap .i64 ((IntKind.wrap .i64 (x1+1))+1))+1))+1))) then
                some (-1)
              else
                (idx x0 x2).bind fun y7=>
                (qN_ (IntKind.wrap .i64 ((IntKind.wrap .i64 ((IntKind.wrap .i64 ((IntKind.wrap .i64 ((IntKind.wrap .i64 (x1+1))+1))+1))+1))+1)) 3).bind fun q8=>
                bif (!(y7.Owes==(q8==0))) then
                  some (-1)
                else
                  (idx x0 x2).bind fun y9=>
                  bif (y9.Send.Base !=(IntKind.wrap .i64 ((IntKind.wrap .i64 ((IntKind.wrap .i64 ((IntKind.wrap .i64 ((IntKind.wrap .i64 ((IntKind.wrap .i64 (x1+1))+1))+1))+1))+1))+1))) then
                    some (-1)
                  else
                    (idx x0 x2).bind fun y10=>
                    (fv_ k y10.Send.Items (IntKind.wrap .i64 ((IntKind.wrap .i64 ((IntKind.wrap .i64 ((IntKind.wrap .i64 ((IntKind.wrap .i64 ((IntKind.wrap .i64 ((IntKind.wrap .i64 (x1+1))+1))+1))+1))+1))+1))+1))).bind fun r11=>
                    bif (decide (r11<0)) then
                      some (-1)
                    else
                      (idx x0 x2).bind fun y12=>
                      bif (y12.Take.Next !=r11) then
                        some (-1)
                      else
                        (idx x0 x2).bind fun y13=>
                        (fr_ k y13.Take.Held (IntKind.wrap .i64 (r11+1))).bind fun r14=>
                        bif (decide (r14<0)) then
                          some (-1)
                        else
                          (idx x0 x2).bind fun y15=>
                          (aJ_ k r14).bind fun r16=>
                          bif (!(y15.Take.Open.toList==r16.toList)) then
                            some (-1)
                          else
                            (idx x0 x2).bind fun y17=>
                            (ep_ k y17.Take.Ready (IntKind.wrap .i64 (r14+1))).bind fun r18=>
                            bif (decide (r18<0)) then
                              some (-1)
                            else
                              cg_ k x0 r18 (IntKind.wrap .i64 (x2+1))
    else
      some x1
noncomputable def f8_ (k:Nat) (a0:List an_) (a1:Int):Option (Int):=
  cg_ k a0 a1 0
noncomputable def br_:Nat→List ac_→Int→Int→Option (Int)
  | 0,_,_,_=>none
  | k+1,x0,x1,x2=>
    bif (decide (x2<(x0.length:Int))) then
      (idx x0 x2).bind fun y1=>
      bif (y1.To !=x1) then
        some (-1)
      else
        (idx x0 x2).bind fun y2=>
        (aJ_ k (IntKind.wrap .i64 (x1+1))).bind fun r3=>
        bif (!(y2.Sent.toList==r3.toList)) then
          some (-1)
        else
          (idx x0 x2).bind fun y4=>
          (aJ_ k (IntKind.wrap .i64 ((IntKind.wrap .i64 (x1+1))+1))).bind fun r5=>
          bif (!(y4.Bytes.toList==r5.toList)) then
            some (-1)
          else
            br_ k x0 (IntKind.wrap .i64 ((IntKind.wrap .i64 ((IntKind.wrap .i64 (x1+1))+1))+1)) (IntKind.wrap .i64 (x2+1))
    else
      some x1
noncomputable def er_ (k:Nat) (a0:List ac_) (a1:Int):Option (Int):=
  br_ k a0 a1 0
noncomputable def bo_:Nat→List ab_→Int→Int→Option (Int)
  | 0,_,_,_=>none
  | k+1,x0,x1,x2=>
    bif (decide (x2<(x0.length:Int))) then
      (idx x0 x2).bind fun y1=>
      bif (y1.From !=x1) then
        some (-1)
      else
        (idx x0 x2).bind fun y2=>
        bif (y2.A !=(IntKind.wrap .i64 (x1+1))) then
          some (-1)
        else
          (idx x0 x2).bind fun y3=>
          bif (y3.B !=(IntKind.wrap .i64 ((IntKind.wrap .i64 (x1+1))+1))) then
            some (-1)
          else
            (idx x0 x2).bind fun y4=>
            (aJ_ k (IntKind.wrap .i64 ((IntKind.wrap .i64 ((IntKind.wrap .i64 (x1+1))+1))+1))).bind fun r5=>
            bif (!(y4.Text.toList==r5.toList)) then
              some (-1)
            else
              bo_ k x0 (IntKind.wrap .i64 ((IntKind.wrap .i64 ((IntKind.wrap .i64 ((IntKind.wrap .i64 (x1+1))+1))+1))+1)) (IntKind.wrap .i64 (x2+1))
    else
      some x1
noncomputable def dn_ (k:Nat) (a0:List ab_) (a1:Int):Option (Int):=
  bo_ k a0 a1 0
noncomputable def ar_ (k:Nat) (a0:ae_) (a1:Int):Option (Int):=
  (f8_ k a0.Ends a1).bind fun r1=>
  bif (decide (r1<0)) then
    some (-1)
  else
    (er_ k a0.Flight r1).bind fun r2=>
    bif (decide (r2<0)) then
      some (-1)
    else
      (dn_ k a0.Given r2).bind fun r3=>
      bif (decide (r3<0)) then
        some (-1)
      else
        (dn_ k a0.Taken r3).bind fun r4=>
        bif (decide (r4<0)) then
          some (-1)
        else
          some r4
noncomputable def gG_ (k:Nat) (a0:bu_) (a1:Int):Option (Int):=
  bif (decide ((IntKind.wrap .i64 (a1-(a0.Text.size:Int)))<0)) then
    some (-1)
  else
    some (IntKind.wrap .i64 (a1-(a0.Text.size:Int)))
noncomputable def ax_ (k:Nat) (a0:bu_):Option (bu_):=
  some a0
end Km.X
namespace Km.X
open Go Km
set_option linter.unusedVariables false
set_option maxRecDepth 100000
noncomputable def cE_:Nat→Int→Int→ByteArray→Int→List ac_→ByteArray→List ab_→List ab_→ByteArray→Int→ByteArray→List an_→Nat→List an_→List ac_→List ab_→List ab_→Option (ae_)
  | 0,_,_,_,_,_,_,_,_,_,_,_,_,_,_,_,_,_=>none
  | k+1,x0,x1,x2,x3,x4,x5,x6,x7,x8,x9,x10,x11,x12,x13,x14,x15,x16=>
    bif (decide (x1<x0)) then
      (idx x11 x1).bind fun _=>
      (if x12≤(Int.toNat x1) then x11[(Int.toNat x1)]? else none).bind fun y2=>
      (cm_ k y2).bind fun r3=>
      (idx x11 x1).bind fun _=>
      (if x12=(Int.toNat x1) then x11[(Int.toNat x1)]? else none).bind fun y4=>
      cE_ k x0 (IntKind.wrap .i64 (x1+1)) x2 x3 x4 x5 x6 x7 x8 x9 x10 (x11.set (Int.toNat x1) r3) (x12+1) x13 x14 x15 x16
    else
      (app 40 ([]:List ac_) x4).bind fun l5=>
      (app 40 ([]:List ab_) x6).bind fun l6=>
      (app 40 ([]:List ab_) x7).bind fun l7=>
      (if x12=x11.length then some () else none).bind fun _=>
      some (⟨x2,x3,x11,l5,x5,l6,l7⟩:ae_)
noncomputable def fR_ (k:Nat) (a0:ae_):Option (ae_):=
  (app 152 ([]:List an_) a0.Ends).bind fun l1=>
  cE_ k (l1.length:Int) 0 a0.Key a0.Width a0.Flight a0.Forged a0.Given a0.Taken (⟨#[]⟩:ByteArray) 0 (⟨#[]⟩:ByteArray) l1 0 ([]:List an_) ([]:List ac_) ([]:List ab_) ([]:List ab_)
noncomputable def cc_:Nat→Int→Int→List an_→Option (Int×List an_)
  | 0,_,_,_=>none
  | k+1,x0,x1,x2=>
    bif (decide (x1<(x2.length:Int))) then
      (idx x2 x1).bind fun _=>
      (x2[(Int.toNat x1)]?).bind fun y1=>
      (some (x2.set (Int.toNat x1) (⟨x0,y1.Up,y1.Life,y1.Peer,y1.Since,y1.Owes,y1.Send,y1.Take⟩:an_))).bind fun w2=>
      (qN_ (IntKind.wrap .i64 (x0+1)) 3).bind fun q3=>
      (idx w2 x1).bind fun _=>
      (w2[(Int.toNat x1)]?).bind fun y4=>
      (some (w2.set (Int.toNat x1) (⟨y4.Number,(q3==0),y4.Life,y4.Peer,y4.Since,y4.Owes,y4.Send,y4.Take⟩:an_))).bind fun w5=>
      (idx w5 x1).bind fun _=>
      (w5[(Int.toNat x1)]?).bind fun y6=>
      (some (w5.set (Int.toNat x1) (⟨y6.Number,y6.Up,(IntKind.wrap .i64 ((IntKind.wrap .i64 (x0+1))+1)),y6.Peer,y6.Since,y6.Owes,y6.Send,y6.Take⟩:an_))).bind fun w7=>
      (idx w7 x1).bind fun _=>
      (w7[(Int.toNat x1)]?).bind fun y8=>
      (some (w7.set (Int.toNat x1) (⟨y8.Number,y8.Up,y8.Life,(IntKind.wrap .i64 ((IntKind.wrap .i64 ((IntKind.wrap .i64 (x0+1))+1))+1)),y8.Since,y8.Owes,y8.Send,y8.Take⟩:an_))).bind fun w9=>
      (idx w9 x1).bind fun _=>
      (w9[(Int.toNat x1)]?).bind fun y10=>
      (some (w9.set (Int.toNat x1) (⟨y10.Number,y10.Up,y10.Life,y10.Peer,(IntKind.wrap .i64 ((IntKind.wrap .i64 ((IntKind.wrap .i64 ((IntKind.wrap .i64 (x0+1))+1))+1))+1)),y10.Owes,y10.Send,y10.Take⟩:an_))).bind fun w11=>
      (qN_ (IntKind.wrap .i64 ((IntKind.wrap .i64 ((IntKind.wrap .i64 ((IntKind.wrap .i64 ((IntKind.wrap .i64 (x0+1))+1))+1))+1))+1)) 3).bind fun q12=>
      (idx w11 x1).bind fun _=>
      (w11[(Int.toNat x1)]?).bind fun y13=>
      (some (w11.set (Int.toNat x1) (⟨y13.Number,y13.Up,y13.Life,y13.Peer,y13.Since,(q12==0),y13.Send,y13.Take⟩:an_))).bind fun w14=>
      (idx w14 x1).bind fun _=>
      (w14[(Int.toNat x1)]?).bind fun y15=>
      (some (w14.set (Int.toNat x1) (⟨y15.Number,y15.Up,y15.Life,y15.Peer,y15.Since,y15.Owes,(⟨(IntKind.wrap .i64 ((IntKind.wrap .i64 ((IntKind.wrap .i64 ((IntKind.wrap .i64 ((IntKind.wrap .i64 ((IntKind.wrap .i64 (x0+1))+1))+1))+1))+1))+1)),y15.Send.Items⟩:al_),y15.Take⟩:an_))).bind fun w16=>
      (idx w16 x1).bind fun _=>
      (w16[(Int.toNat x1)]?).bind fun y17=>
      (fq_ k y17.Send.Items (IntKind.wrap .i64 ((IntKind.wrap .i64 ((IntKind.wrap .i64 ((IntKind.wrap .i64 ((IntKind.wrap .i64 ((IntKind.wrap .i64 ((IntKind.wrap .i64 (x0+1))+1))+1))+1))+1))+1))+1))).bind fun r18=>
      (w16[(Int.toNat x1)]?).bind fun y19=>
      (some (w16.set (Int.toNat x1) (⟨y19.Number,y19.Up,y19.Life,y19.Peer,y19.Since,y19.Owes,(⟨y19.Send.Base,r18.2⟩:al_),y19.Take⟩:an_))).bind fun w20=>
      (idx w20 x1).bind fun _=>
      (w20[(Int.toNat x1)]?).bind fun y21=>
      (some (w20.set (Int.toNat x1) (⟨y21.Number,y21.Up,y21.Life,y21.Peer,y21.Since,y21.Owes,y21.Send,(⟨r18.1,y21.Take.Held,y21.Take.Open,y21.Take.Ready⟩:ak_)⟩:an_))).bind fun w22=>
      (idx w22 x1).bind fun _=>
      (w22[(Int.toNat x1)]?).bind fun y23=>
      (fx_ k y23.Take.Held (IntKind.wrap .i64 (r18.1+1))).bind fun r24=>
      (w22[(Int.toNat x1)]?).bind fun y25=>
      (some (w22.set (Int.toNat x1) (⟨y25.Number,y25.Up,y25.Life,y25.Peer,y25.Since,y25.Owes,y25.Send,(⟨y25.Take.Next,r24.2,y25.Take.Open,y25.Take.Ready⟩:ak_)⟩:an_))).bind fun w26=>
      (aJ_ k r24.1).bind fun r27=>
      (idx w26 x1).bind fun _=>
      (w26[(Int.toNat x1)]?).bind fun y28=>
      (some (w26.set (Int.toNat x1) (⟨y28.Number,y28.Up,y28.Life,y28.Peer,y28.Since,y28.Owes,y28.Send,(⟨y28.Take.Next,y28.Take.Held,r27,y28.Take.Ready⟩:ak_)⟩:an_))).bind fun w29=>
      (idx w29 x1).bind fun _=>
      (w29[(Int.toNat x1)]?).bind fun y30=>
      (eq_ k y30.Take.Ready (IntKind.wrap .i64 (r24.1+1))).bind fun r31=>
      (w29[(Int.toNat x1)]?).bind fun y32=>
      (some (w29.set (Int.toNat x1) (⟨y32.Number,y32.Up,y32.Life,y32.Peer,y32.Since,y32.Owes,y32.Send,(⟨y32.Take.Next,y32.Take.Held,y32.Take.Open,r31.2⟩:ak_)⟩:an_))).bind fun w33=>
      cc_ k r31.1 (IntKind.wrap .i64 (x1+1)) w33
    else
      some (x0,x2)
noncomputable def ge_ (k:Nat) (a0:List an_) (a1:Int):Option (Int×List an_):=
  cc_ k a1 0 a0
noncomputable def aV_ (k:Nat) (a0:ae_) (a1:Int):Option (Int×List an_×List ac_×List ab_×List ab_):=
  (ge_ k a0.Ends a1).bind fun r1=>
  (ey_ k a0.Flight r1.1).bind fun r2=>
  (du_ k a0.Given r2.1).bind fun r3=>
  (du_ k a0.Taken r3.1).bind fun r4=>
  some (r4.1,r1.2,r2.2,r3.2,r4.2)
end Km.X
namespace Km.X
open Go Km
set_option linter.unusedVariables false
set_option maxRecDepth 100000
end Km.X
namespace Km.X
open Go Km
set_option linter.unusedVariables false
set_option maxRecDepth 100000
end Km.X
namespace Km.X
open Go Km
set_option linter.unusedVariables false
set_option maxRecDepth 100000
noncomputable def hl_ (k:Nat) (a0:ae_) (a1:bu_):Option (Bool):=
  (gY_ k a0 1048576).bind fun r1=>
  bif (decide (r1<0)) then
    some true
  else
    (gG_ k a1 r1).bind fun r2=>
    bif (decide (r2<0)) then
      some true
    else
      both (
        (as_ k a0).bind fun r3=>
        (ax_ k a1).bind fun r4=>
        (mY_ k r3 r4).bind fun r5=>
        (as_ k a0).bind fun r6=>
        both (
          (ax_ k a1).bind fun r7=>
          (bI_ k r6 r7).bind fun r8=>
          (ao_ k r8 r5).bind fun r9=>
          bif (!r9) then
            some false
          else
            (as_ k a0).bind fun r10=>
            (ao_ k r6 r10).bind fun r11=>
            bif (!r11) then
              some false
            else
              (aV_ k r6 1).bind fun r12=>
              bif (decide (r12.1<0)) then
                some false
              else
                (ao_ k r8 r5).bind fun r13=>
                bif (!r13) then
                  some false
                else
                  (aV_ k r8 1).bind fun r14=>
                  (ar_ k (⟨r8.Key,r8.Width,r14.2.1,r14.2.2.1,r8.Forged,r14.2.2.2.1,r14.2.2.2.2⟩:ae_) 1).bind fun r15=>
                  bif (decide (r15<0)) then
                    some false
                  else
                    bif (r15 !=r14.1) then
                      some false
                    else
                      both (
                        (as_ k a0).bind fun r16=>
                        (ax_ k a1).bind fun r17=>
                        (bI_ k r16 r17).bind fun r18=>
                        (ao_ k r18 r5).bind fun r19=>
                        bif (!r19) then
                          some false
                        else
                          (ar_ k (⟨r8.Key,r8.Width,r14.2.1,r14.2.2.1,r8.Forged,r14.2.2.2.1,r14.2.2.2.2⟩:ae_) 1).bind fun r20=>
                          bif (decide (r20<0)) then
                            some false
                          else
                            bif (r20 !=r14.1) then
                              some false
                            else
                              some true
                      ) (
                        both (
                          (as_ k a0).bind fun r21=>
                          (ax_ k a1).bind fun r22=>
                          (bI_ k r21 r22).bind fun r23=>
                          (ao_ k r23 r5).bind fun r24=>
                          bif (!r24) then
                            some false
                          else
                            (ar_ k (⟨r8.Key,r8.Width,r14.2.1,r14.2.2.1,r8.Forged,r14.2.2.2.1,r14.2.2.2.2⟩:ae_) 1).bind fun r25=>
                            bif (decide (r25<0)) then
                              some false
                            else
                              bif (r25 !=r14.1) then
                                some false
                              else
                                some true
                        ) (
                          (as_ k a0).bind fun r26=>
                          (ax_ k a1).bind fun r27=>
                          (bI_ k r26 r27).bind fun r28=>
                          (ao_ k r28 r5).bind fun r29=>
                          bif (!r29) then
                            some false
                          else
                            (ar_ k (⟨r8.Key,r8.Width,r14.2.1,r14.2.2.1,r8.Forged,r14.2.2.2.1,r14.2.2.2.2⟩:ae_) 1).bind fun r30=>
                            bif (decide (r30<0)) then
                              some false
                            else
                              bif (r30 !=r14.1) then
                                some false
                              else
                                some true
                        )
                      )
        ) (
          (ax_ k a1).bind fun r31=>
          (bI_ k r6 r31).bind fun r32=>
          (ao_ k r32 r5).bind fun r33=>
          bif (!r33) then
            some false
          else
            (as_ k a0).bind fun r34=>
            (ao_ k r6 r34).bind fun r35=>
            bif (!r35) then
              some false
            else
              (aV_ k r6 1).bind fun r36=>
              bif (decide (r36.1<0)) then
                some false
              else
                (ao_ k r32 r5).bind fun r37=>
                bif (!r37) then
                  some false
                else
                  (aV_ k r32 1).bind fun r38=>
                  (ar_ k (⟨r32.Key,r32.Width,r38.2.1,r38.2.2.1,r32.Forged,r38.2.2.2.1,r38.2.2.2.2⟩:ae_) 1).bind fun r39=>
                  bif (decide (r39<0)) then
                    some false
                  else
                    bif (r39 !=r38.1) then
                      some false
                    else
                      both (
                        (as_ k a0).bind fun r40=>
                        (ax_ k a1).bind fun r41=>
                        (bI_ k r40 r41).bind fun r42=>
                        (ao_ k r42 r5).bind fun r43=>
                        bif (!r43) then
                          some false
                        else
                          (ar_ k (⟨r32.Key,r32.Width,r38.2.1,r38.2.2.1,r32.Forged,r38.2.2.2.1,r38.2.2.2.2⟩:ae_) 1).bind fun r44=>
                          bif (decide (r44<0)) then
                            some false
                          else
                            bif (r44 !=r38.1) then
                              some false
                            else
                              some true
                      ) (
                        both (
                          (as_ k a0).bind fun r45=>
                          (ax_ k a1).bind fun r46=>
                          (bI_ k r45 r46).bind fun r47=>
                          (ao_ k r47 r5).bind fun r48=>
                          bif (!r48) then
                            some false
                          else
                            (ar_ k (⟨r32.Key,r32.Width,r38.2.1,r38.2.2.1,r32.Forged,r38.2.2.2.1,r38.2.2.2.2⟩:ae_) 1).bind fun r49=>
                            bif (decide (r49<0)) then
                              some false
                            else
                              bif (r49 !=r38.1) then
                                some false
                              else
                                some true
                        ) (
                          (as_ k a0).bind fun r50=>
                          (ax_ k a1).bind fun r51=>
                          (bI_ k r50 r51).bind fun r52=>
                          (ao_ k r52 r5).bind fun r53=>
                          bif (!r53) then
                            some false
                          else
                            (ar_ k (⟨r32.Key,r32.Width,r38.2.1,r38.2.2.1,r32.Forged,r38.2.2.2.1,r38.2.2.2.2⟩:ae_) 1).bind fun r54=>
                            bif (decide (r54<0)) then
                              some false
                            else
                              bif (r54 !=r38.1) then
                                some false
                              else
                                some true
                        )
                      )
        )
      ) (
        both (
          (as_ k a0).bind fun r55=>
          (ax_ k a1).bind fun r56=>
          (mY_ k r55 r56).bind fun r57=>
          (as_ k a0).bind fun r58=>
          both (
            (ax_ k a1).bind fun r59=>
            (bI_ k r58 r59).bind fun r60=>
            (ao_ k r60 r57).bind fun r61=>
            bif (!r61) then
              some false
            else
              (as_ k a0).bind fun r62=>
              (ao_ k r58 r62).bind fun r63=>
              bif (!r63) then
                some false
              else
                (aV_ k r58 1).bind fun r64=>
                bif (decide (r64.1<0)) then
                  some false
                else
                  (ao_ k r60 r57).bind fun r65=>
                  bif (!r65) then
                    some false
                  else
                    (aV_ k r60 1).bind fun r66=>
                    (ar_ k (⟨r60.Key,r60.Width,r66.2.1,r66.2.2.1,r60.Forged,r66.2.2.2.1,r66.2.2.2.2⟩:ae_) 1).bind fun r67=>
                    bif (decide (r67<0)) then
                      some false
                    else
                      bif (r67 !=r66.1) then
                        some false
                      else
                        both (
                          (as_ k a0).bind fun r68=>
                          (ax_ k a1).bind fun r69=>
                          (bI_ k r68 r69).bind fun r70=>
                          (ao_ k r70 r57).bind fun r71=>
                          bif (!r71) then
                            some false
                          else
                            (ar_ k (⟨r60.Key,r60.Width,r66.2.1,r66.2.2.1,r60.Forged,r66.2.2.2.1,r66.2.2.2.2⟩:ae_) 1).bind fun r72=>
                            bif (decide (r72<0)) then
                              some false
                            else
                              bif (r72 !=r66.1) then
                                some false
                              else
                                some true
                        ) (
                          both (
                            (as_ k a0).bind fun r73=>
                            (ax_ k a1).bind fun r74=>
                            (bI_ k r73 r74).bind fun r75=>
                            (ao_ k r75 r57).bind fun r76=>
                            bif (!r76) then
                              some false
                            else
                              (ar_ k (⟨r60.Key,r60.Width,r66.2.1,r66.2.2.1,r60.Forged,r66.2.2.2.1,r66.2.2.2.2⟩:ae_) 1).bind fun r77=>
                              bif (decide (r77<0)) then
                                some false
                              else
                                bif (r77 !=r66.1) then
                                  some false
                                else
                                  some true
                          ) (
                            (as_ k a0).bind fun r78=>
                            (ax_ k a1).bind fun r79=>
                            (bI_ k r78 r79).bind fun r80=>
                            (ao_ k r80 r57).bind fun r81=>
                            bif (!r81) then
                              some false
                            else
                              (ar_ k (⟨r60.Key,r60.Width,r66.2.1,r66.2.2.1,r60.Forged,r66.2.2.2.1,r66.2.2.2.2⟩:ae_) 1).bind fun r82=>
                              bif (decide (r82<0)) then
                                some false
                              else
                                bif (r82 !=r66.1) then
                                  some false
                                else
                                  some true
                          )
                        )
          ) (
            (ax_ k a1).bind fun r83=>
            (bI_ k r58 r83).bind fun r84=>
            (ao_ k r84 r57).bind fun r85=>
            bif (!r85) then
              some false
            else
              (as_ k a0).bind fun r86=>
              (ao_ k r58 r86).bind fun r87=>
              bif (!r87) then
                some false
              else
                (aV_ k r58 1).bind fun r88=>
                bif (decide (r88.1<0)) then
                  some false
                else
                  (ao_ k r84 r57).bind fun r89=>
                  bif (!r89) then
                    some false
                  else
                    (aV_ k r84 1).bind fun r90=>
                    (ar_ k (⟨r84.Key,r84.Width,r90.2.1,r90.2.2.1,r84.Forged,r90.2.2.2.1,r90.2.2.2.2⟩:ae_) 1).bind fun r91=>
                    bif (decide (r91<0)) then
                      some false
                    else
                      bif (r91 !=r90.1) then
                        some false
                      else
                        both (
                          (as_ k a0).bind fun r92=>
                          (ax_ k a1).bind fun r93=>
                          (bI_ k r92 r93).bind fun r94=>
                          (ao_ k r94 r57).bind fun r95=>
                          bif (!r95) then
                            some false
                          else
                            (ar_ k (⟨r84.Key,r84.Width,r90.2.1,r90.2.2.1,r84.Forged,r90.2.2.2.1,r90.2.2.2.2⟩:ae_) 1).bind fun r96=>
                            bif (decide (r96<0)) then
                              some false
                            else
                              bif (r96 !=r90.1) then
                                some false
                              else
                                some true
                        ) (
                          both (
                            (as_ k a0).bind fun r97=>
                            (ax_ k a1).bind fun r98=>
                            (bI_ k r97 r98).bind fun r99=>
                            (ao_ k r99 r57).bind fun r100=>
                            bif (!r100) then
                              some false
                            else
                              (ar_ k (⟨r84.Key,r84.Width,r90.2.1,r90.2.2.1,r84.Forged,r90.2.2.2.1,r90.2.2.2.2⟩:ae_) 1).bind fun r101=>
                              bif (decide (r101<0)) then
                                some false
                              else
                                bif (r101 !=r90.1) then
                                  some false
                                else
                                  some true
                          ) (
                            (as_ k a0).bind fun r102=>
                            (ax_ k a1).bind fun r103=>
                            (bI_ k r102 r103).bind fun r104=>
                            (ao_ k r104 r57).bind fun r105=>
                            bif (!r105) then
                              some false
                            else
                              (ar_ k (⟨r84.Key,r84.Width,r90.2.1,r90.2.2.1,r84.Forged,r90.2.2.2.1,r90.2.2.2.2⟩:ae_) 1).bind fun r106=>
                              bif (decide (r106<0)) then
                                some false
                              else
                                bif (r106 !=r90.1) then
                                  some false
                                else
                                  some true
                          )
                        )
          )
        ) (
          (as_ k a0).bind fun r107=>
          (ax_ k a1).bind fun r108=>
          (mY_ k r107 r108).bind fun r109=>
          (as_ k a0).bind fun r110=>
          both (
            (ax_ k a1).bind fun r111=>
            (bI_ k r110 r111).bind fun r112=>
            (ao_ k r112 r109).bind fun r113=>
            bif (!r113) then
              some false
            else
              (as_ k a0).bind fun r114=>
              (ao_ k r110 r114).bind fun r115=>
              bif (!r115) then
                some false
              else
                (aV_ k r110 1).bind fun r116=>
                bif (decide (r116.1<0)) then
                  some false
                else
                  (ao_ k r112 r109).bind fun r117=>
                  bif (!r117) then
                    some false
                  else
                    (aV_ k r112 1).bind fun r118=>
                    (ar_ k (⟨r112.Key,r112.Width,r118.2.1,r118.2.2.1,r112.Forged,r118.2.2.2.1,r118.2.2.2.2⟩:ae_) 1).bind fun r119=>
                    bif (decide (r119<0)) then
                      some false
                    else
                      bif (r119 !=r118.1) then
                        some false
                      else
                        both (
                          (as_ k a0).bind fun r120=>
                          (ax_ k a1).bind fun r121=>
                          (bI_ k r120 r121).bind fun r122=>
                          (ao_ k r122 r109).bind fun r123=>
                          bif (!r123) then
                            some false
                          else
                            (ar_ k (⟨r112.Key,r112.Width,r118.2.1,r118.2.2.1,r112.Forged,r118.2.2.2.1,r118.2.2.2.2⟩:ae_) 1).bind fun r124=>
                            bif (decide (r124<0)) then
                              some false
                            else
                              bif (r124 !=r118.1) then
                                some false
                              else
                                some true
                        ) (
                          both (
                            (as_ k a0).bind fun r125=>
                            (ax_ k a1).bind fun r126=>
                            (bI_ k r125 r126).bind fun r127=>
                            (ao_ k r127 r109).bind fun r128=>
                            bif (!r128) then
                              some false
                            else
                              (ar_ k (⟨r112.Key,r112.Width,r118.2.1,r118.2.2.1,r112.Forged,r118.2.2.2.1,r118.2.2.2.2⟩:ae_) 1).bind fun r129=>
                              bif (decide (r129<0)) then
                                some false
                              else
                                bif (r129 !=r118.1) then
                                  some false
                                else
                                  some true
                          ) (
                            (as_ k a0).bind fun r130=>
                            (ax_ k a1).bind fun r131=>
                            (bI_ k r130 r131).bind fun r132=>
                            (ao_ k r132 r109).bind fun r133=>
                            bif (!r133) then
                              some false
                            else
                              (ar_ k (⟨r112.Key,r112.Width,r118.2.1,r118.2.2.1,r112.Forged,r118.2.2.2.1,r118.2.2.2.2⟩:ae_) 1).bind fun r134=>
                              bif (decide (r134<0)) then
                                some false
                              else
                                bif (r134 !=r118.1) then
                                  some false
                                else
                                  some true
                          )
                        )
          ) (
            (ax_ k a1).bind fun r135=>
            (bI_ k r110 r135).bind fun r136=>
            (ao_ k r136 r109).bind fun r137=>
            bif (!r137) then
              some false
            else
              (as_ k a0).bind fun r138=>
              (ao_ k r110 r138).bind fun r139=>
              bif (!r139) then
                some false
              else
                (aV_ k r110 1).bind fun r140=>
                bif (decide (r140.1<0)) then
                  some false
                else
                  (ao_ k r136 r109).bind fun r141=>
                  bif (!r141) then
                    some false
                  else
                    (aV_ k r136 1).bind fun r142=>
                    (ar_ k (⟨r136.Key,r136.Width,r142.2.1,r142.2.2.1,r136.Forged,r142.2.2.2.1,r142.2.2.2.2⟩:ae_) 1).bind fun r143=>
                    bif (decide (r143<0)) then
                      some false
                    else
                      bif (r143 !=r142.1) then
                        some false
                      else
                        both (
                          (as_ k a0).bind fun r144=>
                          (ax_ k a1).bind fun r145=>
                          (bI_ k r144 r145).bind fun r146=>
                          (ao_ k r146 r109).bind fun r147=>
                          bif (!r147) then
                            some false
                          else
                            (ar_ k (⟨r136.Key,r136.Width,r142.2.1,r142.2.2.1,r136.Forged,r142.2.2.2.1,r142.2.2.2.2⟩:ae_) 1).bind fun r148=>
                            bif (decide (r148<0)) then
                              some false
                            else
                              bif (r148 !=r142.1) then
                                some false
                              else
                                some true
                        ) (
                          both (
                            (as_ k a0).bind fun r149=>
                            (ax_ k a1).bind fun r150=>
                            (bI_ k r149 r150).bind fun r151=>
                            (ao_ k r151 r109).bind fun r152=>
                            bif (!r152) then
                              some false
                            else
                              (ar_ k (⟨r136.Key,r136.Width,r142.2.1,r142.2.2.1,r136.Forged,r142.2.2.2.1,r142.2.2.2.2⟩:ae_) 1).bind fun r153=>
                              bif (decide (r153<0)) then
                                some false
                              else
                                bif (r153 !=r142.1) then
                                  some false
                                else
                                  some true
                          ) (
                            (as_ k a0).bind fun r154=>
                            (ax_ k a1).bind fun r155=>
                            (bI_ k r154 r155).bind fun r156=>
                            (ao_ k r156 r109).bind fun r157=>
                            bif (!r157) then
                              some false
                            else
                              (ar_ k (⟨r136.Key,r136.Width,r142.2.1,r142.2.2.1,r136.Forged,r142.2.2.2.1,r142.2.2.2.2⟩:ae_) 1).bind fun r158=>
                              bif (decide (r158<0)) then
                                some false
                              else
                                bif (r158 !=r142.1) then
                                  some false
                                else
                                  some true
                          )
                        )
          )
        )
      )
end Km.X
namespace Km.X
open Go Km
set_option linter.unusedVariables false
theorem iL_:∀(k:Nat) (x0 x1:Int) (x2:ByteArray) (x3:Int) (x4:List ac_) (x5:ByteArray) (x6 x7:List ab_) (x8:ByteArray) (x9:Int) (x10:ByteArray) (x11:List an_) (x12:Nat) (x13:List an_) (x14:List ac_) (x15 x16:List ab_),
    x0=(x11.length:Int)→x1=(x12:Int)→x12≤x11.length→x11.length<9223372036854775807→
    cE_ k x0 x1 x2 x3 x4 x5 x6 x7 x8 x9 x10 x11 x12 x13 x14 x15 x16=bO_ k x0 x1 x2 x3 x4 x5 x6 x7 x8 x9 x10 x11 x13 x14 x15 x16
  | 0,_,_,_,_,_,_,_,_,_,_,_,_,_,_,_,_,_,_,_,_,_=>rfl
  | k+1,x0,x1,x2,x3,x4,x5,x6,x7,x8,x9,x10,x11,x12,x13,x14,x15,x16,h0,h1,h2,h3=>by
    subst h0;subst h1
    have e:Int.toNat (x12:Int)=x12:=Int.toNat_natCast _
    simp only [cE_,bO_,e,Nat.le_refl,if_true]
    cases hc:decide ((x12:Int)<(x11.length:Int)) with
    | true=>
      have hlt:x12<x11.length:=by have:=of_decide_eq_true hc;omega
      have ew:IntKind.wrap .i64 ((x12:Int)+1)=((x12+1:Nat):Int):=by
        have e1:(2:Int)^IntKind.i64.bits=18446744073709551616:=by decide
        have e2:(2:Int)^(IntKind.i64.bits-1)=9223372036854775808:=by decide
        have e3:((x12:Int)+1)%18446744073709551616=(x12:Int)+1:=by omega
        unfold IntKind.wrap
        simp only [e1,e2,e3]
        rw [if_neg (by simp;omega)];omega
      simp only [cond_true]
      congr 1;funext _
      congr 1;funext y2
      congr 1;funext r3
      congr 1;funext _
      congr 1;funext y4
      rw [ew]
      exact iL_ k _ _ _ _ _ _ _ _ _ _ _ _ _ _ _ _ _ (by simp) rfl (by simp;omega) (by simpa using h3)
    | false=>
      have hge:x12=x11.length:=by have:=of_decide_eq_false hc;omega
      simp only [cond_false,hge,if_true,Option.bind_some]
theorem ln_: @fR_= @dG_:=by
  funext k a0
  unfold fR_ dG_
  cases h:app 152 ([]:List an_) a0.Ends with
  | none=>rfl
  | some l1=>
    simp only [Option.bind_some]
    have hb:l1.length*152≤140737488355328:=by
      unfold app at h
      split at h
      ·rename_i hle;cases h;simpa using hle
      ·cases h
    exact iL_ k _ _ _ _ _ _ _ _ _ _ _ _ _ _ _ _ _ rfl rfl (Nat.zero_le _) (by omega)
end Km.X
