/- A part of the proof of FnTop: the functions that it reads off the program. There is no condition. -/
import Derived.Test.YtgffmpjadffjkaaGreatKxDef1
namespace Km.X
open Go Km
set_option linter.unusedVariables false
set_option maxRecDepth 100000
noncomputable def gB_ (k:Nat) (a0:ByteArray) (a1:Int):Option (ac_):=
  bif (decide (a1<1)) then
    some (⟨(⟨#[]⟩:ByteArray),0,([]:List an_),([]:List ad_),(⟨#[]⟩:ByteArray),([]:List aa_),([]:List aa_)⟩:ac_)
  else
    bif (decide (a1>8)) then
      some (⟨(⟨#[]⟩:ByteArray),0,([]:List an_),([]:List ad_),(⟨#[]⟩:ByteArray),([]:List aa_),([]:List aa_)⟩:ac_)
    else
      bif (decide ((a0.size:Int)>30)) then
        some (⟨(⟨#[]⟩:ByteArray),0,([]:List an_),([]:List ad_),(⟨#[]⟩:ByteArray),([]:List aa_),([]:List aa_)⟩:ac_)
      else
        (gS_ k 1).bind fun r1=>
        (gS_ k 2).bind fun r2=>
        some (⟨a0,a1,([r1,r2]:List an_),([]:List ad_),(⟨#[]⟩:ByteArray),([]:List aa_),([]:List aa_)⟩:ac_)
noncomputable def gD_ (k:Nat) (a0:ByteArray) (a1:Int):Option (ac_):=
  (az_ k a1 1 8).bind fun r1=>
  bif (!r1) then
    some (⟨(⟨#[]⟩:ByteArray),0,([]:List an_),([]:List ad_),(⟨#[]⟩:ByteArray),([]:List aa_),([]:List aa_)⟩:ac_)
  else
    bif (decide ((a0.size:Int)>30)) then
      some (⟨(⟨#[]⟩:ByteArray),0,([]:List an_),([]:List ad_),(⟨#[]⟩:ByteArray),([]:List aa_),([]:List aa_)⟩:ac_)
    else
      (gT_ k 1).bind fun r2=>
      (gT_ k 2).bind fun r3=>
      some (⟨a0,a1,([r2,r3]:List an_),([]:List ad_),(⟨#[]⟩:ByteArray),([]:List aa_),([]:List aa_)⟩:ac_)
noncomputable def gw_ (k:Nat) (a0:ac_) (a1:as_):Option (Bool):=
  bif (a1.Kind !=2) then
    some false
  else
    bif (decide (a1.A<0)) then
      some false
    else
      bif (decide (a1.A≥(a0.Flight.length:Int))) then
        some false
      else
        (idx a0.Flight a1.A).bind fun y1=>
        (idx a0.Flight a1.A).bind fun y2=>
        bif (y1.Bytes.toList==y2.Sent.toList) then
          some false
        else
          (idx a0.Flight a1.A).bind fun y3=>
          (en_ k y3.Bytes a0.Key a0.Width).bind fun r4=>
          some r4.2
mutual
noncomputable def b5_:Nat→List an_→Int→Int→ByteArray→Int→List an_→List ad_→ByteArray→List aa_→List aa_→Option (Bool)
  | 0,_,_,_,_,_,_,_,_,_,_=>none
  | k+1,x0,x1,x2,x3,x4,x5,x6,x7,x8,x9=>
    bif (decide (x2<x1)) then
      (idx x0 x2).bind fun y1=>
      (bS_ k y1).bind fun r2=>
      bif (!r2) then
        some false
      else
        bif (y1.Number !=(IntKind.wrap .i64 (x2+1))) then
          some false
        else
          b5_ k x0 x1 (IntKind.wrap .i64 (x2+1)) x3 x4 x5 x6 x7 x8 x9
    else
      ba_ k x6 (x6.length:Int) 0 x3 x4 x5 x6 x7 x8 x9
noncomputable def ba_:Nat→List ad_→Int→Int→ByteArray→Int→List an_→List ad_→ByteArray→List aa_→List aa_→Option (Bool)
  | 0,_,_,_,_,_,_,_,_,_,_=>none
  | k+1,x0,x1,x2,x3,x4,x5,x6,x7,x8,x9=>
    bif (decide (x2<x1)) then
      (idx x0 x2).bind fun y3=>
      bif (y3.To !=1) then
        bif (y3.To !=2) then
          some false
        else
          bif (decide ((y3.Sent.size:Int)>100)) then
            some false
          else
            bif (decide ((y3.Bytes.size:Int)>100)) then
              some false
            else
              ba_ k x0 x1 (IntKind.wrap .i64 (x2+1)) x3 x4 x5 x6 x7 x8 x9
      else
        bif (decide ((y3.Sent.size:Int)>100)) then
          some false
        else
          bif (decide ((y3.Bytes.size:Int)>100)) then
            some false
          else
            ba_ k x0 x1 (IntKind.wrap .i64 (x2+1)) x3 x4 x5 x6 x7 x8 x9
    else
      a8_ k (([x8,x9]:List (List aa_)).length:Int) 0 ([x8,x9]:List (List aa_))
noncomputable def a8_:Nat→Int→Int→List (List aa_)→Option (Bool)
  | 0,_,_,_=>none
  | k+1,x0,x1,x2=>
    bif (decide (x1<x0)) then
      (idx x2 x1).bind fun _=>
      (x2[(Int.toNat x1)]?).bind fun y4=>
      a9_ k x0 x1 y4 (y4.length:Int) 0 x2
    else
      some true
noncomputable def a9_:Nat→Int→Int→List aa_→Int→Int→List (List aa_)→Option (Bool)
  | 0,_,_,_,_,_,_=>none
  | k+1,x0,x1,x2,x3,x4,x5=>
    bif (decide (x4<x3)) then
      (idx x2 x4).bind fun y5=>
      bif (y5.From !=1) then
        bif (y5.From !=2) then
          some false
        else
          (aN_ k y5.A 1 1000).bind fun r6=>
          bif (!r6) then
            some false
          else
            (aN_ k y5.B 1 1000).bind fun r7=>
            bif (!r7) then
              some false
            else
              bif (decide ((y5.Text.size:Int)>200)) then
                some false
              else
                a9_ k x0 x1 x2 x3 (IntKind.wrap .i64 (x4+1)) x5
      else
        (aN_ k y5.A 1 1000).bind fun r8=>
        bif (!r8) then
          some false
        else
          (aN_ k y5.B 1 1000).bind fun r9=>
          bif (!r9) then
            some false
          else
            bif (decide ((y5.Text.size:Int)>200)) then
              some false
            else
              a9_ k x0 x1 x2 x3 (IntKind.wrap .i64 (x4+1)) x5
    else
      a8_ k x0 (IntKind.wrap .i64 (x1+1)) x5
end
noncomputable def cx_ (k:Nat) (a0:ac_):Option (Bool):=
  bif (decide (a0.Width<1)) then
    some false
  else
    bif (decide (a0.Width>8)) then
      some false
    else
      bif (decide ((a0.Key.size:Int)>30)) then
        some false
      else
        bif ((a0.Ends.length:Int) !=2) then
          some false
        else
          bif (decide ((a0.Flight.length:Int)>1000)) then
            some false
          else
            bif (decide ((IntKind.wrap .i64 ((a0.Given.length:Int)+(a0.Taken.length:Int)))>400)) then
              some false
            else
              b5_ k a0.Ends (a0.Ends.length:Int) 0 a0.Key a0.Width a0.Ends a0.Flight a0.Forged a0.Given a0.Taken
noncomputable def cs_:Nat→Int→Int→ByteArray→Int→List ad_→ByteArray→List aa_→List aa_→ByteArray→Int→ByteArray→List an_→List an_→List ad_→List aa_→List aa_→Option (ac_)
  | 0,_,_,_,_,_,_,_,_,_,_,_,_,_,_,_,_=>none
  | k+1,x0,x1,x2,x3,x4,x5,x6,x7,x8,x9,x10,x11,x12,x13,x14,x15=>
    bif (decide (x1<x0)) then
      (idx x11 x1).bind fun _=>
      (x11[(Int.toNat x1)]?).bind fun y2=>
      (cW_ k y2).bind fun r3=>
      (idx x11 x1).bind fun _=>
      (x11[(Int.toNat x1)]?).bind fun y4=>
      cs_ k x0 (IntKind.wrap .i64 (x1+1)) x2 x3 x4 x5 x6 x7 x8 x9 x10 (x11.set (Int.toNat x1) r3) x12 x13 x14 x15
    else
      (app 40 ([]:List ad_) x4).bind fun l5=>
      (app 40 ([]:List aa_) x6).bind fun l6=>
      (app 40 ([]:List aa_) x7).bind fun l7=>
      some (⟨x2,x3,x11,l5,x5,l6,l7⟩:ac_)
noncomputable def eN_ (k:Nat) (a0:ac_):Option (ac_):=
  (app 152 ([]:List an_) a0.Ends).bind fun l1=>
  cs_ k (l1.length:Int) 0 a0.Key a0.Width a0.Flight a0.Forged a0.Given a0.Taken (⟨#[]⟩:ByteArray) 0 (⟨#[]⟩:ByteArray) l1 ([]:List an_) ([]:List ad_) ([]:List aa_) ([]:List aa_)
mutual
noncomputable def bl_:Nat→Int→Int→ByteArray→Int→ByteArray→List an_→List ad_→List aa_→List aa_→Option (ac_)
  | 0,_,_,_,_,_,_,_,_,_=>none
  | k+1,x0,x1,x2,x3,x4,x5,x6,x7,x8=>
    bif (decide (x1<x0)) then
      (idx x5 x1).bind fun _=>
      (x5[(Int.toNat x1)]?).bind fun y1=>
      (ht_ k y1).bind fun r2=>
      (idx x5 x1).bind fun _=>
      (x5[(Int.toNat x1)]?).bind fun y3=>
      b3_ k x1 x0 x1 (r2.Out.length:Int) 0 x2 x3 x4 r2.Out (x5.set (Int.toNat x1) r2.End) x6 x7 x8
    else
      some (⟨x2,x3,x5,x6,x4,x7,x8⟩:ac_)
noncomputable def b3_:Nat→Int→Int→Int→Int→Int→ByteArray→Int→ByteArray→List ae_→List an_→List ad_→List aa_→List aa_→Option (ac_)
  | 0,_,_,_,_,_,_,_,_,_,_,_,_,_=>none
  | k+1,x0,x1,x2,x3,x4,x5,x6,x7,x8,x9,x10,x11,x12=>
    bif (decide (x4<x3)) then
      (idx x8 x4).bind fun _=>
      (x8[(Int.toNat x4)]?).bind fun y4=>
      bif (decide ((x10.length:Int)<1000)) then
        (di_ k y4 x5 x6).bind fun r5=>
        (app 40 x10 ([(⟨(IntKind.wrap .i64 (2-x0)),r5,r5⟩:ad_)]:List ad_)).bind fun l6=>
        cB_ k x0 x1 x2 x3 x4 x5 x6 x7 x8 x9 l6 x11 x12
      else
        cB_ k x0 x1 x2 x3 x4 x5 x6 x7 x8 x9 x10 x11 x12
    else
      bl_ k x1 (IntKind.wrap .i64 (x2+1)) x5 x6 x7 x9 x10 x11 x12
noncomputable def cB_:Nat→Int→Int→Int→Int→Int→ByteArray→Int→ByteArray→List ae_→List an_→List ad_→List aa_→List aa_→Option (ac_)
  | 0,_,_,_,_,_,_,_,_,_,_,_,_,_=>none
  | k+1,x0,x1,x2,x3,x4,x5,x6,x7,x8,x9,x10,x11,x12=>
    b3_ k x0 x1 x2 x3 (IntKind.wrap .i64 (x4+1)) x5 x6 x7 x8 x9 x10 x11 x12
end
noncomputable def ee_ (k:Nat) (a0:ac_):Option (ac_):=
  bl_ k (a0.Ends.length:Int) 0 a0.Key a0.Width a0.Forged a0.Ends a0.Flight a0.Given a0.Taken
noncomputable def bL_:Nat→ByteArray→Int→ByteArray→Int→ByteArray→ByteArray→Int→Int→Int→Int→Int→Int→Int→Bool→ByteArray→List an_→List ad_→List aa_→List aa_→Option (ac_)
  | 0,_,_,_,_,_,_,_,_,_,_,_,_,_,_,_,_,_,_,_=>none
  | k+1,x0,x1,x2,x3,x4,x5,x6,x7,x8,x9,x10,x11,x12,x13,x14,x15,x16,x17,x18=>
    (idx x15 (IntKind.wrap .i64 (x3-1))).bind fun _=>
    (x15[(Int.toNat (IntKind.wrap .i64 (x3-1)))]?).bind fun y2=>
    (hs_ k y2 (⟨x6,x7,x8,x9,x10,x11,x12,x13,x14⟩:ae_)).bind fun r3=>
    (idx x15 (IntKind.wrap .i64 (x3-1))).bind fun _=>
    (x15[(Int.toNat (IntKind.wrap .i64 (x3-1)))]?).bind fun y4=>
    some (⟨x0,x1,(x15.set (Int.toNat (IntKind.wrap .i64 (x3-1))) r3.End),x16,x2,x17,x18⟩:ac_)
noncomputable def cJ_ (k:Nat) (a0:ac_) (a1:ad_):Option (ac_):=
  (fu_ k a1.Bytes a0.Key a0.Width).bind fun r1=>
  bif (!r1.2) then
    some a0
  else
    bif (!(a1.Bytes.toList==a1.Sent.toList)) then
      bif (a0.Forged.toList==(⟨#[]⟩:ByteArray).toList) then
        bL_ k a0.Key a0.Width a1.Bytes a1.To a1.Sent a1.Bytes r1.1.Kind r1.1.From r1.1.Mine r1.1.Yours r1.1.Next r1.1.Mask r1.1.Seq r1.1.Last r1.1.Part a0.Ends a0.Flight a0.Given a0.Taken
      else
        bL_ k a0.Key a0.Width a0.Forged a1.To a1.Sent a1.Bytes r1.1.Kind r1.1.From r1.1.Mine r1.1.Yours r1.1.Next r1.1.Mask r1.1.Seq r1.1.Last r1.1.Part a0.Ends a0.Flight a0.Given a0.Taken
    else
      bL_ k a0.Key a0.Width a0.Forged a1.To a1.Sent a1.Bytes r1.1.Kind r1.1.From r1.1.Mine r1.1.Yours r1.1.Next r1.1.Mask r1.1.Seq r1.1.Last r1.1.Part a0.Ends a0.Flight a0.Given a0.Taken
noncomputable def d6_ (k:Nat) (a0:ac_):Option (Bool×ac_):=
  some ((decide ((IntKind.wrap .i64 ((a0.Given.length:Int)+(a0.Taken.length:Int)))≥400)),a0)
noncomputable def ea_ (k:Nat) (a0:ac_) (a1:Int):Option (ac_):=
  (d6_ k a0).bind fun r1=>
  bif r1.1 then
    some r1.2
  else
    (idx r1.2.Ends (IntKind.wrap .i64 (a1-1))).bind fun _=>
    (r1.2.Ends[(Int.toNat (IntKind.wrap .i64 (a1-1)))]?).bind fun y2=>
    (hp_ k y2).bind fun r3=>
    bif (r3.Code==0) then
      (idx r1.2.Ends (IntKind.wrap .i64 (a1-1))).bind fun _=>
      (r1.2.Ends[(Int.toNat (IntKind.wrap .i64 (a1-1)))]?).bind fun y4=>
      (idx r1.2.Ends (IntKind.wrap .i64 (a1-1))).bind fun _=>
      (r1.2.Ends[(Int.toNat (IntKind.wrap .i64 (a1-1)))]?).bind fun y5=>
      (app 40 r1.2.Taken ([(⟨(IntKind.wrap .i64 (3-a1)),y4.Peer,y4.Life,r3.Text⟩:aa_)]:List aa_)).bind fun l6=>
      some (⟨r1.2.Key,r1.2.Width,(r1.2.Ends.set (Int.toNat (IntKind.wrap .i64 (a1-1))) r3.End),r1.2.Flight,r1.2.Forged,r1.2.Given,l6⟩:ac_)
    else
      some r1.2
mutual
noncomputable def hW_:Nat→Bool→Int→Int→Int→Int→ByteArray→ByteArray→Int→ByteArray→ByteArray→Int→ByteArray→List an_→List ad_→List aa_→List aa_→List an_→List ad_→List aa_→List aa_→Option (ac_)
  | 0,_,_,_,_,_,_,_,_,_,_,_,_,_,_,_,_,_,_,_,_=>none
  | k+1,x0,x1,x2,x3,x4,x5,x6,x7,x8,x9,x10,x11,x12,x13,x14,x15,x16,x17,x18,x19=>
    bif (decide (x2≥0)) then
      h5_ k x0 (decide (x2<(x17.length:Int))) x1 x2 x3 x4 x5 x6 x7 x8 x9 x10 x11 x12 x13 x14 x15 x16 x17 x18 x19
    else
      h5_ k x0 false x1 x2 x3 x4 x5 x6 x7 x8 x9 x10 x11 x12 x13 x14 x15 x16 x17 x18 x19
noncomputable def h5_:Nat→Bool→Bool→Int→Int→Int→Int→ByteArray→ByteArray→Int→ByteArray→ByteArray→Int→ByteArray→List an_→List ad_→List aa_→List aa_→List an_→List ad_→List aa_→List aa_→Option (ac_)
  | 0,_,_,_,_,_,_,_,_,_,_,_,_,_,_,_,_,_,_,_,_,_=>none
  | k+1,x0,x1,x2,x3,x4,x5,x6,x7,x8,x9,x10,x11,x12,x13,x14,x15,x16,x17,x18,x19,x20=>
    bif (x2==1) then
      (ee_ k (⟨x10,x11,x17,x18,x12,x19,x20⟩:ac_)).bind fun r3=>
      ar_ k x7 x8 x9 r3.Key r3.Width r3.Forged x13 x14 x15 x16 r3.Ends r3.Flight r3.Given r3.Taken
    else
      bif (x2==2) then
        g2_ k x1 x2 x3 x4 x5 x6 x7 x8 x9 x10 x11 x12 x13 x14 x15 x16 x17 x18 x19 x20
      else
        bif (x2==4) then
          g2_ k x1 x2 x3 x4 x5 x6 x7 x8 x9 x10 x11 x12 x13 x14 x15 x16 x17 x18 x19 x20
        else
          iC_ k x0 x1 x2 x2 x3 x4 x5 x6 x7 x8 x9 x10 x11 x12 x13 x14 x15 x16 x17 x18 x19 x20
noncomputable def ar_:Nat→ByteArray→Int→ByteArray→ByteArray→Int→ByteArray→List an_→List ad_→List aa_→List aa_→List an_→List ad_→List aa_→List aa_→Option (ac_)
  | 0,_,_,_,_,_,_,_,_,_,_,_,_,_,_=>none
  | k+1,x0,x1,x2,x3,x4,x5,x6,x7,x8,x9,x10,x11,x12,x13=>
    some (⟨x3,x4,x10,x11,x5,x12,x13⟩:ac_)
noncomputable def g2_:Nat→Bool→Int→Int→Int→Int→ByteArray→ByteArray→Int→ByteArray→ByteArray→Int→ByteArray→List an_→List ad_→List aa_→List aa_→List an_→List ad_→List aa_→List aa_→Option (ac_)
  | 0,_,_,_,_,_,_,_,_,_,_,_,_,_,_,_,_,_,_,_,_=>none
  | k+1,x0,x1,x2,x3,x4,x5,x6,x7,x8,x9,x10,x11,x12,x13,x14,x15,x16,x17,x18,x19=>
    bif x0 then
      (idx x17 x2).bind fun _=>
      (x17[(Int.toNat x2)]?).bind fun y4=>
      (if (x2:Int)=x2 then wnd x17.length 0 x2 else none).bind fun p5=>
      (wnd x17.length (IntKind.wrap .i64 (x2+1)) (x17.length:Int)).bind fun p6=>
      (app 40 (dY_ x17 p5.1 p5.2) (dY_ x17 p6.1 p6.2)).bind fun l7=>
      bif (x1==2) then
        (cJ_ k (⟨x9,x10,x16,l7,x11,x18,x19⟩:ac_) y4).bind fun r8=>
        ar_ k x6 x7 x8 r8.Key r8.Width r8.Forged x12 x13 x14 x15 r8.Ends r8.Flight r8.Given r8.Taken
      else
        ar_ k x6 x7 x8 x9 x10 x11 x12 x13 x14 x15 x16 l7 x18 x19
    else
      ar_ k x6 x7 x8 x9 x10 x11 x12 x13 x14 x15 x16 x17 x18 x19
noncomputable def iC_:Nat→Bool→Bool→Int→Int→Int→Int→Int→ByteArray→ByteArray→Int→ByteArray→ByteArray→Int→ByteArray→List an_→List ad_→List aa_→List aa_→List an_→List ad_→List aa_→List aa_→Option (ac_)
  | 0,_,_,_,_,_,_,_,_,_,_,_,_,_,_,_,_,_,_,_,_,_,_=>none
  | k+1,x0,x1,x2,x3,x4,x5,x6,x7,x8,x9,x10,x11,x12,x13,x14,x15,x16,x17,x18,x19,x20,x21=>
    bif (x2==3) then
      bif x1 then
        bif (decide ((x19.length:Int)<1000)) then
          (idx x19 x4).bind fun _=>
          (x19[(Int.toNat x4)]?).bind fun y9=>
          (app 40 x19 ([y9]:List ad_)).bind fun l10=>
          ar_ k x8 x9 x10 x11 x12 x13 x14 x15 x16 x17 x18 l10 x20 x21
        else
          ar_ k x8 x9 x10 x11 x12 x13 x14 x15 x16 x17 x18 x19 x20 x21
      else
        ar_ k x8 x9 x10 x11 x12 x13 x14 x15 x16 x17 x18 x19 x20 x21
    else
      bif (x2==5) then
        bif x1 then
          bif (decide (x6≥0)) then
            bif (decide (x5≥0)) then
              (idx x19 x4).bind fun _=>
              (x19[(Int.toNat x4)]?).bind fun y11=>
              bif (decide (x5<(y11.Bytes.size:Int))) then
                (idx x19 x4).bind fun _=>
                (x19[(Int.toNat x4)]?).bind fun y12=>
                (idx (bY_ y12.Bytes) x5).bind fun _=>
                ((bY_ y12.Bytes)[(Int.toNat x5)]?).bind fun y13=>
                (rX_ x6 256).bind fun q14=>
                (idx (bY_ y12.Bytes) x5).bind fun _=>
                ((bY_ y12.Bytes)[(Int.toNat x5)]?).bind fun y15=>
                (idx x19 x4).bind fun _=>
                (x19[(Int.toNat x4)]?).bind fun y16=>
                ar_ k x8 x9 x10 x11 x12 x13 x14 x15 x16 x17 x18 (x19.set (Int.toNat x4) (⟨y16.To,y16.Sent,(i8_ ((bY_ y12.Bytes).set (Int.toNat x5) (iZ_ .u8 y13 (IntKind.wrap .u8 q14))))⟩:ad_)) x20 x21
              else
                ar_ k x8 x9 x10 x11 x12 x13 x14 x15 x16 x17 x18 x19 x20 x21
            else
              ar_ k x8 x9 x10 x11 x12 x13 x14 x15 x16 x17 x18 x19 x20 x21
          else
            ar_ k x8 x9 x10 x11 x12 x13 x14 x15 x16 x17 x18 x19 x20 x21
        else
          ar_ k x8 x9 x10 x11 x12 x13 x14 x15 x16 x17 x18 x19 x20 x21
      else
        bif (x2==6) then
          bif x1 then
            bif (decide (x5≥0)) then
              (idx x19 x4).bind fun _=>
              (x19[(Int.toNat x4)]?).bind fun y17=>
              bif (decide (x5≤(y17.Bytes.size:Int))) then
                (idx x19 x4).bind fun _=>
                (x19[(Int.toNat x4)]?).bind fun y18=>
                (wnd y18.Bytes.size 0 x5).bind fun p19=>
                (idx x19 x4).bind fun _=>
                (x19[(Int.toNat x4)]?).bind fun y20=>
                ar_ k x8 x9 x10 x11 x12 x13 x14 x15 x16 x17 x18 (x19.set (Int.toNat x4) (⟨y20.To,y20.Sent,(y18.Bytes.extract p19.1 p19.2)⟩:ad_)) x20 x21
              else
                ar_ k x8 x9 x10 x11 x12 x13 x14 x15 x16 x17 x18 x19 x20 x21
            else
              ar_ k x8 x9 x10 x11 x12 x13 x14 x15 x16 x17 x18 x19 x20 x21
          else
            ar_ k x8 x9 x10 x11 x12 x13 x14 x15 x16 x17 x18 x19 x20 x21
        else
          bif (x2==7) then
            bif x1 then
              (idx x19 x4).bind fun _=>
              (x19[(Int.toNat x4)]?).bind fun y21=>
              (idx x19 x4).bind fun _=>
              (x19[(Int.toNat x4)]?).bind fun y22=>
              ar_ k x8 x9 x10 x11 x12 x13 x14 x15 x16 x17 x18 (x19.set (Int.toNat x4) (⟨(IntKind.wrap .i64 (3-y21.To)),y22.Sent,y22.Bytes⟩:ad_)) x20 x21
            else
              ar_ k x8 x9 x10 x11 x12 x13 x14 x15 x16 x17 x18 x19 x20 x21
          else
            bif (x2==8) then
              bif x0 then
                (idx x18 (IntKind.wrap .i64 (x4-1))).bind fun _=>
                (x18[(Int.toNat (IntKind.wrap .i64 (x4-1)))]?).bind fun y23=>
                (hN_ k y23).bind fun r24=>
                (idx x18 (IntKind.wrap .i64 (x4-1))).bind fun _=>
                (x18[(Int.toNat (IntKind.wrap .i64 (x4-1)))]?).bind fun y25=>
                ar_ k x8 x9 x10 x11 x12 x13 x14 x15 x16 x17 (x18.set (Int.toNat (IntKind.wrap .i64 (x4-1))) r24) x19 x20 x21
              else
                ar_ k x8 x9 x10 x11 x12 x13 x14 x15 x16 x17 x18 x19 x20 x21
            else
              bif (x2==9) then
                bif x0 then
                  (idx x18 (IntKind.wrap .i64 (x4-1))).bind fun _=>
                  (x18[(Int.toNat (IntKind.wrap .i64 (x4-1)))]?).bind fun y26=>
                  (hF_ k y26).bind fun r27=>
                  (idx x18 (IntKind.wrap .i64 (x4-1))).bind fun _=>
                  (x18[(Int.toNat (IntKind.wrap .i64 (x4-1)))]?).bind fun y28=>
                  ar_ k x8 x9 x10 x11 x12 x13 x14 x15 x16 x17 (x18.set (Int.toNat (IntKind.wrap .i64 (x4-1))) r27) x19 x20 x21
                else
                  ar_ k x8 x9 x10 x11 x12 x13 x14 x15 x16 x17 x18 x19 x20 x21
              else
                bif (x2==10) then
                  bif x0 then
                    (d6_ k (⟨x11,x12,x18,x19,x13,x20,x21⟩:ac_)).bind fun r29=>
                    bif (!r29.1) then
                      both (
                        (idx r29.2.Ends (IntKind.wrap .i64 (x4-1))).bind fun _=>
                        (r29.2.Ends[(Int.toNat (IntKind.wrap .i64 (x4-1)))]?).bind fun y30=>
                        (f9_ k y30 x7).bind fun r31=>
                        bif (r31.Code==0) then
                          (idx r29.2.Ends (IntKind.wrap .i64 (x4-1))).bind fun _=>
                          (r29.2.Ends[(Int.toNat (IntKind.wrap .i64 (x4-1)))]?).bind fun y32=>
                          (app 40 r29.2.Given ([(⟨x4,r31.End.Life,r31.End.Peer,x7⟩:aa_)]:List aa_)).bind fun l33=>
                          ar_ k x8 x9 x10 r29.2.Key r29.2.Width r29.2.Forged x14 x15 x16 x17 (r29.2.Ends.set (Int.toNat (IntKind.wrap .i64 (x4-1))) r31.End) r29.2.Flight l33 r29.2.Taken
                        else
                          ar_ k x8 x9 x10 r29.2.Key r29.2.Width r29.2.Forged x14 x15 x16 x17 r29.2.Ends r29.2.Flight r29.2.Given r29.2.Taken
                      ) (
                        (idx r29.2.Ends (IntKind.wrap .i64 (x4-1))).bind fun _=>
                        (r29.2.Ends[(Int.toNat (IntKind.wrap .i64 (x4-1)))]?).bind fun y34=>
                        (f9_ k y34 x7).bind fun r35=>
                        bif (r35.Code==0) then
                          (idx r29.2.Ends (IntKind.wrap .i64 (x4-1))).bind fun _=>
                          (r29.2.Ends[(Int.toNat (IntKind.wrap .i64 (x4-1)))]?).bind fun y36=>
                          (app 40 r29.2.Given ([(⟨x4,r35.End.Life,r35.End.Peer,x7⟩:aa_)]:List aa_)).bind fun l37=>
                          ar_ k x8 x9 x10 r29.2.Key r29.2.Width r29.2.Forged x14 x15 x16 x17 (r29.2.Ends.set (Int.toNat (IntKind.wrap .i64 (x4-1))) r35.End) r29.2.Flight l37 r29.2.Taken
                        else
                          ar_ k x8 x9 x10 r29.2.Key r29.2.Width r29.2.Forged x14 x15 x16 x17 r29.2.Ends r29.2.Flight r29.2.Given r29.2.Taken
                      )
                    else
                      ar_ k x8 x9 x10 r29.2.Key r29.2.Width r29.2.Forged x14 x15 x16 x17 r29.2.Ends r29.2.Flight r29.2.Given r29.2.Taken
                  else
                    ar_ k x8 x9 x10 x11 x12 x13 x14 x15 x16 x17 x18 x19 x20 x21
                else
                  bif (x2==11) then
                    bif x0 then
                      (ea_ k (⟨x11,x12,x18,x19,x13,x20,x21⟩:ac_) x4).bind fun r38=>
                      ar_ k x8 x9 x10 r38.Key r38.Width r38.Forged x14 x15 x16 x17 r38.Ends r38.Flight r38.Given r38.Taken
                    else
                      ar_ k x8 x9 x10 x11 x12 x13 x14 x15 x16 x17 x18 x19 x20 x21
                  else
                    ar_ k x8 x9 x10 x11 x12 x13 x14 x15 x16 x17 x18 x19 x20 x21
end
noncomputable def kQ_ (k:Nat) (a0:ac_) (a1:as_):Option (ac_):=
  (cx_ k a0).bind fun r1=>
  bif (!r1) then
    some (⟨(⟨#[]⟩:ByteArray),0,([]:List an_),([]:List ad_),(⟨#[]⟩:ByteArray),([]:List aa_),([]:List aa_)⟩:ac_)
  else
    (eN_ k a0).bind fun r2=>
    bif (a1.A==1) then
      hW_ k true a1.Kind a1.A a1.B a1.C a1.Text (⟨#[]⟩:ByteArray) 0 (⟨#[]⟩:ByteArray) r2.Key r2.Width r2.Forged ([]:List an_) ([]:List ad_) ([]:List aa_) ([]:List aa_) r2.Ends r2.Flight r2.Given r2.Taken
    else
      hW_ k (a1.A==2) a1.Kind a1.A a1.B a1.C a1.Text (⟨#[]⟩:ByteArray) 0 (⟨#[]⟩:ByteArray) r2.Key r2.Width r2.Forged ([]:List an_) ([]:List ad_) ([]:List aa_) ([]:List aa_) r2.Ends r2.Flight r2.Given r2.Taken
noncomputable def bM_:Nat→List aa_→Int→Option (Bool)
  | 0,_,_=>none
  | k+1,x0,x1=>
    bif (decide (x1<(x0.length:Int))) then
      (idx x0 x1).bind fun y1=>
      (az_ k y1.From 1 2).bind fun r2=>
      bif (!r2) then
        some false
      else
        (az_ k y1.A 1 1000).bind fun r3=>
        bif (!r3) then
          some false
        else
          (az_ k y1.B 1 1000).bind fun r4=>
          bif (!r4) then
            some false
          else
            bif (decide ((y1.Text.size:Int)>200)) then
              some false
            else
              bM_ k x0 (IntKind.wrap .i64 (x1+1))
    else
      some true
noncomputable def eY_ (k:Nat) (a0:List aa_):Option (Bool):=
  bM_ k a0 0
mutual
noncomputable def b6_:Nat→Int→ByteArray→Int→List an_→List ad_→ByteArray→List aa_→List aa_→Option (Bool)
  | 0,_,_,_,_,_,_,_,_=>none
  | k+1,x0,x1,x2,x3,x4,x5,x6,x7=>
    bif (decide (x0<2)) then
      (idx x3 x0).bind fun y2=>
      (bU_ k y2).bind fun r3=>
      bif (!r3) then
        some false
      else
        (idx x3 x0).bind fun y4=>
        bif (y4.Number !=(IntKind.wrap .i64 (x0+1))) then
          some false
        else
          b6_ k (IntKind.wrap .i64 (x0+1)) x1 x2 x3 x4 x5 x6 x7
    else
      b8_ k 0 x1 x2 x3 x4 x5 x6 x7
noncomputable def b8_:Nat→Int→ByteArray→Int→List an_→List ad_→ByteArray→List aa_→List aa_→Option (Bool)
  | 0,_,_,_,_,_,_,_,_=>none
  | k+1,x0,x1,x2,x3,x4,x5,x6,x7=>
    bif (decide (x0<(x4.length:Int))) then
      (idx x4 x0).bind fun y5=>
      (az_ k y5.To 1 2).bind fun r6=>
      bif (!r6) then
        some false
      else
        bif (decide ((y5.Sent.size:Int)>100)) then
          some false
        else
          bif (decide ((y5.Bytes.size:Int)>100)) then
            some false
          else
            b8_ k (IntKind.wrap .i64 (x0+1)) x1 x2 x3 x4 x5 x6 x7
    else
      (eY_ k x6).bind fun r7=>
      bif r7 then
        (eY_ k x7).bind fun r8=>
        some r8
      else
        some false
end
noncomputable def bD_ (k:Nat) (a0:ac_):Option (Bool):=
  (az_ k a0.Width 1 8).bind fun r1=>
  bif (!r1) then
    some false
  else
    bif (decide ((a0.Key.size:Int)>30)) then
      some false
    else
      bif ((a0.Ends.length:Int) !=2) then
        some false
      else
        bif (decide ((a0.Flight.length:Int)>1000)) then
          some false
        else
          bif (decide ((IntKind.wrap .i64 ((a0.Given.length:Int)+(a0.Taken.length:Int)))>400)) then
            some false
          else
            b6_ k 0 a0.Key a0.Width a0.Ends a0.Flight a0.Forged a0.Given a0.Taken
noncomputable def dV_:Nat→Int→ByteArray→Int→List an_→List ad_→ByteArray→List aa_→List aa_→ByteArray→Int→ByteArray→ByteArray→Int→List ad_→ByteArray→List aa_→List aa_→List an_→List ad_→List aa_→List aa_→List an_→Option (ac_)
  | 0,_,_,_,_,_,_,_,_,_,_,_,_,_,_,_,_,_,_,_,_,_,_=>none
  | k+1,x0,x1,x2,x3,x4,x5,x6,x7,x8,x9,x10,x11,x12,x13,x14,x15,x16,x17,x18,x19,x20,x21=>
    bif (decide (x0<(x3.length:Int))) then
      (idx x3 x0).bind fun y1=>
      (c5_ k y1).bind fun r2=>
      (app 152 x21 ([r2]:List an_)).bind fun l3=>
      dV_ k (IntKind.wrap .i64 (x0+1)) x1 x2 x3 x4 x5 x6 x7 x8 x9 x10 x11 x12 x13 x14 x15 x16 x17 x18 x19 x20 l3
    else
      (app 40 ([]:List ad_) x4).bind fun l4=>
      (app 40 ([]:List aa_) x6).bind fun l5=>
      (app 40 ([]:List aa_) x7).bind fun l6=>
      some (⟨x11,x12,x21,l4,x14,l5,l6⟩:ac_)
noncomputable def g4_ (k:Nat) (a0:ac_):Option (ac_):=
  dV_ k 0 a0.Key a0.Width a0.Ends a0.Flight a0.Forged a0.Given a0.Taken (⟨#[]⟩:ByteArray) 0 (⟨#[]⟩:ByteArray) a0.Key a0.Width a0.Flight a0.Forged a0.Given a0.Taken ([]:List an_) ([]:List ad_) ([]:List aa_) ([]:List aa_) ([]:List an_)
mutual
noncomputable def bN_:Nat→Int→ByteArray→Int→ByteArray→ByteArray→Int→ByteArray→List an_→List ad_→List aa_→List aa_→List an_→List ad_→List aa_→List aa_→Option (ac_)
  | 0,_,_,_,_,_,_,_,_,_,_,_,_,_,_,_=>none
  | k+1,x0,x1,x2,x3,x4,x5,x6,x7,x8,x9,x10,x11,x12,x13,x14=>
    bif (decide (x0<2)) then
      (idx x7 x0).bind fun _=>
      (x7[(Int.toNat x0)]?).bind fun y1=>
      (hl_ k y1).bind fun r2=>
      (idx x7 x0).bind fun _=>
      (x7[(Int.toNat x0)]?).bind fun y3=>
      dW_ k x0 0 x1 x2 x3 x4 x5 x6 r2.Code r2.End.Number r2.End.Up r2.End.Life r2.End.Peer r2.End.Since r2.End.Owes r2.End.Send.Base r2.End.Take.Next r2.End.Take.Open r2.Text (x7.set (Int.toNat x0) r2.End) x8 x9 x10 x11 x12 x13 x14 r2.Out
    else
      some (⟨x1,x2,x7,x8,x3,x9,x10⟩:ac_)
noncomputable def dW_:Nat→Int→Int→ByteArray→Int→ByteArray→ByteArray→Int→ByteArray→Int→Int→Bool→Int→Int→Int→Bool→Int→Int→ByteArray→ByteArray→List an_→List ad_→List aa_→List aa_→List an_→List ad_→List aa_→List aa_→List ae_→Option (ac_)
  | 0,_,_,_,_,_,_,_,_,_,_,_,_,_,_,_,_,_,_,_,_,_,_,_,_,_,_,_,_=>none
  | k+1,x0,x1,x2,x3,x4,x5,x6,x7,x8,x9,x10,x11,x12,x13,x14,x15,x16,x17,x18,x19,x20,x21,x22,x23,x24,x25,x26,x27=>
    bif (decide (x1<(x27.length:Int))) then
      bif (decide ((x20.length:Int)<1000)) then
        (idx x27 x1).bind fun _=>
        (x27[(Int.toNat x1)]?).bind fun y4=>
        (da_ k y4 x2 x3).bind fun r5=>
        (app 40 x20 ([(⟨(IntKind.wrap .i64 (2-x0)),r5,r5⟩:ad_)]:List ad_)).bind fun l6=>
        dW_ k x0 (IntKind.wrap .i64 (x1+1)) x2 x3 x4 x5 x6 x7 x8 x9 x10 x11 x12 x13 x14 x15 x16 x17 x18 x19 l6 x21 x22 x23 x24 x25 x26 x27
      else
        bN_ k (IntKind.wrap .i64 (x0+1)) x2 x3 x4 x5 x6 x7 x19 x20 x21 x22 x23 x24 x25 x26
    else
      bN_ k (IntKind.wrap .i64 (x0+1)) x2 x3 x4 x5 x6 x7 x19 x20 x21 x22 x23 x24 x25 x26
end
noncomputable def iA_ (k:Nat) (a0:ac_):Option (ac_):=
  bN_ k 0 a0.Key a0.Width a0.Forged (⟨#[]⟩:ByteArray) 0 (⟨#[]⟩:ByteArray) a0.Ends a0.Flight a0.Given a0.Taken ([]:List an_) ([]:List ad_) ([]:List aa_) ([]:List aa_)
noncomputable def eU_ (k:Nat) (a0:List ad_) (a1:Int):Option (List ad_):=
  (wnd a0.length 0 a1).bind fun p1=>
  (app 40 ([]:List ad_) (dY_ a0 p1.1 p1.2)).bind fun l2=>
  (wnd a0.length (IntKind.wrap .i64 (a1+1)) (a0.length:Int)).bind fun p3=>
  (app 40 l2 (dY_ a0 p3.1 p3.2)).bind fun l4=>
  some l4
noncomputable def dd_:Nat→ByteArray→Int→ByteArray→ByteArray→Int→ByteArray→Int→ByteArray→ByteArray→Int→Int→Int→Int→Int→Int→Int→Bool→ByteArray→List an_→List ad_→List aa_→List aa_→List an_→List ad_→List aa_→List aa_→Option (ac_)
  | 0,_,_,_,_,_,_,_,_,_,_,_,_,_,_,_,_,_,_,_,_,_,_,_,_,_,_=>none
  | k+1,x0,x1,x2,x3,x4,x5,x6,x7,x8,x9,x10,x11,x12,x13,x14,x15,x16,x17,x18,x19,x20,x21,x22,x23,x24,x25=>
    (idx x18 (IntKind.wrap .i64 (x6-1))).bind fun _=>
    (x18[(Int.toNat (IntKind.wrap .i64 (x6-1)))]?).bind fun y4=>
    (ho_ k y4 (⟨x9,x10,x11,x12,x13,x14,x15,x16,x17⟩:ae_)).bind fun r5=>
    (idx x18 (IntKind.wrap .i64 (x6-1))).bind fun _=>
    (x18[(Int.toNat (IntKind.wrap .i64 (x6-1)))]?).bind fun y6=>
    some (⟨x0,x1,(x18.set (Int.toNat (IntKind.wrap .i64 (x6-1))) r5.End),x19,x2,x20,x21⟩:ac_)
noncomputable def hH_ (k:Nat) (a0:ac_) (a1:Int):Option (ac_):=
  (idx a0.Flight a1).bind fun _=>
  (a0.Flight[(Int.toNat a1)]?).bind fun y1=>
  (eU_ k a0.Flight a1).bind fun r2=>
  (en_ k y1.Bytes a0.Key a0.Width).bind fun r3=>
  bif (!r3.2) then
    some (⟨a0.Key,a0.Width,a0.Ends,r2,a0.Forged,a0.Given,a0.Taken⟩:ac_)
  else
    bif (!(y1.Bytes.toList==y1.Sent.toList)) then
      bif (a0.Forged.toList==(⟨#[]⟩:ByteArray).toList) then
        dd_ k a0.Key a0.Width y1.Bytes (⟨#[]⟩:ByteArray) 0 (⟨#[]⟩:ByteArray) y1.To y1.Sent y1.Bytes r3.1.Kind r3.1.From r3.1.Mine r3.1.Yours r3.1.Next r3.1.Mask r3.1.Seq r3.1.Last r3.1.Part a0.Ends r2 a0.Given a0.Taken ([]:List an_) ([]:List ad_) ([]:List aa_) ([]:List aa_)
      else
        dd_ k a0.Key a0.Width a0.Forged (⟨#[]⟩:ByteArray) 0 (⟨#[]⟩:ByteArray) y1.To y1.Sent y1.Bytes r3.1.Kind r3.1.From r3.1.Mine r3.1.Yours r3.1.Next r3.1.Mask r3.1.Seq r3.1.Last r3.1.Part a0.Ends r2 a0.Given a0.Taken ([]:List an_) ([]:List ad_) ([]:List aa_) ([]:List aa_)
    else
      dd_ k a0.Key a0.Width a0.Forged (⟨#[]⟩:ByteArray) 0 (⟨#[]⟩:ByteArray) y1.To y1.Sent y1.Bytes r3.1.Kind r3.1.From r3.1.Mine r3.1.Yours r3.1.Next r3.1.Mask r3.1.Seq r3.1.Last r3.1.Part a0.Ends r2 a0.Given a0.Taken ([]:List an_) ([]:List ad_) ([]:List aa_) ([]:List aa_)
mutual
noncomputable def dc_:Nat→ByteArray→Int→ByteArray→ByteArray→Int→ByteArray→List an_→List ad_→List aa_→List aa_→List an_→List ad_→List aa_→List aa_→Option (ac_)
  | 0,_,_,_,_,_,_,_,_,_,_,_,_,_,_=>none
  | k+1,x0,x1,x2,x3,x4,x5,x6,x7,x8,x9,x10,x11,x12,x13=>
    some (⟨x0,x1,x6,x7,x2,x8,x9⟩:ac_)
noncomputable def aJ_:Nat→ByteArray→Int→ByteArray→Int→Int→Int→Int→ByteArray→ByteArray→Int→ByteArray→Int→ByteArray→ByteArray→List an_→List ad_→List aa_→List aa_→List an_→List ad_→List aa_→List aa_→Option (ac_)
  | 0,_,_,_,_,_,_,_,_,_,_,_,_,_,_,_,_,_,_,_,_,_,_=>none
  | k+1,x0,x1,x2,x3,x4,x5,x6,x7,x8,x9,x10,x11,x12,x13,x14,x15,x16,x17,x18,x19,x20,x21=>
    (idx x15 x4).bind fun _=>
    (x15[(Int.toNat x4)]?).bind fun y9=>
    some (⟨x0,x1,x14,(x15.set (Int.toNat x4) (⟨x11,x12,x13⟩:ad_)),x2,x16,x17⟩:ac_)
end
noncomputable def gx_ (k:Nat) (a0:ac_) (a1:as_):Option (ac_):=
  (idx a0.Flight a1.A).bind fun _=>
  (a0.Flight[(Int.toNat a1.A)]?).bind fun y1=>
  bif (a1.Kind==2) then
    (hH_ k a0 a1.A).bind fun r2=>
    some r2
  else
    bif (a1.Kind==4) then
      (eU_ k a0.Flight a1.A).bind fun r3=>
      some (⟨a0.Key,a0.Width,a0.Ends,r3,a0.Forged,a0.Given,a0.Taken⟩:ac_)
    else
      bif (a1.Kind==3) then
        bif (decide ((a0.Flight.length:Int)<1000)) then
          (app 40 a0.Flight ([y1]:List ad_)).bind fun l4=>
          dc_ k a0.Key a0.Width a0.Forged (⟨#[]⟩:ByteArray) 0 (⟨#[]⟩:ByteArray) a0.Ends l4 a0.Given a0.Taken ([]:List an_) ([]:List ad_) ([]:List aa_) ([]:List aa_)
        else
          dc_ k a0.Key a0.Width a0.Forged (⟨#[]⟩:ByteArray) 0 (⟨#[]⟩:ByteArray) a0.Ends a0.Flight a0.Given a0.Taken ([]:List an_) ([]:List ad_) ([]:List aa_) ([]:List aa_)
      else
        bif (a1.Kind==5) then
          bif (decide (a1.B≥0)) then
            bif (decide (a1.B<(y1.Bytes.size:Int))) then
              bif (decide (a1.C≥0)) then
                (idx (bY_ y1.Bytes) a1.B).bind fun _=>
                ((bY_ y1.Bytes)[(Int.toNat a1.B)]?).bind fun y5=>
                (rX_ a1.C 256).bind fun q6=>
                (idx (bY_ y1.Bytes) a1.B).bind fun _=>
                ((bY_ y1.Bytes)[(Int.toNat a1.B)]?).bind fun y7=>
                aJ_ k a0.Key a0.Width a0.Forged a1.Kind a1.A a1.B a1.C a1.Text (⟨#[]⟩:ByteArray) 0 (⟨#[]⟩:ByteArray) y1.To y1.Sent (i8_ ((bY_ y1.Bytes).set (Int.toNat a1.B) (iZ_ .u8 y5 (IntKind.wrap .u8 q6)))) a0.Ends a0.Flight a0.Given a0.Taken ([]:List an_) ([]:List ad_) ([]:List aa_) ([]:List aa_)
              else
                aJ_ k a0.Key a0.Width a0.Forged a1.Kind a1.A a1.B a1.C a1.Text (⟨#[]⟩:ByteArray) 0 (⟨#[]⟩:ByteArray) y1.To y1.Sent y1.Bytes a0.Ends a0.Flight a0.Given a0.Taken ([]:List an_) ([]:List ad_) ([]:List aa_) ([]:List aa_)
            else
              aJ_ k a0.Key a0.Width a0.Forged a1.Kind a1.A a1.B a1.C a1.Text (⟨#[]⟩:ByteArray) 0 (⟨#[]⟩:ByteArray) y1.To y1.Sent y1.Bytes a0.Ends a0.Flight a0.Given a0.Taken ([]:List an_) ([]:List ad_) ([]:List aa_) ([]:List aa_)
          else
            aJ_ k a0.Key a0.Width a0.Forged a1.Kind a1.A a1.B a1.C a1.Text (⟨#[]⟩:ByteArray) 0 (⟨#[]⟩:ByteArray) y1.To y1.Sent y1.Bytes a0.Ends a0.Flight a0.Given a0.Taken ([]:List an_) ([]:List ad_) ([]:List aa_) ([]:List aa_)
        else
          bif (a1.Kind==6) then
            bif (decide (a1.B≥0)) then
              bif (decide (a1.B≤(y1.Bytes.size:Int))) then
                (wnd y1.Bytes.size 0 a1.B).bind fun p8=>
                aJ_ k a0.Key a0.Width a0.Forged a1.Kind a1.A a1.B a1.C a1.Text (⟨#[]⟩:ByteArray) 0 (⟨#[]⟩:ByteArray) y1.To y1.Sent (y1.Bytes.extract p8.1 p8.2) a0.Ends a0.Flight a0.Given a0.Taken ([]:List an_) ([]:List ad_) ([]:List aa_) ([]:List aa_)
              else
                aJ_ k a0.Key a0.Width a0.Forged a1.Kind a1.A a1.B a1.C a1.Text (⟨#[]⟩:ByteArray) 0 (⟨#[]⟩:ByteArray) y1.To y1.Sent y1.Bytes a0.Ends a0.Flight a0.Given a0.Taken ([]:List an_) ([]:List ad_) ([]:List aa_) ([]:List aa_)
            else
              aJ_ k a0.Key a0.Width a0.Forged a1.Kind a1.A a1.B a1.C a1.Text (⟨#[]⟩:ByteArray) 0 (⟨#[]⟩:ByteArray) y1.To y1.Sent y1.Bytes a0.Ends a0.Flight a0.Given a0.Taken ([]:List an_) ([]:List ad_) ([]:List aa_) ([]:List aa_)
          else
            bif (a1.Kind==7) then
              aJ_ k a0.Key a0.Width a0.Forged a1.Kind a1.A a1.B a1.C a1.Text (⟨#[]⟩:ByteArray) 0 (⟨#[]⟩:ByteArray) (IntKind.wrap .i64 (3-y1.To)) y1.Sent y1.Bytes a0.Ends a0.Flight a0.Given a0.Taken ([]:List an_) ([]:List ad_) ([]:List aa_) ([]:List aa_)
            else
              aJ_ k a0.Key a0.Width a0.Forged a1.Kind a1.A a1.B a1.C a1.Text (⟨#[]⟩:ByteArray) 0 (⟨#[]⟩:ByteArray) y1.To y1.Sent y1.Bytes a0.Ends a0.Flight a0.Given a0.Taken ([]:List an_) ([]:List ad_) ([]:List aa_) ([]:List aa_)
noncomputable def bb_:Nat→ByteArray→Int→ByteArray→ByteArray→Int→ByteArray→List an_→List ad_→List aa_→List aa_→List an_→List ad_→List aa_→List aa_→Option (ac_)
  | 0,_,_,_,_,_,_,_,_,_,_,_,_,_,_=>none
  | k+1,x0,x1,x2,x3,x4,x5,x6,x7,x8,x9,x10,x11,x12,x13=>
    some (⟨x0,x1,x6,x7,x2,x8,x9⟩:ac_)
noncomputable def if_ (k:Nat) (a0:ac_) (a1:as_):Option (ac_):=
  (idx a0.Ends (IntKind.wrap .i64 (a1.A-1))).bind fun _=>
  (a0.Ends[(Int.toNat (IntKind.wrap .i64 (a1.A-1)))]?).bind fun y1=>
  bif (a1.Kind==8) then
    (hB_ k y1).bind fun r2=>
    (idx a0.Ends (IntKind.wrap .i64 (a1.A-1))).bind fun _=>
    (a0.Ends[(Int.toNat (IntKind.wrap .i64 (a1.A-1)))]?).bind fun y3=>
    bb_ k a0.Key a0.Width a0.Forged (⟨#[]⟩:ByteArray) 0 (⟨#[]⟩:ByteArray) (a0.Ends.set (Int.toNat (IntKind.wrap .i64 (a1.A-1))) r2) a0.Flight a0.Given a0.Taken ([]:List an_) ([]:List ad_) ([]:List aa_) ([]:List aa_)
  else
    bif (a1.Kind==9) then
      (hm_ k y1).bind fun r4=>
      (idx a0.Ends (IntKind.wrap .i64 (a1.A-1))).bind fun _=>
      (a0.Ends[(Int.toNat (IntKind.wrap .i64 (a1.A-1)))]?).bind fun y5=>
      bb_ k a0.Key a0.Width a0.Forged (⟨#[]⟩:ByteArray) 0 (⟨#[]⟩:ByteArray) (a0.Ends.set (Int.toNat (IntKind.wrap .i64 (a1.A-1))) r4) a0.Flight a0.Given a0.Taken ([]:List an_) ([]:List ad_) ([]:List aa_) ([]:List aa_)
    else
      bif (a1.Kind==10) then
        (hz_ k y1 a1.Text).bind fun r6=>
        bif (r6.Code==0) then
          bif (decide ((IntKind.wrap .i64 ((a0.Given.length:Int)+(a0.Taken.length:Int)))<400)) then
            (idx a0.Ends (IntKind.wrap .i64 (a1.A-1))).bind fun _=>
            (a0.Ends[(Int.toNat (IntKind.wrap .i64 (a1.A-1)))]?).bind fun y7=>
            (app 40 a0.Given ([(⟨a1.A,y1.Life,y1.Peer,a1.Text⟩:aa_)]:List aa_)).bind fun l8=>
            bb_ k a0.Key a0.Width a0.Forged (⟨#[]⟩:ByteArray) 0 (⟨#[]⟩:ByteArray) (a0.Ends.set (Int.toNat (IntKind.wrap .i64 (a1.A-1))) r6.End) a0.Flight l8 a0.Taken ([]:List an_) ([]:List ad_) ([]:List aa_) ([]:List aa_)
          else
            bb_ k a0.Key a0.Width a0.Forged (⟨#[]⟩:ByteArray) 0 (⟨#[]⟩:ByteArray) a0.Ends a0.Flight a0.Given a0.Taken ([]:List an_) ([]:List ad_) ([]:List aa_) ([]:List aa_)
        else
          bb_ k a0.Key a0.Width a0.Forged (⟨#[]⟩:ByteArray) 0 (⟨#[]⟩:ByteArray) a0.Ends a0.Flight a0.Given a0.Taken ([]:List an_) ([]:List ad_) ([]:List aa_) ([]:List aa_)
      else
        bif (a1.Kind==11) then
          (hq_ k y1).bind fun r9=>
          bif (r9.Code==0) then
            bif (decide ((IntKind.wrap .i64 ((a0.Given.length:Int)+(a0.Taken.length:Int)))<400)) then
              (idx a0.Ends (IntKind.wrap .i64 (a1.A-1))).bind fun _=>
              (a0.Ends[(Int.toNat (IntKind.wrap .i64 (a1.A-1)))]?).bind fun y10=>
              (app 40 a0.Taken ([(⟨(IntKind.wrap .i64 (3-a1.A)),y1.Peer,y1.Life,r9.Text⟩:aa_)]:List aa_)).bind fun l11=>
              bb_ k a0.Key a0.Width a0.Forged (⟨#[]⟩:ByteArray) 0 (⟨#[]⟩:ByteArray) (a0.Ends.set (Int.toNat (IntKind.wrap .i64 (a1.A-1))) r9.End) a0.Flight a0.Given l11 ([]:List an_) ([]:List ad_) ([]:List aa_) ([]:List aa_)
            else
              bb_ k a0.Key a0.Width a0.Forged (⟨#[]⟩:ByteArray) 0 (⟨#[]⟩:ByteArray) a0.Ends a0.Flight a0.Given a0.Taken ([]:List an_) ([]:List ad_) ([]:List aa_) ([]:List aa_)
          else
            bb_ k a0.Key a0.Width a0.Forged (⟨#[]⟩:ByteArray) 0 (⟨#[]⟩:ByteArray) a0.Ends a0.Flight a0.Given a0.Taken ([]:List an_) ([]:List ad_) ([]:List aa_) ([]:List aa_)
        else
          bb_ k a0.Key a0.Width a0.Forged (⟨#[]⟩:ByteArray) 0 (⟨#[]⟩:ByteArray) a0.Ends a0.Flight a0.Given a0.Taken ([]:List an_) ([]:List ad_) ([]:List aa_) ([]:List aa_)
noncomputable def ln_ (k:Nat) (a0:ac_) (a1:as_):Option (ac_):=
  bif (a1.Kind==1) then
    (iA_ k a0).bind fun r1=>
    some r1
  else
    (az_ k a1.Kind 2 7).bind fun r2=>
    bif r2 then
      (az_ k a1.A 0 (IntKind.wrap .i64 ((a0.Flight.length:Int)-1))).bind fun r3=>
      bif r3 then
        (gx_ k a0 a1).bind fun r4=>
        some r4
      else
        (az_ k a1.Kind 8 11).bind fun r5=>
        bif r5 then
          (az_ k a1.A 1 2).bind fun r6=>
          bif r6 then
            (if_ k a0 a1).bind fun r7=>
            some r7
          else
            some a0
        else
          some a0
    else
      (az_ k a1.Kind 8 11).bind fun r8=>
      bif r8 then
        (az_ k a1.A 1 2).bind fun r9=>
        bif r9 then
          (if_ k a0 a1).bind fun r10=>
          some r10
        else
          some a0
      else
        some a0
noncomputable def qt_ (k:Nat) (a0:ac_) (a1:as_):Option (ac_):=
  (bD_ k a0).bind fun r1=>
  bif (!r1) then
    some (⟨(⟨#[]⟩:ByteArray),0,([]:List an_),([]:List ad_),(⟨#[]⟩:ByteArray),([]:List aa_),([]:List aa_)⟩:ac_)
  else
    (g4_ k a0).bind fun r2=>
    (ln_ k r2 a1).bind fun r3=>
    (g4_ k r3).bind fun r4=>
    some r4
noncomputable def cI_:Nat→List aa_→List aa_→Int→Option (Bool)
  | 0,_,_,_=>none
  | k+1,x0,x1,x2=>
    bif (decide (x2<(x0.length:Int))) then
      (idx x0 x2).bind fun y1=>
      (idx x1 x2).bind fun y2=>
      bif (!(((y1.From:Int)==y2.From)&&(((y1.A:Int)==y2.A)&&(((y1.B:Int)==y2.B)&&((y1.Text.toList==y2.Text.toList)&&true))))) then
        some false
      else
        cI_ k x0 x1 (IntKind.wrap .i64 (x2+1))
    else
      some true
noncomputable def fz_ (k:Nat) (a0:List aa_) (a1:List aa_):Option (Bool):=
  bif ((a0.length:Int) !=(a1.length:Int)) then
    some false
  else
    cI_ k a0 a1 0
mutual
noncomputable def dU_:Nat→Int→ByteArray→Int→List an_→List ad_→ByteArray→List aa_→List aa_→ByteArray→Int→List an_→List ad_→ByteArray→List aa_→List aa_→Option (Bool)
  | 0,_,_,_,_,_,_,_,_,_,_,_,_,_,_,_=>none
  | k+1,x0,x1,x2,x3,x4,x5,x6,x7,x8,x9,x10,x11,x12,x13,x14=>
    bif (decide (x0<(x3.length:Int))) then
      (idx x3 x0).bind fun y3=>
      (idx x10 x0).bind fun y4=>
      (lG_ k y3 y4).bind fun r5=>
      bif (!r5) then
        some false
      else
        dU_ k (IntKind.wrap .i64 (x0+1)) x1 x2 x3 x4 x5 x6 x7 x8 x9 x10 x11 x12 x13 x14
    else
      dR_ k 0 x1 x2 x3 x4 x5 x6 x7 x8 x9 x10 x11 x12 x13 x14
noncomputable def dR_:Nat→Int→ByteArray→Int→List an_→List ad_→ByteArray→List aa_→List aa_→ByteArray→Int→List an_→List ad_→ByteArray→List aa_→List aa_→Option (Bool)
  | 0,_,_,_,_,_,_,_,_,_,_,_,_,_,_,_=>none
  | k+1,x0,x1,x2,x3,x4,x5,x6,x7,x8,x9,x10,x11,x12,x13,x14=>
    bif (decide (x0<(x4.length:Int))) then
      (idx x4 x0).bind fun y6=>
      (idx x11 x0).bind fun y7=>
      bif (!(((y6.To:Int)==y7.To)&&((y6.Sent.toList==y7.Sent.toList)&&((y6.Bytes.toList==y7.Bytes.toList)&&true)))) then
        some false
      else
        dR_ k (IntKind.wrap .i64 (x0+1)) x1 x2 x3 x4 x5 x6 x7 x8 x9 x10 x11 x12 x13 x14
    else
      some true
end
noncomputable def gO_ (k:Nat) (a0:ac_) (a1:ac_):Option (Bool):=
  bif (!(a0.Key.toList==a1.Key.toList)) then
    some false
  else
    bif (a0.Width !=a1.Width) then
      some false
    else
      bif (!(a0.Forged.toList==a1.Forged.toList)) then
        some false
      else
        bif ((a0.Ends.length:Int) !=(a1.Ends.length:Int)) then
          some false
        else
          bif ((a0.Flight.length:Int) !=(a1.Flight.length:Int)) then
            some false
          else
            (fz_ k a0.Given a1.Given).bind fun r1=>
            bif (!r1) then
              some false
            else
              (fz_ k a0.Taken a1.Taken).bind fun r2=>
              bif (!r2) then
                some false
              else
                dU_ k 0 a0.Key a0.Width a0.Ends a0.Flight a0.Forged a0.Given a0.Taken a1.Key a1.Width a1.Ends a1.Flight a1.Forged a1.Given a1.Taken
mutual
noncomputable def cX_:Nat→List aa_→Int→Int→ByteArray→Int→List an_→List ad_→ByteArray→List aa_→List aa_→List (DPair×List ByteArray)→Option (Bool)
  | 0,_,_,_,_,_,_,_,_,_,_,_=>none
  | k+1,x0,x1,x2,x3,x4,x5,x6,x7,x8,x9,x10=>
    bif (decide (x2<x1)) then
      (idx x0 x2).bind fun y2=>
      optK (a3_ (a7_ (⟨y2.From,y2.A,y2.B⟩:DPair)) x10 0) (
        (app 16 ([]:List ByteArray) ([y2.Text]:List ByteArray)).bind fun l4=>
        (idx (x10++[((⟨y2.From,y2.A,y2.B⟩:DPair),([]:List ByteArray))]) (x10.length:Int)).bind fun e5=>
        cX_ k x0 x1 (IntKind.wrap .i64 (x2+1)) x3 x4 x5 x6 x7 x8 x9 ((x10++[((⟨y2.From,y2.A,y2.B⟩:DPair),([]:List ByteArray))]).set (Int.toNat (x10.length:Int)) (e5.1,l4))
      ) (fun p3=>
        (app 16 p3.2 ([y2.Text]:List ByteArray)).bind fun l6=>
        bif Nat.beq p3.1 (Int.toNat (p3.1:Int)) then
          (idx x10 (p3.1:Int)).bind fun e7=>
          cX_ k x0 x1 (IntKind.wrap .i64 (x2+1)) x3 x4 x5 x6 x7 x8 x9 (x10.set (Int.toNat (p3.1:Int)) (e7.1,l6))
        else
          none
      )
    else
      aO_ k x9 (x9.length:Int) 0 x10 ([]:List (DPair×Int))
noncomputable def aO_:Nat→List aa_→Int→Int→List (DPair×List ByteArray)→List (DPair×Int)→Option (Bool)
  | 0,_,_,_,_,_=>none
  | k+1,x0,x1,x2,x3,x4=>
    bif (decide (x2<x1)) then
      (idx x0 x2).bind fun y8=>
      optK (a3_ (a7_ (⟨y8.From,y8.A,y8.B⟩:DPair)) x4 0) (
        optK (a3_ (a7_ (⟨y8.From,y8.A,y8.B⟩:DPair)) x3 0) (
          bif (decide ((0:Int)≥(([]:List ByteArray).length:Int))) then
            some false
          else
            optK (a3_ (a7_ (⟨y8.From,y8.A,y8.B⟩:DPair)) x3 0) (
              optK (a3_ (a7_ (⟨y8.From,y8.A,y8.B⟩:DPair)) x4 0) (
                none
              ) (fun p12=>
                none
              )
            ) (fun p11=>
              optK (a3_ (a7_ (⟨y8.From,y8.A,y8.B⟩:DPair)) x4 0) (
                (idx p11.2 0).bind fun _=>
                (p11.2[(Int.toNat 0)]?).bind fun y14=>
                bif (!(y14.toList==y8.Text.toList)) then
                  some false
                else
                  a0_ k x0 x1 x2 (x3.modify p11.1 fun e=>(e.1,p11.2)) x4 y8.From y8.A y8.B
              ) (fun p13=>
                (idx p11.2 p13.2).bind fun _=>
                (p11.2[(Int.toNat p13.2)]?).bind fun y15=>
                bif (!(y15.toList==y8.Text.toList)) then
                  some false
                else
                  a0_ k x0 x1 x2 (x3.modify p11.1 fun e=>(e.1,p11.2)) x4 y8.From y8.A y8.B
              )
            )
        ) (fun p10=>
          bif (decide ((0:Int)≥(p10.2.length:Int))) then
            some false
          else
            optK (a3_ (a7_ (⟨y8.From,y8.A,y8.B⟩:DPair)) (x3.modify p10.1 fun e=>(e.1,p10.2)) 0) (
              optK (a3_ (a7_ (⟨y8.From,y8.A,y8.B⟩:DPair)) x4 0) (
                none
              ) (fun p17=>
                none
              )
            ) (fun p16=>
              optK (a3_ (a7_ (⟨y8.From,y8.A,y8.B⟩:DPair)) x4 0) (
                (idx p16.2 0).bind fun _=>
                (p16.2[(Int.toNat 0)]?).bind fun y19=>
                bif (!(y19.toList==y8.Text.toList)) then
                  some false
                else
                  a0_ k x0 x1 x2 ((x3.modify p10.1 fun e=>(e.1,p10.2)).modify p16.1 fun e=>(e.1,p16.2)) x4 y8.From y8.A y8.B
              ) (fun p18=>
                (idx p16.2 p18.2).bind fun _=>
                (p16.2[(Int.toNat p18.2)]?).bind fun y20=>
                bif (!(y20.toList==y8.Text.toList)) then
                  some false
                else
                  a0_ k x0 x1 x2 ((x3.modify p10.1 fun e=>(e.1,p10.2)).modify p16.1 fun e=>(e.1,p16.2)) x4 y8.From y8.A y8.B
              )
            )
        )
      ) (fun p9=>
        optK (a3_ (a7_ (⟨y8.From,y8.A,y8.B⟩:DPair)) x3 0) (
          bif (decide (p9.2≥(([]:List ByteArray).length:Int))) then
            some false
          else
            optK (a3_ (a7_ (⟨y8.From,y8.A,y8.B⟩:DPair)) x3 0) (
              optK (a3_ (a7_ (⟨y8.From,y8.A,y8.B⟩:DPair)) x4 0) (
                none
              ) (fun p23=>
                none
              )
            ) (fun p22=>
              optK (a3_ (a7_ (⟨y8.From,y8.A,y8.B⟩:DPair)) x4 0) (
                (idx p22.2 0).bind fun _=>
                (p22.2[(Int.toNat 0)]?).bind fun y25=>
                bif (!(y25.toList==y8.Text.toList)) then
                  some false
                else
                  a0_ k x0 x1 x2 (x3.modify p22.1 fun e=>(e.1,p22.2)) x4 y8.From y8.A y8.B
              ) (fun p24=>
                (idx p22.2 p24.2).bind fun _=>
                (p22.2[(Int.toNat p24.2)]?).bind fun y26=>
                bif (!(y26.toList==y8.Text.toList)) then
                  some false
                else
                  a0_ k x0 x1 x2 (x3.modify p22.1 fun e=>(e.1,p22.2)) x4 y8.From y8.A y8.B
              )
            )
        ) (fun p21=>
          bif (decide (p9.2≥(p21.2.length:Int))) then
            some false
          else
            optK (a3_ (a7_ (⟨y8.From,y8.A,y8.B⟩:DPair)) (x3.modify p21.1 fun e=>(e.1,p21.2)) 0) (
              optK (a3_ (a7_ (⟨y8.From,y8.A,y8.B⟩:DPair)) x4 0) (
                none
              ) (fun p28=>
                none
              )
            ) (fun p27=>
              optK (a3_ (a7_ (⟨y8.From,y8.A,y8.B⟩:DPair)) x4 0) (
                (idx p27.2 0).bind fun _=>
                (p27.2[(Int.toNat 0)]?).bind fun y30=>
                bif (!(y30.toList==y8.Text.toList)) then
                  some false
                else
                  a0_ k x0 x1 x2 ((x3.modify p21.1 fun e=>(e.1,p21.2)).modify p27.1 fun e=>(e.1,p27.2)) x4 y8.From y8.A y8.B
              ) (fun p29=>
                (idx p27.2 p29.2).bind fun _=>
                (p27.2[(Int.toNat p29.2)]?).bind fun y31=>
                bif (!(y31.toList==y8.Text.toList)) then
                  some false
                else
                  a0_ k x0 x1 x2 ((x3.modify p21.1 fun e=>(e.1,p21.2)).modify p27.1 fun e=>(e.1,p27.2)) x4 y8.From y8.A y8.B
              )
            )
        )
      )
    else
      some true
noncomputable def a0_:Nat→List aa_→Int→Int→List (DPair×List ByteArray)→List (DPair×Int)→Int→Int→Int→Option (Bool)
  | 0,_,_,_,_,_,_,_,_=>none
  | k+1,x0,x1,x2,x3,x4,x5,x6,x7=>
    both (
      optK (a3_ (a7_ (⟨x5,x6,x7⟩:DPair)) x4 0) (
        optK (a3_ (a7_ (⟨x5,x6,x7⟩:DPair)) x4 0) (
          (idx (x4++[((⟨x5,x6,x7⟩:DPair),0)]) (x4.length:Int)).bind fun e34=>
          aO_ k x0 x1 (IntKind.wrap .i64 (x2+1)) x3 ((x4++[((⟨x5,x6,x7⟩:DPair),0)]).set (Int.toNat (x4.length:Int)) (e34.1,(IntKind.wrap .i64 (0+1))))
        ) (fun p33=>
          (idx x4 (p33.1:Int)).bind fun e35=>
          aO_ k x0 x1 (IntKind.wrap .i64 (x2+1)) x3 (x4.set (Int.toNat (p33.1:Int)) (e35.1,(IntKind.wrap .i64 (0+1))))
        )
      ) (fun p32=>
        optK (a3_ (a7_ (⟨x5,x6,x7⟩:DPair)) x4 0) (
          (idx (x4++[((⟨x5,x6,x7⟩:DPair),0)]) (x4.length:Int)).bind fun e37=>
          aO_ k x0 x1 (IntKind.wrap .i64 (x2+1)) x3 ((x4++[((⟨x5,x6,x7⟩:DPair),0)]).set (Int.toNat (x4.length:Int)) (e37.1,(IntKind.wrap .i64 (p32.2+1))))
        ) (fun p36=>
          (idx x4 (p36.1:Int)).bind fun e38=>
          aO_ k x0 x1 (IntKind.wrap .i64 (x2+1)) x3 (x4.set (Int.toNat (p36.1:Int)) (e38.1,(IntKind.wrap .i64 (p32.2+1))))
        )
      )
    ) (
      optK (a3_ (a7_ (⟨x5,x6,x7⟩:DPair)) x4 0) (
        optK (a3_ (a7_ (⟨x5,x6,x7⟩:DPair)) (x4++[((⟨x5,x6,x7⟩:DPair),0)]) 0) (
          (idx (x4++[((⟨x5,x6,x7⟩:DPair),0)]) (x4.length:Int)).bind fun e41=>
          aO_ k x0 x1 (IntKind.wrap .i64 (x2+1)) x3 ((x4++[((⟨x5,x6,x7⟩:DPair),0)]).set (Int.toNat (x4.length:Int)) (e41.1,(IntKind.wrap .i64 (0+1))))
        ) (fun p40=>
          (idx (x4++[((⟨x5,x6,x7⟩:DPair),0)]) (x4.length:Int)).bind fun e42=>
          aO_ k x0 x1 (IntKind.wrap .i64 (x2+1)) x3 ((x4++[((⟨x5,x6,x7⟩:DPair),0)]).set (Int.toNat (x4.length:Int)) (e42.1,(IntKind.wrap .i64 (p40.2+1))))
        )
      ) (fun p39=>
        optK (a3_ (a7_ (⟨x5,x6,x7⟩:DPair)) x4 0) (
          (idx x4 (p39.1:Int)).bind fun e44=>
          aO_ k x0 x1 (IntKind.wrap .i64 (x2+1)) x3 (x4.set (Int.toNat (p39.1:Int)) (e44.1,(IntKind.wrap .i64 (0+1))))
        ) (fun p43=>
          (idx x4 (p39.1:Int)).bind fun e45=>
          aO_ k x0 x1 (IntKind.wrap .i64 (x2+1)) x3 (x4.set (Int.toNat (p39.1:Int)) (e45.1,(IntKind.wrap .i64 (p43.2+1))))
        )
      )
    )
end
noncomputable def ie_ (k:Nat) (a0:ac_):Option (Bool):=
  (cx_ k a0).bind fun r1=>
  bif (!r1) then
    some false
  else
    cX_ k a0.Given (a0.Given.length:Int) 0 a0.Key a0.Width a0.Ends a0.Flight a0.Forged a0.Given a0.Taken ([]:List (DPair×List ByteArray))
mutual
noncomputable def do_:Nat→Int→Int→ByteArray→Int→ByteArray→ByteArray→Int→ByteArray→List (DKey×Int)→List an_→List ad_→List aa_→List aa_→List an_→List ad_→List aa_→List aa_→Option (ac_)
  | 0,_,_,_,_,_,_,_,_,_,_,_,_,_,_,_,_,_=>none
  | k+1,x0,x1,x2,x3,x4,x5,x6,x7,x8,x9,x10,x11,x12,x13,x14,x15,x16=>
    bif (decide (x0>0)) then
      (ee_ k (⟨x5,x6,x13,x14,x7,x15,x16⟩:ac_)).bind fun r3=>
      dr_ k x0 x1 (r3.Flight.length:Int) 0 x2 x3 x4 r3.Key r3.Width r3.Forged x8 r3.Flight x9 x10 x11 x12 r3.Ends ([]:List ad_) r3.Given r3.Taken
    else
      some (⟨x5,x6,x13,x14,x7,x15,x16⟩:ac_)
noncomputable def dr_:Nat→Int→Int→Int→Int→ByteArray→Int→ByteArray→ByteArray→Int→ByteArray→List (DKey×Int)→List ad_→List an_→List ad_→List aa_→List aa_→List an_→List ad_→List aa_→List aa_→Option (ac_)
  | 0,_,_,_,_,_,_,_,_,_,_,_,_,_,_,_,_,_,_,_,_=>none
  | k+1,x0,x1,x2,x3,x4,x5,x6,x7,x8,x9,x10,x11,x12,x13,x14,x15,x16,x17,x18,x19=>
    bif (decide (x3<x2)) then
      (idx x11 x3).bind fun _=>
      (x11[(Int.toNat x3)]?).bind fun y4=>
      both (
        optK (a3_ (eT_ (⟨y4.To,y4.Bytes⟩:DKey)) x10 0) (
          optK (a3_ (eT_ (⟨y4.To,y4.Bytes⟩:DKey)) x10 0) (
            (idx (x10++[((⟨y4.To,y4.Bytes⟩:DKey),0)]) (x10.length:Int)).bind fun e7=>
            br_ k x0 x1 x2 x3 x4 x5 x6 x7 x8 x9 ((x10++[((⟨y4.To,y4.Bytes⟩:DKey),0)]).set (Int.toNat (x10.length:Int)) (e7.1,(IntKind.wrap .i64 (0+1)))) y4.To y4.Sent y4.Bytes y4.To y4.Bytes x11 x12 x13 x14 x15 x16 x17 x18 x19
          ) (fun p6=>
            (idx x10 (p6.1:Int)).bind fun e8=>
            br_ k x0 x1 x2 x3 x4 x5 x6 x7 x8 x9 (x10.set (Int.toNat (p6.1:Int)) (e8.1,(IntKind.wrap .i64 (0+1)))) y4.To y4.Sent y4.Bytes y4.To y4.Bytes x11 x12 x13 x14 x15 x16 x17 x18 x19
          )
        ) (fun p5=>
          optK (a3_ (eT_ (⟨y4.To,y4.Bytes⟩:DKey)) x10 0) (
            (idx (x10++[((⟨y4.To,y4.Bytes⟩:DKey),0)]) (x10.length:Int)).bind fun e10=>
            br_ k x0 x1 x2 x3 x4 x5 x6 x7 x8 x9 ((x10++[((⟨y4.To,y4.Bytes⟩:DKey),0)]).set (Int.toNat (x10.length:Int)) (e10.1,(IntKind.wrap .i64 (p5.2+1)))) y4.To y4.Sent y4.Bytes y4.To y4.Bytes x11 x12 x13 x14 x15 x16 x17 x18 x19
          ) (fun p9=>
            (idx x10 (p9.1:Int)).bind fun e11=>
            br_ k x0 x1 x2 x3 x4 x5 x6 x7 x8 x9 (x10.set (Int.toNat (p9.1:Int)) (e11.1,(IntKind.wrap .i64 (p5.2+1)))) y4.To y4.Sent y4.Bytes y4.To y4.Bytes x11 x12 x13 x14 x15 x16 x17 x18 x19
          )
        )
      ) (
        optK (a3_ (eT_ (⟨y4.To,y4.Bytes⟩:DKey)) x10 0) (
          optK (a3_ (eT_ (⟨y4.To,y4.Bytes⟩:DKey)) (x10++[((⟨y4.To,y4.Bytes⟩:DKey),0)]) 0) (
            (idx (x10++[((⟨y4.To,y4.Bytes⟩:DKey),0)]) (x10.length:Int)).bind fun e14=>
            br_ k x0 x1 x2 x3 x4 x5 x6 x7 x8 x9 ((x10++[((⟨y4.To,y4.Bytes⟩:DKey),0)]).set (Int.toNat (x10.length:Int)) (e14.1,(IntKind.wrap .i64 (0+1)))) y4.To y4.Sent y4.Bytes y4.To y4.Bytes x11 x12 x13 x14 x15 x16 x17 x18 x19
          ) (fun p13=>
            (idx (x10++[((⟨y4.To,y4.Bytes⟩:DKey),0)]) (x10.length:Int)).bind fun e15=>
            br_ k x0 x1 x2 x3 x4 x5 x6 x7 x8 x9 ((x10++[((⟨y4.To,y4.Bytes⟩:DKey),0)]).set (Int.toNat (x10.length:Int)) (e15.1,(IntKind.wrap .i64 (p13.2+1)))) y4.To y4.Sent y4.Bytes y4.To y4.Bytes x11 x12 x13 x14 x15 x16 x17 x18 x19
          )
        ) (fun p12=>
          optK (a3_ (eT_ (⟨y4.To,y4.Bytes⟩:DKey)) x10 0) (
            (idx x10 (p12.1:Int)).bind fun e17=>
            br_ k x0 x1 x2 x3 x4 x5 x6 x7 x8 x9 (x10.set (Int.toNat (p12.1:Int)) (e17.1,(IntKind.wrap .i64 (0+1)))) y4.To y4.Sent y4.Bytes y4.To y4.Bytes x11 x12 x13 x14 x15 x16 x17 x18 x19
          ) (fun p16=>
            (idx x10 (p12.1:Int)).bind fun e18=>
            br_ k x0 x1 x2 x3 x4 x5 x6 x7 x8 x9 (x10.set (Int.toNat (p12.1:Int)) (e18.1,(IntKind.wrap .i64 (p16.2+1)))) y4.To y4.Sent y4.Bytes y4.To y4.Bytes x11 x12 x13 x14 x15 x16 x17 x18 x19
          )
        )
      )
    else
      ck_ k x0 x1 1 x4 x5 x6 x7 x8 x9 x10 x12 x13 x14 x15 x16 x17 x18 x19
noncomputable def br_:Nat→Int→Int→Int→Int→ByteArray→Int→ByteArray→ByteArray→Int→ByteArray→List (DKey×Int)→Int→ByteArray→ByteArray→Int→ByteArray→List ad_→List an_→List ad_→List aa_→List aa_→List an_→List ad_→List aa_→List aa_→Option (ac_)
  | 0,_,_,_,_,_,_,_,_,_,_,_,_,_,_,_,_,_,_,_,_,_,_,_,_,_=>none
  | k+1,x0,x1,x2,x3,x4,x5,x6,x7,x8,x9,x10,x11,x12,x13,x14,x15,x16,x17,x18,x19,x20,x21,x22,x23,x24=>
    optK (a3_ (eT_ (⟨x14,x15⟩:DKey)) x10 0) (
      (rX_ 0 x1).bind fun q20=>
      bif (q20==0) then
        (cJ_ k (⟨x7,x8,x21,x22,x9,x23,x24⟩:ac_) (⟨x11,x12,x13⟩:ad_)).bind fun r21=>
        ds_ k x0 x1 x2 x3 x4 x5 x6 r21.Key r21.Width r21.Forged x10 x16 x17 x18 x19 x20 r21.Ends r21.Flight r21.Given r21.Taken
      else
        ds_ k x0 x1 x2 x3 x4 x5 x6 x7 x8 x9 x10 x16 x17 x18 x19 x20 x21 x22 x23 x24
    ) (fun p19=>
      (rX_ p19.2 x1).bind fun q22=>
      bif (q22==0) then
        (cJ_ k (⟨x7,x8,x21,x22,x9,x23,x24⟩:ac_) (⟨x11,x12,x13⟩:ad_)).bind fun r23=>
        ds_ k x0 x1 x2 x3 x4 x5 x6 r23.Key r23.Width r23.Forged x10 x16 x17 x18 x19 x20 r23.Ends r23.Flight r23.Given r23.Taken
      else
        ds_ k x0 x1 x2 x3 x4 x5 x6 x7 x8 x9 x10 x16 x17 x18 x19 x20 x21 x22 x23 x24
    )
noncomputable def ck_:Nat→Int→Int→Int→ByteArray→Int→ByteArray→ByteArray→Int→ByteArray→List (DKey×Int)→List an_→List ad_→List aa_→List aa_→List an_→List ad_→List aa_→List aa_→Option (ac_)
  | 0,_,_,_,_,_,_,_,_,_,_,_,_,_,_,_,_,_,_=>none
  | k+1,x0,x1,x2,x3,x4,x5,x6,x7,x8,x9,x10,x11,x12,x13,x14,x15,x16,x17=>
    bif (decide (x2≤2)) then
      ev_ k x0 x1 x2 0 x3 x4 x5 x6 x7 x8 x9 x10 x11 x12 x13 x14 x15 x16 x17
    else
      do_ k (IntKind.wrap .i64 (x0-1)) x1 x3 x4 x5 x6 x7 x8 x9 x10 x11 x12 x13 x14 x15 x16 x17
noncomputable def ds_:Nat→Int→Int→Int→Int→ByteArray→Int→ByteArray→ByteArray→Int→ByteArray→List (DKey×Int)→List ad_→List an_→List ad_→List aa_→List aa_→List an_→List ad_→List aa_→List aa_→Option (ac_)
  | 0,_,_,_,_,_,_,_,_,_,_,_,_,_,_,_,_,_,_,_,_=>none
  | k+1,x0,x1,x2,x3,x4,x5,x6,x7,x8,x9,x10,x11,x12,x13,x14,x15,x16,x17,x18,x19=>
    dr_ k x0 x1 x2 (IntKind.wrap .i64 (x3+1)) x4 x5 x6 x7 x8 x9 x10 x11 x12 x13 x14 x15 x16 x17 x18 x19
noncomputable def ev_:Nat→Int→Int→Int→Int→ByteArray→Int→ByteArray→ByteArray→Int→ByteArray→List (DKey×Int)→List an_→List ad_→List aa_→List aa_→List an_→List ad_→List aa_→List aa_→Option (ac_)
  | 0,_,_,_,_,_,_,_,_,_,_,_,_,_,_,_,_,_,_,_=>none
  | k+1,x0,x1,x2,x3,x4,x5,x6,x7,x8,x9,x10,x11,x12,x13,x14,x15,x16,x17,x18=>
    bif (decide (x3<4)) then
      (idx x15 (IntKind.wrap .i64 (x2-1))).bind fun _=>
      (x15[(Int.toNat (IntKind.wrap .i64 (x2-1)))]?).bind fun y24=>
      bif (decide ((y24.Take.Ready.length:Int)>0)) then
        (ea_ k (⟨x7,x8,x15,x16,x9,x17,x18⟩:ac_) x2).bind fun r25=>
        ev_ k x0 x1 x2 (IntKind.wrap .i64 (x3+1)) x4 x5 x6 r25.Key r25.Width r25.Forged x10 x11 x12 x13 x14 r25.Ends r25.Flight r25.Given r25.Taken
      else
        ck_ k x0 x1 (IntKind.wrap .i64 (x2+1)) x4 x5 x6 x7 x8 x9 x10 x11 x12 x13 x14 x15 x16 x17 x18
    else
      ck_ k x0 x1 (IntKind.wrap .i64 (x2+1)) x4 x5 x6 x7 x8 x9 x10 x11 x12 x13 x14 x15 x16 x17 x18
end
noncomputable def lF_ (k:Nat) (a0:ac_) (a1:Int) (a2:Int):Option (ac_):=
  (cx_ k a0).bind fun r1=>
  bif (!r1) then
    some (⟨(⟨#[]⟩:ByteArray),0,([]:List an_),([]:List ad_),(⟨#[]⟩:ByteArray),([]:List aa_),([]:List aa_)⟩:ac_)
  else
    bif (decide (a2<1)) then
      some (⟨(⟨#[]⟩:ByteArray),0,([]:List an_),([]:List ad_),(⟨#[]⟩:ByteArray),([]:List aa_),([]:List aa_)⟩:ac_)
    else
      bif (decide (a2>10)) then
        some (⟨(⟨#[]⟩:ByteArray),0,([]:List an_),([]:List ad_),(⟨#[]⟩:ByteArray),([]:List aa_),([]:List aa_)⟩:ac_)
      else
        (eN_ k a0).bind fun r2=>
        bif (decide (a1>5000)) then
          do_ k 5000 a2 (⟨#[]⟩:ByteArray) 0 (⟨#[]⟩:ByteArray) r2.Key r2.Width r2.Forged ([]:List (DKey×Int)) ([]:List an_) ([]:List ad_) ([]:List aa_) ([]:List aa_) r2.Ends r2.Flight r2.Given r2.Taken
        else
          do_ k a1 a2 (⟨#[]⟩:ByteArray) 0 (⟨#[]⟩:ByteArray) r2.Key r2.Width r2.Forged ([]:List (DKey×Int)) ([]:List an_) ([]:List ad_) ([]:List aa_) ([]:List aa_) r2.Ends r2.Flight r2.Given r2.Taken
noncomputable def fd_:Nat→List an_→Int→Int→ByteArray→Int→List an_→List ad_→ByteArray→List aa_→List aa_→Option (Bool)
  | 0,_,_,_,_,_,_,_,_,_,_=>none
  | k+1,x0,x1,x2,x3,x4,x5,x6,x7,x8,x9=>
    bif (decide (x2<x1)) then
      (idx x0 x2).bind fun y2=>
      bif (!y2.Up) then
        some false
      else
        (idx x5 (IntKind.wrap .i64 (1-x2))).bind fun y3=>
        bif (y2.Peer !=y3.Life) then
          some false
        else
          bif (decide ((y2.Send.Items.length:Int)>0)) then
            some false
          else
            bif (decide ((y2.Take.Held.length:Int)>0)) then
              some false
            else
              bif (!(y2.Take.Open.toList==(⟨#[]⟩:ByteArray).toList)) then
                some false
              else
                bif (decide ((y2.Take.Ready.length:Int)>0)) then
                  some false
                else
                  fd_ k x0 x1 (IntKind.wrap .i64 (x2+1)) x3 x4 x5 x6 x7 x8 x9
    else
      some true
noncomputable def l0_ (k:Nat) (a0:ac_):Option (Bool):=
  (cx_ k a0).bind fun r1=>
  bif (!r1) then
    some false
  else
    fd_ k a0.Ends (a0.Ends.length:Int) 0 a0.Key a0.Width a0.Ends a0.Flight a0.Forged a0.Given a0.Taken
mutual
noncomputable def du_:Nat→Int→ByteArray→Int→List an_→List ad_→ByteArray→List aa_→List aa_→Option (Bool)
  | 0,_,_,_,_,_,_,_,_=>none
  | k+1,x0,x1,x2,x3,x4,x5,x6,x7=>
    bif (decide (x0<(x7.length:Int))) then
      (idx x7 x0).bind fun y2=>
      eq_ k x0 0 0 x1 x2 x3 x4 x5 x6 x7 y2.From y2.A y2.B y2.Text
    else
      some true
noncomputable def eq_:Nat→Int→Int→Int→ByteArray→Int→List an_→List ad_→ByteArray→List aa_→List aa_→Int→Int→Int→ByteArray→Option (Bool)
  | 0,_,_,_,_,_,_,_,_,_,_,_,_,_,_=>none
  | k+1,x0,x1,x2,x3,x4,x5,x6,x7,x8,x9,x10,x11,x12,x13=>
    bif (decide (x2<x0)) then
      (idx x9 x2).bind fun y3=>
      bif (y3.From==x10) then
        (idx x9 x2).bind fun y4=>
        bif (y4.A==x11) then
          (idx x9 x2).bind fun y5=>
          bif (y5.B==x12) then
            cp_ k x0 (IntKind.wrap .i64 (x1+1)) x2 x3 x4 x5 x6 x7 x8 x9 x10 x11 x12 x13
          else
            cp_ k x0 x1 x2 x3 x4 x5 x6 x7 x8 x9 x10 x11 x12 x13
        else
          cp_ k x0 x1 x2 x3 x4 x5 x6 x7 x8 x9 x10 x11 x12 x13
      else
        cp_ k x0 x1 x2 x3 x4 x5 x6 x7 x8 x9 x10 x11 x12 x13
    else
      c4_ k x0 x1 false 0 x3 x4 x5 x6 x7 x8 x9 x10 x11 x12 x13
noncomputable def cp_:Nat→Int→Int→Int→ByteArray→Int→List an_→List ad_→ByteArray→List aa_→List aa_→Int→Int→Int→ByteArray→Option (Bool)
  | 0,_,_,_,_,_,_,_,_,_,_,_,_,_,_=>none
  | k+1,x0,x1,x2,x3,x4,x5,x6,x7,x8,x9,x10,x11,x12,x13=>
    eq_ k x0 x1 (IntKind.wrap .i64 (x2+1)) x3 x4 x5 x6 x7 x8 x9 x10 x11 x12 x13
noncomputable def c4_:Nat→Int→Int→Bool→Int→ByteArray→Int→List an_→List ad_→ByteArray→List aa_→List aa_→Int→Int→Int→ByteArray→Option (Bool)
  | 0,_,_,_,_,_,_,_,_,_,_,_,_,_,_,_=>none
  | k+1,x0,x1,x2,x3,x4,x5,x6,x7,x8,x9,x10,x11,x12,x13,x14=>
    bif (decide (x3<(x9.length:Int))) then
      (idx x9 x3).bind fun y6=>
      bif (y6.From==x11) then
        bif (y6.A==x12) then
          bif (y6.B==x13) then
            bif x2 then
              bC_ k x0 (IntKind.wrap .i64 (x1-1)) true x3 x4 x5 x6 x7 x8 x9 x10 x11 x12 x13 x14
            else
              bif (x1==0) then
                bC_ k x0 (IntKind.wrap .i64 (x1-1)) (y6.Text.toList==x14.toList) x3 x4 x5 x6 x7 x8 x9 x10 x11 x12 x13 x14
              else
                bC_ k x0 (IntKind.wrap .i64 (x1-1)) false x3 x4 x5 x6 x7 x8 x9 x10 x11 x12 x13 x14
          else
            bC_ k x0 x1 x2 x3 x4 x5 x6 x7 x8 x9 x10 x11 x12 x13 x14
        else
          bC_ k x0 x1 x2 x3 x4 x5 x6 x7 x8 x9 x10 x11 x12 x13 x14
      else
        bC_ k x0 x1 x2 x3 x4 x5 x6 x7 x8 x9 x10 x11 x12 x13 x14
    else
      bif (!x2) then
        some false
      else
        du_ k (IntKind.wrap .i64 (x0+1)) x4 x5 x6 x7 x8 x9 x10
noncomputable def bC_:Nat→Int→Int→Bool→Int→ByteArray→Int→List an_→List ad_→ByteArray→List aa_→List aa_→Int→Int→Int→ByteArray→Option (Bool)
  | 0,_,_,_,_,_,_,_,_,_,_,_,_,_,_,_=>none
  | k+1,x0,x1,x2,x3,x4,x5,x6,x7,x8,x9,x10,x11,x12,x13,x14=>
    c4_ k x0 x1 x2 (IntKind.wrap .i64 (x3+1)) x4 x5 x6 x7 x8 x9 x10 x11 x12 x13 x14
end
noncomputable def j1_ (k:Nat) (a0:ac_):Option (Bool):=
  (bD_ k a0).bind fun r1=>
  bif (!r1) then
    some false
  else
    du_ k 0 a0.Key a0.Width a0.Ends a0.Flight a0.Forged a0.Given a0.Taken
mutual
noncomputable def eC_:Nat→List aa_→Int→Int→Int→Int→List ByteArray→Option (List ByteArray)
  | 0,_,_,_,_,_,_=>none
  | k+1,x0,x1,x2,x3,x4,x5=>
    bif (decide (x4<(x0.length:Int))) then
      (idx x0 x4).bind fun y1=>
      bif (y1.From==x1) then
        (idx x0 x4).bind fun y2=>
        bif (y2.A==x2) then
          (idx x0 x4).bind fun y3=>
          bif (y3.B==x3) then
            (idx x0 x4).bind fun y4=>
            (app 16 x5 ([y4.Text]:List ByteArray)).bind fun l5=>
            dA_ k x0 x1 x2 x3 x4 l5
          else
            dA_ k x0 x1 x2 x3 x4 x5
        else
          dA_ k x0 x1 x2 x3 x4 x5
      else
        dA_ k x0 x1 x2 x3 x4 x5
    else
      some x5
noncomputable def dA_:Nat→List aa_→Int→Int→Int→Int→List ByteArray→Option (List ByteArray)
  | 0,_,_,_,_,_,_=>none
  | k+1,x0,x1,x2,x3,x4,x5=>
    eC_ k x0 x1 x2 x3 (IntKind.wrap .i64 (x4+1)) x5
end
noncomputable def h1_ (k:Nat) (a0:List aa_) (a1:Int) (a2:Int) (a3:Int):Option (List ByteArray):=
  eC_ k a0 a1 a2 a3 0 ([]:List ByteArray)
mutual
noncomputable def fr_:Nat→Int→Int→ByteArray→Int→List an_→List ad_→ByteArray→List aa_→List aa_→Option (Bool)
  | 0,_,_,_,_,_,_,_,_,_=>none
  | k+1,x0,x1,x2,x3,x4,x5,x6,x7,x8=>
    (lF_ k (⟨x2,x3,x4,x5,x6,x7,x8⟩:ac_) x1 x0).bind fun r4=>
    bif (!(r4.Forged.toList==(⟨#[]⟩:ByteArray).toList)) then
      (bD_ k r4).bind fun r5=>
      some r5
    else
      (l0_ k r4).bind fun r6=>
      bif (!r6) then
        some false
      else
        (ie_ k r4).bind fun r7=>
        bif (!r7) then
          some false
        else
          (j1_ k r4).bind fun r8=>
          bif (!r8) then
            some false
          else
            cn_ k 1 r4.Key r4.Width r4.Forged r4.Ends r4.Flight r4.Given r4.Taken
noncomputable def cn_:Nat→Int→ByteArray→Int→ByteArray→List an_→List ad_→List aa_→List aa_→Option (Bool)
  | 0,_,_,_,_,_,_,_,_=>none
  | k+1,x0,x1,x2,x3,x4,x5,x6,x7=>
    bif (decide (x0≤2)) then
      (idx x4 (IntKind.wrap .i64 (x0-1))).bind fun _=>
      (x4[(Int.toNat (IntKind.wrap .i64 (x0-1)))]?).bind fun y9=>
      (idx x4 (IntKind.wrap .i64 (2-x0))).bind fun _=>
      (x4[(Int.toNat (IntKind.wrap .i64 (2-x0)))]?).bind fun y10=>
      (h1_ k x7 x0 y9.Life y10.Life).bind fun r11=>
      (h1_ k x6 x0 y9.Life y10.Life).bind fun r12=>
      (g8_ k r11 r12).bind fun r13=>
      bif (!r13) then
        some false
      else
        cn_ k (IntKind.wrap .i64 (x0+1)) x1 x2 x3 x4 x5 x6 x7
    else
      some true
end
noncomputable def jY_ (k:Nat) (a0:ac_) (a1:Int):Option (Bool):=
  bif ((a0.Ends.length:Int) !=2) then
    some false
  else
    (idx a0.Ends 0).bind fun y1=>
    (idx a0.Ends 1).bind fun y2=>
    bif (decide ((IntKind.wrap .i64 ((a0.Given.length:Int)+(a0.Taken.length:Int)))>260)) then
      (bD_ k a0).bind fun r3=>
      some r3
    else
      bif (decide ((IntKind.wrap .i64 (40+(IntKind.wrap .i64 ((IntKind.wrap .i64 (12*a1))*(IntKind.wrap .i64 (6+(IntKind.wrap .i64 ((y1.Send.Items.length:Int)+(y2.Send.Items.length:Int)))))))))>5000)) then
        fr_ k a1 5000 a0.Key a0.Width a0.Ends a0.Flight a0.Forged a0.Given a0.Taken
      else
        fr_ k a1 (IntKind.wrap .i64 (40+(IntKind.wrap .i64 ((IntKind.wrap .i64 (12*a1))*(IntKind.wrap .i64 (6+(IntKind.wrap .i64 ((y1.Send.Items.length:Int)+(y2.Send.Items.length:Int))))))))) a0.Key a0.Width a0.Ends a0.Flight a0.Forged a0.Given a0.Taken
end Km.X
namespace Km.X
open Go Km
set_option linter.unusedVariables false
set_option maxRecDepth 100000
end Km.X
namespace Km.X
open Go Km
set_option linter.unusedVariables false
set_option maxRecDepth 100000
end Km.X
namespace Km.X
open Go Km
set_option linter.unusedVariables false
set_option maxRecDepth 100000
end Km.X
namespace Km.X
open Go Km
set_option linter.unusedVariables false
set_option maxRecDepth 100000
noncomputable def eO_:Nat→List Int→Option (ax_)
  | 0,_=>none
  | k+1,x0=>
    some (⟨x0,0⟩:ax_)
noncomputable def g9_ (k:Nat) (a0:List Int):Option (ax_):=
  bif (decide ((a0.length:Int)>2000)) then
    (wnd a0.length 0 2000).bind fun p1=>
    eO_ k (dY_ a0 p1.1 p1.2)
  else
    eO_ k a0
noncomputable def ah_ (k:Nat) (a0:ax_) (a1:Int):Option (Int×ax_):=
  bif (decide (a1<1)) then
    some (0,(⟨a0.b,(IntKind.wrap .i64 (a0.p+1))⟩:ax_))
  else
    bif ((a0.b.length:Int)==0) then
      some (0,(⟨a0.b,(IntKind.wrap .i64 (a0.p+1))⟩:ax_))
    else
      bif (decide ((IntKind.wrap .i64 ((IntKind.wrap .i64 (a0.p+1))-1))<(a0.b.length:Int))) then
        (idx a0.b (IntKind.wrap .i64 ((IntKind.wrap .i64 (a0.p+1))-1))).bind fun y1=>
        (rX_ (IntKind.wrap .i64 y1) a1).bind fun q2=>
        some (q2,(⟨a0.b,(IntKind.wrap .i64 (a0.p+1))⟩:ax_))
      else
        (rX_ (IntKind.wrap .i64 ((IntKind.wrap .i64 (a0.p+1))-1)) (a0.b.length:Int)).bind fun q3=>
        (idx a0.b q3).bind fun y4=>
        (rX_ (IntKind.wrap .i64 ((IntKind.wrap .i64 ((IntKind.wrap .i64 ((IntKind.wrap .i64 (a0.p+1))-1))*7))+3)) (a0.b.length:Int)).bind fun q5=>
        (idx a0.b q5).bind fun y6=>
        (x9_ (IntKind.wrap .i64 ((IntKind.wrap .i64 (a0.p+1))-1)) (a0.b.length:Int)).bind fun q7=>
        (x9_ (IntKind.wrap .i64 ((IntKind.wrap .i64 ((IntKind.wrap .i64 ((IntKind.wrap .i64 ((IntKind.wrap .i64 y4)*131))+(IntKind.wrap .i64 ((IntKind.wrap .i64 y6)*1117))))+(IntKind.wrap .i64 ((IntKind.wrap .i64 ((IntKind.wrap .i64 (a0.p+1))-1))*29))))+(IntKind.wrap .i64 ((IntKind.wrap .i64 (q7))*53)))) 64).bind fun q8=>
        (rX_ (iZ_ .i64 (IntKind.wrap .i64 ((IntKind.wrap .i64 ((IntKind.wrap .i64 ((IntKind.wrap .i64 ((IntKind.wrap .i64 y4)*131))+(IntKind.wrap .i64 ((IntKind.wrap .i64 y6)*1117))))+(IntKind.wrap .i64 ((IntKind.wrap .i64 ((IntKind.wrap .i64 (a0.p+1))-1))*29))))+(IntKind.wrap .i64 ((IntKind.wrap .i64 (q7))*53)))) (IntKind.wrap .i64 (q8))) a1).bind fun q9=>
        some (q9,(⟨a0.b,(IntKind.wrap .i64 (a0.p+1))⟩:ax_))
mutual
noncomputable def c6_:Nat→ByteArray→Int→ByteArray→Option (ByteArray)
  | 0,_,_,_=>none
  | k+1,x0,x1,x2=>
    bif (decide (x1>0)) then
      (rX_ x1 2).bind fun q1=>
      bif (q1==1) then
        (jO_ x2 x0).bind fun t2=>
        eM_ k x0 x1 t2
      else
        eM_ k x0 x1 x2
    else
      some x2
noncomputable def eM_:Nat→ByteArray→Int→ByteArray→Option (ByteArray)
  | 0,_,_,_=>none
  | k+1,x0,x1,x2=>
    (jO_ x0 x0).bind fun t3=>
    (x9_ x1 2).bind fun q4=>
    c6_ k t3 (IntKind.wrap .i64 (q4)) x2
end
noncomputable def dv_ (k:Nat) (a0:ByteArray) (a1:Int):Option (ByteArray):=
  c6_ k a0 a1 (⟨#[]⟩:ByteArray)
noncomputable def b9_:Nat→ByteArray→Int→List Int→Int→Option (ByteArray×ax_)
  | 0,_,_,_,_=>none
  | k+1,x0,x1,x2,x3=>
    bif (decide (x1>0)) then
      (ah_ k (⟨x2,x3⟩:ax_) 5).bind fun r10=>
      (wnd (⟨#[97,98,99,100,32]⟩:ByteArray).size r10.1 ((⟨#[97,98,99,100,32]⟩:ByteArray).size:Int)).bind fun p11=>
      (wnd ((⟨#[97,98,99,100,32]⟩:ByteArray).extract p11.1 p11.2).size 0 1).bind fun p12=>
      (jO_ x0 (((⟨#[97,98,99,100,32]⟩:ByteArray).extract p11.1 p11.2).extract p12.1 p12.2)).bind fun t13=>
      b9_ k t13 (IntKind.wrap .i64 (x1-1)) r10.2.b r10.2.p
    else
      some (x0,(⟨x2,x3⟩:ax_))
noncomputable def co_ (k:Nat) (a0:ax_):Option (ByteArray×ax_):=
  (ah_ k a0 8).bind fun r1=>
  bif (r1.1==0) then
    some ((⟨#[]⟩:ByteArray),r1.2)
  else
    bif (r1.1==1) then
      (ah_ k r1.2 5).bind fun r2=>
      (ah_ k r2.2 3).bind fun r3=>
      (ah_ k r3.2 2).bind fun r4=>
      (ah_ k r4.2 2).bind fun r5=>
      (dv_ k (⟨#[109]⟩:ByteArray) (IntKind.wrap .i64 ((IntKind.wrap .i64 ((IntKind.wrap .i64 (20*r2.1))+r3.1))-(IntKind.wrap .i64 (r4.1*r5.1))))).bind fun r6=>
      some (r6,r5.2)
    else
      bif (r1.1==2) then
        (ah_ k r1.2 19).bind fun r7=>
        (dv_ k (⟨#[48,49,50,51,52,53,54,55,56,57]⟩:ByteArray) (IntKind.wrap .i64 (1+r7.1))).bind fun r8=>
        some (r8,r7.2)
      else
        bif (r1.1==3) then
          some ((⟨#[0,255]⟩:ByteArray),r1.2)
        else
          (ah_ k r1.2 30).bind fun r9=>
          b9_ k (⟨#[]⟩:ByteArray) (IntKind.wrap .i64 (1+r9.1)) r9.2.b r9.2.p
noncomputable def jQ_ (k:Nat) (a0:ax_):Option (ByteArray×ax_):=
  (dv_ k (⟨#[107]⟩:ByteArray) 30).bind fun r1=>
  (ah_ k a0 4).bind fun r2=>
  (idx ([(⟨#[107,101,121]⟩:ByteArray),(⟨#[107]⟩:ByteArray),(⟨#[]⟩:ByteArray),r1]:List ByteArray) r2.1).bind fun _=>
  (([(⟨#[107,101,121]⟩:ByteArray),(⟨#[107]⟩:ByteArray),(⟨#[]⟩:ByteArray),r1]:List ByteArray)[(Int.toNat r2.1)]?).bind fun y3=>
  some (y3,r2.2)
noncomputable def hI_ (k:Nat) (a0:ax_):Option (Int×ax_):=
  (ah_ k a0 5).bind fun r1=>
  (idx ([8,8,4,2,1]:List Int) r1.1).bind fun y2=>
  some (y2,r1.2)
noncomputable def cM_:Nat→ByteArray→ByteArray→Int→Option (ByteArray×ByteArray×Int)
  | 0,_,_,_=>none
  | k+1,x0,x1,x2=>
    some (x0,x1,x2)
noncomputable def hy_ (k:Nat) (a0:List Int):Option (ByteArray×ByteArray×Int):=
  (g9_ k a0).bind fun r1=>
  (co_ k r1).bind fun r2=>
  (jQ_ k r2.2).bind fun r3=>
  (hI_ k r3.2).bind fun r4=>
  (ah_ k r4.2 10).bind fun r5=>
  bif (r5.1==0) then
    (ah_ k r5.2 3).bind fun r6=>
    (idx ([0,9,(-1)]:List Int) r6.1).bind fun y7=>
    cM_ k r2.1 r3.1 y7
  else
    bif (r5.1==1) then
      (dv_ k (⟨#[107]⟩:ByteArray) 31).bind fun r8=>
      cM_ k r2.1 r8 r4.1
    else
      cM_ k r2.1 r3.1 r4.1
noncomputable def es_ (k:Nat) (a0:List Int):Option (ByteArray×Int):=
  (hy_ k a0).bind fun r1=>
  some (r1.2.1,r1.2.2)
mutual
noncomputable def d9_:Nat→Int→Int→List Int→Int→Int→Int→Int→Int→ByteArray→Option (as_×ax_)
  | 0,_,_,_,_,_,_,_,_,_=>none
  | k+1,x0,x1,x2,x3,x4,x5,x6,x7,x8=>
    (ah_ k (⟨x2,x3⟩:ax_) 2).bind fun r5=>
    bif (decide (x0<9)) then
      some ((⟨1,0,0,0,(⟨#[]⟩:ByteArray)⟩:as_),r5.2)
    else
      bif (decide (x0<19)) then
        some ((⟨2,x1,0,0,(⟨#[]⟩:ByteArray)⟩:as_),r5.2)
      else
        bif (decide (x0<26)) then
          (co_ k r5.2).bind fun r6=>
          some ((⟨10,(IntKind.wrap .i64 (1+r5.1)),0,0,r6.1⟩:as_),r6.2)
        else
          bif (decide (x0<30)) then
            some ((⟨11,(IntKind.wrap .i64 (1+r5.1)),0,0,(⟨#[]⟩:ByteArray)⟩:as_),r5.2)
          else
            bif (x0==30) then
              dN_ k x1 r5.2.b r5.2.p x4 x5 x6 x7 x8
            else
              bif (x0==31) then
                dN_ k x1 r5.2.b r5.2.p x4 x5 x6 x7 x8
              else
                gi_ k x1 (IntKind.wrap .i64 (1+r5.1)) x0 r5.2.b r5.2.p x4 x5 x6 x7 x8
noncomputable def dN_:Nat→Int→List Int→Int→Int→Int→Int→Int→ByteArray→Option (as_×ax_)
  | 0,_,_,_,_,_,_,_,_=>none
  | k+1,x0,x1,x2,x3,x4,x5,x6,x7=>
    some ((⟨3,x0,0,0,(⟨#[]⟩:ByteArray)⟩:as_),(⟨x1,x2⟩:ax_))
noncomputable def gi_:Nat→Int→Int→Int→List Int→Int→Int→Int→Int→Int→ByteArray→Option (as_×ax_)
  | 0,_,_,_,_,_,_,_,_,_,_=>none
  | k+1,x0,x1,x2,x3,x4,x5,x6,x7,x8,x9=>
    bif (x2==32) then
      dH_ k x0 x3 x4 x5 x6 x7 x8 x9
    else
      bif (x2==33) then
        dH_ k x0 x3 x4 x5 x6 x7 x8 x9
      else
        eZ_ k x0 x1 x2 x3 x4 x5 x6 x7 x8 x9
noncomputable def dH_:Nat→Int→List Int→Int→Int→Int→Int→Int→ByteArray→Option (as_×ax_)
  | 0,_,_,_,_,_,_,_,_=>none
  | k+1,x0,x1,x2,x3,x4,x5,x6,x7=>
    some ((⟨4,x0,0,0,(⟨#[]⟩:ByteArray)⟩:as_),(⟨x1,x2⟩:ax_))
noncomputable def eZ_:Nat→Int→Int→Int→List Int→Int→Int→Int→Int→Int→ByteArray→Option (as_×ax_)
  | 0,_,_,_,_,_,_,_,_,_,_=>none
  | k+1,x0,x1,x2,x3,x4,x5,x6,x7,x8,x9=>
    bif (x2==34) then
      (ah_ k (⟨x3,x4⟩:ax_) 40).bind fun r7=>
      (ah_ k r7.2 300).bind fun r8=>
      some ((⟨5,x0,r7.1,r8.1,(⟨#[]⟩:ByteArray)⟩:as_),r8.2)
    else
      bif (x2==35) then
        (ah_ k (⟨x3,x4⟩:ax_) 40).bind fun r9=>
        some ((⟨6,x0,r9.1,0,(⟨#[]⟩:ByteArray)⟩:as_),r9.2)
      else
        bif (x2==36) then
          some ((⟨7,x0,0,0,(⟨#[]⟩:ByteArray)⟩:as_),(⟨x3,x4⟩:ax_))
        else
          bif (x2==37) then
            some ((⟨8,x1,0,0,(⟨#[]⟩:ByteArray)⟩:as_),(⟨x3,x4⟩:ax_))
          else
            some ((⟨9,x1,0,0,(⟨#[]⟩:ByteArray)⟩:as_),(⟨x3,x4⟩:ax_))
end
noncomputable def hn_ (k:Nat) (a0:ax_):Option (as_×ax_):=
  (ah_ k a0 40).bind fun r1=>
  (ah_ k r1.2 24).bind fun r2=>
  (ah_ k r2.2 2).bind fun r3=>
  bif (r3.1==0) then
    (ah_ k r3.2 3).bind fun r4=>
    d9_ k r1.1 r4.1 r4.2.b r4.2.p 0 0 0 0 (⟨#[]⟩:ByteArray)
  else
    d9_ k r1.1 r2.1 r3.2.b r3.2.p 0 0 0 0 (⟨#[]⟩:ByteArray)
mutual
noncomputable def b4_:Nat→Int→Int→List Int→Int→List as_→Option (List as_)
  | 0,_,_,_,_,_=>none
  | k+1,x0,x1,x2,x3,x4=>
    bif (decide (x1<x0)) then
      (hn_ k (⟨x2,x3⟩:ax_)).bind fun r3=>
      (app 48 x4 ([r3.1]:List as_)).bind fun l4=>
      (ah_ k r3.2 5).bind fun r5=>
      bif (r5.1==0) then
        (ah_ k r5.2 6).bind fun r6=>
        bs_ k x0 x1 r6.1 r6.2.b r6.2.p l4
      else
        cw_ k x0 x1 r5.2.b r5.2.p l4
    else
      some x4
noncomputable def bs_:Nat→Int→Int→Int→List Int→Int→List as_→Option (List as_)
  | 0,_,_,_,_,_,_=>none
  | k+1,x0,x1,x2,x3,x4,x5=>
    bif (decide (x2>0)) then
      (app 48 x5 ([(⟨1,0,0,0,(⟨#[]⟩:ByteArray)⟩:as_)]:List as_)).bind fun l7=>
      (ah_ k (⟨x3,x4⟩:ax_) 5).bind fun r8=>
      bI_ k x0 x1 x2 r8.1 r8.2.b r8.2.p l7
    else
      cw_ k x0 x1 x3 x4 x5
noncomputable def cw_:Nat→Int→Int→List Int→Int→List as_→Option (List as_)
  | 0,_,_,_,_,_=>none
  | k+1,x0,x1,x2,x3,x4=>
    (ah_ k (⟨x2,x3⟩:ax_) 12).bind fun r9=>
    bif (r9.1==0) then
      (app 48 x4 ([(⟨9,1,0,0,(⟨#[]⟩:ByteArray)⟩:as_),(⟨9,2,0,0,(⟨#[]⟩:ByteArray)⟩:as_)]:List as_)).bind fun l10=>
      bE_ k x0 x1 r9.2.b r9.2.p l10
    else
      bE_ k x0 x1 r9.2.b r9.2.p x4
noncomputable def bI_:Nat→Int→Int→Int→Int→List Int→Int→List as_→Option (List as_)
  | 0,_,_,_,_,_,_,_=>none
  | k+1,x0,x1,x2,x3,x4,x5,x6=>
    bif (decide (x3>0)) then
      (app 48 x6 ([(⟨2,0,0,0,(⟨#[]⟩:ByteArray)⟩:as_)]:List as_)).bind fun l11=>
      bI_ k x0 x1 x2 (IntKind.wrap .i64 (x3-1)) x4 x5 l11
    else
      bs_ k x0 x1 (IntKind.wrap .i64 (x2-1)) x4 x5 x6
noncomputable def bE_:Nat→Int→Int→List Int→Int→List as_→Option (List as_)
  | 0,_,_,_,_,_=>none
  | k+1,x0,x1,x2,x3,x4=>
    b4_ k x0 (IntKind.wrap .i64 (x1+1)) x2 x3 x4
end
noncomputable def fp_ (k:Nat) (a0:List Int):Option (List as_):=
  (g9_ k a0).bind fun r1=>
  (ah_ k r1 50).bind fun r2=>
  b4_ k (IntKind.wrap .i64 (10+r2.1)) 0 r2.2.b r2.2.p ([]:List as_)
mutual
noncomputable def f1_:Nat→Int→List Int→Int→Int→Int→List ag_→List ag_→Option (aj_×ax_)
  | 0,_,_,_,_,_,_,_=>none
  | k+1,x0,x1,x2,x3,x4,x5,x6=>
    bif (decide (x0>0)) then
      both (
        (co_ k (⟨x1,x2⟩:ax_)).bind fun r4=>
        (dB_ k (⟨x4,x6⟩:aj_) r4.1).bind fun r5=>
        bif (r5.2==0) then
          cm_ k x0 r4.2.b r4.2.p x3 r5.1.Base x5 r5.1.Items
        else
          cm_ k x0 r4.2.b r4.2.p x3 x4 x5 x6
      ) (
        both (
          (co_ k (⟨x1,x2⟩:ax_)).bind fun r6=>
          (dB_ k (⟨x4,x6⟩:aj_) r6.1).bind fun r7=>
          bif (r7.2==0) then
            cm_ k x0 r6.2.b r6.2.p x3 r7.1.Base x5 r7.1.Items
          else
            cm_ k x0 r6.2.b r6.2.p x3 x4 x5 x6
        ) (
          (co_ k (⟨x1,x2⟩:ax_)).bind fun r8=>
          (dB_ k (⟨x4,x6⟩:aj_) r8.1).bind fun r9=>
          bif (r9.2==0) then
            cm_ k x0 r8.2.b r8.2.p x3 r9.1.Base x5 r9.1.Items
          else
            cm_ k x0 r8.2.b r8.2.p x3 x4 x5 x6
        )
      )
    else
      (ah_ k (⟨x1,x2⟩:ax_) 12).bind fun r10=>
      bif (r10.1==0) then
        (ah_ k r10.2 3).bind fun r11=>
        ec_ k (IntKind.wrap .i64 (60-r11.1)) r11.2.b r11.2.p x3 x4 x5 x6
      else
        eh_ k r10.2.b r10.2.p x3 x4 x5 x6
noncomputable def cm_:Nat→Int→List Int→Int→Int→Int→List ag_→List ag_→Option (aj_×ax_)
  | 0,_,_,_,_,_,_,_=>none
  | k+1,x0,x1,x2,x3,x4,x5,x6=>
    (ah_ k (⟨x1,x2⟩:ax_) 6).bind fun r12=>
    eS_ k x0 r12.1 r12.2.b r12.2.p x3 x4 x5 x6
noncomputable def ec_:Nat→Int→List Int→Int→Int→Int→List ag_→List ag_→Option (aj_×ax_)
  | 0,_,_,_,_,_,_,_=>none
  | k+1,x0,x1,x2,x3,x4,x5,x6=>
    bif (decide ((x6.length:Int)<x0)) then
      bif (decide ((IntKind.wrap .i64 (x4+(x6.length:Int)))<1000000)) then
        (app 40 x6 ([(⟨(⟨(⟨#[102]⟩:ByteArray),true⟩:aA_),false,(-1)⟩:ag_)]:List ag_)).bind fun l13=>
        ec_ k x0 x1 x2 x3 x4 x5 l13
      else
        eh_ k x1 x2 x3 x4 x5 x6
    else
      eh_ k x1 x2 x3 x4 x5 x6
noncomputable def eh_:Nat→List Int→Int→Int→Int→List ag_→List ag_→Option (aj_×ax_)
  | 0,_,_,_,_,_,_=>none
  | k+1,x0,x1,x2,x3,x4,x5=>
    (ep_ k (⟨x3,x5⟩:aj_)).bind fun r14=>
    some (r14,(⟨x0,x1⟩:ax_))
noncomputable def eS_:Nat→Int→Int→List Int→Int→Int→Int→List ag_→List ag_→Option (aj_×ax_)
  | 0,_,_,_,_,_,_,_,_=>none
  | k+1,x0,x1,x2,x3,x4,x5,x6,x7=>
    bif (decide (x1>0)) then
      (fB_ k (⟨x5,x7⟩:aj_)).bind fun r15=>
      eS_ k x0 (IntKind.wrap .i64 (x1-1)) x2 x3 x4 r15.1.Base x6 r15.1.Items
    else
      (ah_ k (⟨x2,x3⟩:ax_) 3).bind fun r16=>
      bif (r16.1==0) then
        (ah_ k r16.2 4).bind fun r17=>
        (ah_ k r17.2 256).bind fun r18=>
        (fF_ k (⟨x5,x7⟩:aj_) (IntKind.wrap .i64 (x5+r17.1)) r18.1).bind fun r19=>
        f2_ k x0 r18.2.b r18.2.p x4 r19.Base x6 r19.Items
      else
        f2_ k x0 r16.2.b r16.2.p x4 x5 x6 x7
noncomputable def f2_:Nat→Int→List Int→Int→Int→Int→List ag_→List ag_→Option (aj_×ax_)
  | 0,_,_,_,_,_,_,_=>none
  | k+1,x0,x1,x2,x3,x4,x5,x6=>
    f1_ k (IntKind.wrap .i64 (x0-1)) x1 x2 x3 x4 x5 x6
end
mutual
noncomputable def jz_:Nat→List Int→Int→Int→Int→List ag_→List ag_→Option (aj_×ax_)
  | 0,_,_,_,_,_,_=>none
  | k+1,x0,x1,x2,x3,x4,x5=>
    (ah_ k (⟨x0,x1⟩:ax_) (x5.length:Int)).bind fun r2=>
    (ah_ k r2.2 6).bind fun r3=>
    bif (r3.1==0) then
      (ah_ k r3.2 3).bind fun r4=>
      (idx ([(-1),1000000,1000001]:List Int) r4.1).bind fun y5=>
      bo_ k r4.2.b r4.2.p x2 y5 x4 x5
    else
      bif (r3.1==1) then
        (ah_ k r3.2 5).bind fun r6=>
        (idx ([(-2),(-1),0,3,4]:List Int) r6.1).bind fun y7=>
        (idx x5 r2.1).bind fun _=>
        (x5[(Int.toNat r2.1)]?).bind fun y8=>
        bo_ k r6.2.b r6.2.p x2 x3 x4 (x5.set (Int.toNat r2.1) (⟨y8.Part,y8.Has,y7⟩:ag_))
      else
        bif (r3.1==2) then
          (idx x5 r2.1).bind fun _=>
          (x5[(Int.toNat r2.1)]?).bind fun y9=>
          (idx x5 r2.1).bind fun _=>
          (x5[(Int.toNat r2.1)]?).bind fun y10=>
          bo_ k r3.2.b r3.2.p x2 x3 x4 (x5.set (Int.toNat r2.1) (⟨y10.Part,(!y9.Has),y10.Since⟩:ag_))
        else
          bif (r3.1==3) then
            (ah_ k r3.2 2).bind fun r11=>
            (dv_ k (⟨#[115]⟩:ByteArray) (IntKind.wrap .i64 (20+r11.1))).bind fun r12=>
            (idx x5 r2.1).bind fun _=>
            (x5[(Int.toNat r2.1)]?).bind fun y13=>
            bo_ k r11.2.b r11.2.p x2 x3 x4 (x5.set (Int.toNat r2.1) (⟨(⟨r12,y13.Part.Last⟩:aA_),y13.Has,y13.Since⟩:ag_))
          else
            bif (r3.1==4) then
              (ah_ k r3.2 2).bind fun r14=>
              dD_ k (IntKind.wrap .i64 (60+r14.1)) r14.2.b r14.2.p x2 x3 x4 x5
            else
              d7_ k r3.2.b r3.2.p x2 x3 x4 x5
noncomputable def bo_:Nat→List Int→Int→Int→Int→List ag_→List ag_→Option (aj_×ax_)
  | 0,_,_,_,_,_,_=>none
  | k+1,x0,x1,x2,x3,x4,x5=>
    some ((⟨x3,x5⟩:aj_),(⟨x0,x1⟩:ax_))
noncomputable def dD_:Nat→Int→List Int→Int→Int→Int→List ag_→List ag_→Option (aj_×ax_)
  | 0,_,_,_,_,_,_,_=>none
  | k+1,x0,x1,x2,x3,x4,x5,x6=>
    bif (decide ((x6.length:Int)<x0)) then
      (app 40 x6 ([(⟨(⟨(⟨#[]⟩:ByteArray),false⟩:aA_),false,(-1)⟩:ag_)]:List ag_)).bind fun l15=>
      dD_ k x0 x1 x2 x3 x4 x5 l15
    else
      bo_ k x1 x2 x3 x4 x5 x6
noncomputable def d7_:Nat→List Int→Int→Int→Int→List ag_→List ag_→Option (aj_×ax_)
  | 0,_,_,_,_,_,_=>none
  | k+1,x0,x1,x2,x3,x4,x5=>
    bif (decide ((x5.length:Int)≤8)) then
      (app 40 x5 ([(⟨(⟨(⟨#[]⟩:ByteArray),false⟩:aA_),false,(-1)⟩:ag_)]:List ag_)).bind fun l16=>
      d7_ k x0 x1 x2 x3 x4 l16
    else
      (ah_ k (⟨x0,x1⟩:ax_) 2).bind fun r17=>
      (idx x5 8).bind fun _=>
      (x5[(Int.toNat 8)]?).bind fun y18=>
      bo_ k r17.2.b r17.2.p x2 x3 x4 (x5.set (Int.toNat 8) (⟨y18.Part,y18.Has,(IntKind.wrap .i64 (r17.1-1))⟩:ag_))
end
mutual
noncomputable def f5_:Nat→Int→List Int→Int→Int→ByteArray→Int→ByteArray→List ak_→List ByteArray→List ak_→List ByteArray→Option (ai_×ax_)
  | 0,_,_,_,_,_,_,_,_,_,_,_=>none
  | k+1,x0,x1,x2,x3,x4,x5,x6,x7,x8,x9,x10=>
    bif (decide (x0>0)) then
      (ah_ k (⟨x1,x2⟩:ax_) 8).bind fun r4=>
      bif (r4.1==0) then
        (fq_ k (⟨x5,x9,x6,x10⟩:ai_)).bind fun r5=>
        f4_ k x0 r4.2.b r4.2.p x3 x4 r5.1.Next r5.1.Open x7 x8 r5.1.Held r5.1.Ready
      else
        (ah_ k r4.2 3).bind fun r6=>
        bif (r6.1==0) then
          (ah_ k r6.2 9).bind fun r7=>
          f0_ k x0 (IntKind.wrap .i64 (x5+r7.1)) r7.2.b r7.2.p x3 x4 x5 x6 x7 x8 x9 x10
        else
          f0_ k x0 x5 r6.2.b r6.2.p x3 x4 x5 x6 x7 x8 x9 x10
    else
      (e6_ k (⟨x5,x9,x6,x10⟩:ai_)).bind fun r8=>
      some (r8,(⟨x1,x2⟩:ax_))
noncomputable def f4_:Nat→Int→List Int→Int→Int→ByteArray→Int→ByteArray→List ak_→List ByteArray→List ak_→List ByteArray→Option (ai_×ax_)
  | 0,_,_,_,_,_,_,_,_,_,_,_=>none
  | k+1,x0,x1,x2,x3,x4,x5,x6,x7,x8,x9,x10=>
    f5_ k (IntKind.wrap .i64 (x0-1)) x1 x2 x3 x4 x5 x6 x7 x8 x9 x10
noncomputable def f0_:Nat→Int→Int→List Int→Int→Int→ByteArray→Int→ByteArray→List ak_→List ByteArray→List ak_→List ByteArray→Option (ai_×ax_)
  | 0,_,_,_,_,_,_,_,_,_,_,_,_=>none
  | k+1,x0,x1,x2,x3,x4,x5,x6,x7,x8,x9,x10,x11=>
    (ah_ k (⟨x2,x3⟩:ax_) 3).bind fun r9=>
    (idx ([1,5,20]:List Int) r9.1).bind fun y10=>
    (dv_ k (⟨#[116]⟩:ByteArray) y10).bind fun r11=>
    (ah_ k r9.2 3).bind fun r12=>
    (fm_ k (⟨x6,x10,x7,x11⟩:ai_) x1 (⟨r11,(r12.1==0)⟩:aA_)).bind fun r13=>
    f4_ k x0 r12.2.b r12.2.p x4 x5 r13.Next r13.Open x8 x9 r13.Held r13.Ready
end
mutual
noncomputable def gm_:Nat→List Int→Int→Int→ByteArray→Int→ByteArray→List ak_→List ByteArray→List ak_→List ByteArray→Option (ai_×ax_)
  | 0,_,_,_,_,_,_,_,_,_,_=>none
  | k+1,x0,x1,x2,x3,x4,x5,x6,x7,x8,x9=>
    some ((⟨x4,x8,x5,x9⟩:ai_),(⟨x0,x1⟩:ax_))
noncomputable def eW_:Nat→Int→List Int→Int→Int→ByteArray→Int→ByteArray→List ak_→List ByteArray→List ak_→List ByteArray→Option (ai_×ax_)
  | 0,_,_,_,_,_,_,_,_,_,_,_=>none
  | k+1,x0,x1,x2,x3,x4,x5,x6,x7,x8,x9,x10=>
    bif (decide ((x10.length:Int)<x0)) then
      (app 16 x10 ([(⟨#[]⟩:ByteArray)]:List ByteArray)).bind fun l20=>
      eW_ k x0 x1 x2 x3 x4 x5 x6 x7 x8 x9 l20
    else
      gm_ k x1 x2 x3 x4 x5 x6 x7 x8 x9 x10
end
noncomputable def lf_:Nat→List Int→Int→Int→Bool→Int→Int→Int→Bool→Int→Int→ByteArray→Int→Bool→Int→Int→Int→Bool→Int→List ag_→Int→List ak_→ByteArray→List ByteArray→List ag_→List ak_→List ByteArray→Option (an_×ax_)
  | 0,_,_,_,_,_,_,_,_,_,_,_,_,_,_,_,_,_,_,_,_,_,_,_,_,_,_=>none
  | k+1,x0,x1,x2,x3,x4,x5,x6,x7,x8,x9,x10,x11,x12,x13,x14,x15,x16,x17,x18,x19,x20,x21,x22,x23,x24,x25=>
    some ((⟨x11,x12,x13,x14,x15,x16,(⟨x17,x18⟩:aj_),(⟨x19,x20,x21,x22⟩:ai_)⟩:an_),(⟨x0,x1⟩:ax_))
end Km.X
namespace Km.X
open Go Km
set_option linter.unusedVariables false
set_option maxRecDepth 100000
end Km.X
namespace Km.X
open Go Km
set_option linter.unusedVariables false
set_option maxRecDepth 100000
end Km.X
namespace Km.X
open Go Km
set_option linter.unusedVariables false
set_option maxRecDepth 100000
end Km.X
namespace Km.X
open Go Km
set_option linter.unusedVariables false
set_option maxRecDepth 100000
noncomputable def bO_:Nat→List Int→Bool→Int→ByteArray→Int→ByteArray→ByteArray→Int→ByteArray→List as_→List an_→List ad_→List aa_→List aa_→List an_→List ad_→List aa_→List aa_→Option (Bool)
  | 0,_,_,_,_,_,_,_,_,_,_,_,_,_,_,_,_,_,_=>none
  | k+1,x0,x1,x2,x3,x4,x5,x6,x7,x8,x9,x10,x11,x12,x13,x14,x15,x16,x17=>
    bif (decide (x2<(x9.length:Int))) then
      bif x1 then
        (idx x9 x2).bind fun _=>
        (x9[(Int.toNat x2)]?).bind fun y5=>
        (kQ_ k (⟨x3,x4,x10,x11,x5,x12,x13⟩:ac_) y5).bind fun r6=>
        (idx x9 x2).bind fun _=>
        (x9[(Int.toNat x2)]?).bind fun y7=>
        (qt_ k (⟨x6,x7,x14,x15,x8,x16,x17⟩:ac_) y7).bind fun r8=>
        (gO_ k r6 r8).bind fun r9=>
        bif (!r9) then
          some false
        else
          (bD_ k r6).bind fun r10=>
          bif (!r10) then
            some false
          else
            bif (!((!(r6.Forged.toList==(⟨#[]⟩:ByteArray).toList))==true)) then
              some false
            else
              bO_ k x0 true (IntKind.wrap .i64 (x2+1)) r6.Key r6.Width r6.Forged r8.Key r8.Width r8.Forged x9 r6.Ends r6.Flight r6.Given r6.Taken r8.Ends r8.Flight r8.Given r8.Taken
      else
        (idx x9 x2).bind fun _=>
        (x9[(Int.toNat x2)]?).bind fun y11=>
        (gw_ k (⟨x6,x7,x14,x15,x8,x16,x17⟩:ac_) y11).bind fun r12=>
        (idx x9 x2).bind fun _=>
        (x9[(Int.toNat x2)]?).bind fun y13=>
        (kQ_ k (⟨x3,x4,x10,x11,x5,x12,x13⟩:ac_) y13).bind fun r14=>
        (idx x9 x2).bind fun _=>
        (x9[(Int.toNat x2)]?).bind fun y15=>
        (qt_ k (⟨x6,x7,x14,x15,x8,x16,x17⟩:ac_) y15).bind fun r16=>
        (gO_ k r14 r16).bind fun r17=>
        bif (!r17) then
          some false
        else
          (bD_ k r14).bind fun r18=>
          bif (!r18) then
            some false
          else
            bif (!((!(r14.Forged.toList==(⟨#[]⟩:ByteArray).toList))==r12)) then
              some false
            else
              bif (!r12) then
                (ie_ k r14).bind fun r19=>
                bif (!r19) then
                  some false
                else
                  bO_ k x0 r12 (IntKind.wrap .i64 (x2+1)) r14.Key r14.Width r14.Forged r16.Key r16.Width r16.Forged x9 r14.Ends r14.Flight r14.Given r14.Taken r16.Ends r16.Flight r16.Given r16.Taken
              else
                bO_ k x0 r12 (IntKind.wrap .i64 (x2+1)) r14.Key r14.Width r14.Forged r16.Key r16.Width r16.Forged x9 r14.Ends r14.Flight r14.Given r14.Taken r16.Ends r16.Flight r16.Given r16.Taken
    else
      (kQ_ k (⟨x3,x4,x10,x11,x5,x12,x13⟩:ac_) (⟨9,1,0,0,(⟨#[]⟩:ByteArray)⟩:as_)).bind fun r20=>
      (kQ_ k r20 (⟨9,2,0,0,(⟨#[]⟩:ByteArray)⟩:as_)).bind fun r21=>
      bif x1 then
        some true
      else
        (rX_ (x0.length:Int) 3).bind fun q22=>
        (jY_ k r21 (IntKind.wrap .i64 (1+q22))).bind fun r23=>
        some r23
noncomputable def mK_ (k:Nat) (a0:List Int) (a1:List Int):Option (Bool):=
  bif (decide ((a0.length:Int)>1048576)) then
    some true
  else
    bif (decide ((a1.length:Int)>1048576)) then
      some true
    else
      (es_ k a0).bind fun r1=>
      (gB_ k r1.1 r1.2).bind fun r2=>
      (gD_ k r1.1 r1.2).bind fun r3=>
      bif ((r3.Ends.length:Int)==0) then
        some ((r2.Ends.length:Int)==0)
      else
        (fp_ k a1).bind fun r4=>
        bO_ k a0 false 0 r2.Key r2.Width r2.Forged r3.Key r3.Width r3.Forged r4 r2.Ends r2.Flight r2.Given r2.Taken r3.Ends r3.Flight r3.Given r3.Taken
end Km.X
