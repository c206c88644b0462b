/- A part of the proof of FnExactCalm: the functions that it reads off the program. There is no condition. -/
import Derived.Test.YtgffmpjadffjkaaGreatKxDef1
import Derived.Test.YtgffmpjadffjkaaGreatKmAm4
namespace Km.X
open Go Km
set_option linter.unusedVariables false
set_option maxRecDepth 100000
mutual
noncomputable def bS_:Nat→List ao_→Int→Int→ByteArray→Int→List ao_→List ac_→ByteArray→List ab_→List ab_→Option (Bool)
  | 0,_,_,_,_,_,_,_,_,_,_=>none
  | k+1,x0,x1,x2,x3,x4,x5,x6,x7,x8,x9=>
    bif (decide (x2<x1)) then
      (idx x0 x2).bind fun y1=>
      (da_ k y1).bind fun r2=>
      bif (!r2) then
        some false
      else
        bif (y1.Number !=(IntKind.wrap .i64 (x2+1))) then
          some false
        else
          bS_ k x0 x1 (IntKind.wrap .i64 (x2+1)) x3 x4 x5 x6 x7 x8 x9
    else
      aY_ k x6 (x6.length:Int) 0 x3 x4 x5 x6 x7 x8 x9
noncomputable def aY_:Nat→List ac_→Int→Int→ByteArray→Int→List ao_→List ac_→ByteArray→List ab_→List ab_→Option (Bool)
  | 0,_,_,_,_,_,_,_,_,_,_=>none
  | k+1,x0,x1,x2,x3,x4,x5,x6,x7,x8,x9=>
    bif (decide (x2<x1)) then
      (idx x0 x2).bind fun y3=>
      bif (y3.To !=1) then
        bif (y3.To !=2) then
          some false
        else
          bif (decide ((y3.Sent.size:Int)>100)) then
            some false
          else
            bif (decide ((y3.Bytes.size:Int)>100)) then
              some false
            else
              aY_ k x0 x1 (IntKind.wrap .i64 (x2+1)) x3 x4 x5 x6 x7 x8 x9
      else
        bif (decide ((y3.Sent.size:Int)>100)) then
          some false
        else
          bif (decide ((y3.Bytes.size:Int)>100)) then
            some false
          else
            aY_ k x0 x1 (IntKind.wrap .i64 (x2+1)) x3 x4 x5 x6 x7 x8 x9
    else
      a1_ k (([x8,x9]:List (List ab_)).length:Int) 0 ([x8,x9]:List (List ab_))
noncomputable def a1_:Nat→Int→Int→List (List ab_)→Option (Bool)
  | 0,_,_,_=>none
  | k+1,x0,x1,x2=>
    bif (decide (x1<x0)) then
      (idx x2 x1).bind fun _=>
      (x2[(Int.toNat x1)]?).bind fun y4=>
      a2_ k x0 x1 y4 (y4.length:Int) 0 x2
    else
      some true
noncomputable def a2_:Nat→Int→Int→List ab_→Int→Int→List (List ab_)→Option (Bool)
  | 0,_,_,_,_,_,_=>none
  | k+1,x0,x1,x2,x3,x4,x5=>
    bif (decide (x4<x3)) then
      (idx x2 x4).bind fun y5=>
      bif (y5.From !=1) then
        bif (y5.From !=2) then
          some false
        else
          (aQ_ k y5.A 1 1000).bind fun r6=>
          bif (!r6) then
            some false
          else
            (aQ_ k y5.B 1 1000).bind fun r7=>
            bif (!r7) then
              some false
            else
              bif (decide ((y5.Text.size:Int)>200)) then
                some false
              else
                a2_ k x0 x1 x2 x3 (IntKind.wrap .i64 (x4+1)) x5
      else
        (aQ_ k y5.A 1 1000).bind fun r8=>
        bif (!r8) then
          some false
        else
          (aQ_ k y5.B 1 1000).bind fun r9=>
          bif (!r9) then
            some false
          else
            bif (decide ((y5.Text.size:Int)>200)) then
              some false
            else
              a2_ k x0 x1 x2 x3 (IntKind.wrap .i64 (x4+1)) x5
    else
      a1_ k x0 (IntKind.wrap .i64 (x1+1)) x5
end
noncomputable def e3_ (k:Nat) (a0:ae_):Option (Bool):=
  bif (decide (a0.Width<1)) then
    some false
  else
    bif (decide (a0.Width>8)) then
      some false
    else
      bif (decide ((a0.Key.size:Int)>30)) then
        some false
      else
        bif ((a0.Ends.length:Int) !=2) then
          some false
        else
          bif (decide ((a0.Flight.length:Int)>1000)) then
            some false
          else
            bif (decide ((IntKind.wrap .i64 ((a0.Given.length:Int)+(a0.Taken.length:Int)))>400)) then
              some false
            else
              bS_ k a0.Ends (a0.Ends.length:Int) 0 a0.Key a0.Width a0.Ends a0.Flight a0.Forged a0.Given a0.Taken
noncomputable def bI_:Nat→Int→Int→ByteArray→Int→List ac_→ByteArray→List ab_→List ab_→ByteArray→Int→ByteArray→List ao_→List ao_→List ac_→List ab_→List ab_→Option (ae_)
  | 0,_,_,_,_,_,_,_,_,_,_,_,_,_,_,_,_=>none
  | k+1,x0,x1,x2,x3,x4,x5,x6,x7,x8,x9,x10,x11,x12,x13,x14,x15=>
    bif (decide (x1<x0)) then
      (idx x11 x1).bind fun _=>
      (x11[(Int.toNat x1)]?).bind fun y2=>
      (dF_ k y2).bind fun r3=>
      (idx x11 x1).bind fun _=>
      (x11[(Int.toNat x1)]?).bind fun y4=>
      bI_ k x0 (IntKind.wrap .i64 (x1+1)) x2 x3 x4 x5 x6 x7 x8 x9 x10 (x11.set (Int.toNat x1) r3) x12 x13 x14 x15
    else
      (app 40 ([]:List ac_) x4).bind fun l5=>
      (app 40 ([]:List ab_) x6).bind fun l6=>
      (app 40 ([]:List ab_) x7).bind fun l7=>
      some (⟨x2,x3,x11,l5,x5,l6,l7⟩:ae_)
noncomputable def do_ (k:Nat) (a0:ae_):Option (ae_):=
  (app 152 ([]:List ao_) a0.Ends).bind fun l1=>
  bI_ k (l1.length:Int) 0 a0.Key a0.Width a0.Flight a0.Forged a0.Given a0.Taken (⟨#[]⟩:ByteArray) 0 (⟨#[]⟩:ByteArray) l1 ([]:List ao_) ([]:List ac_) ([]:List ab_) ([]:List ab_)
mutual
noncomputable def a8_:Nat→Int→Int→ByteArray→Int→ByteArray→List ao_→List ac_→List ab_→List ab_→Option (ae_)
  | 0,_,_,_,_,_,_,_,_,_=>none
  | k+1,x0,x1,x2,x3,x4,x5,x6,x7,x8=>
    bif (decide (x1<x0)) then
      (idx x5 x1).bind fun _=>
      (x5[(Int.toNat x1)]?).bind fun y1=>
      (gM_ k y1).bind fun r2=>
      (idx x5 x1).bind fun _=>
      (x5[(Int.toNat x1)]?).bind fun y3=>
      bV_ k x1 x0 x1 (r2.Out.length:Int) 0 x2 x3 x4 r2.Out (x5.set (Int.toNat x1) r2.End) x6 x7 x8
    else
      some (⟨x2,x3,x5,x6,x4,x7,x8⟩:ae_)
noncomputable def bV_:Nat→Int→Int→Int→Int→Int→ByteArray→Int→ByteArray→List ad_→List ao_→List ac_→List ab_→List ab_→Option (ae_)
  | 0,_,_,_,_,_,_,_,_,_,_,_,_,_=>none
  | k+1,x0,x1,x2,x3,x4,x5,x6,x7,x8,x9,x10,x11,x12=>
    bif (decide (x4<x3)) then
      (idx x8 x4).bind fun _=>
      (x8[(Int.toNat x4)]?).bind fun y4=>
      bif (decide ((x10.length:Int)<1000)) then
        (c0_ k y4 x5 x6).bind fun r5=>
        (app 40 x10 ([(⟨(IntKind.wrap .i64 (2-x0)),r5,r5⟩:ac_)]:List ac_)).bind fun l6=>
        cr_ k x0 x1 x2 x3 x4 x5 x6 x7 x8 x9 l6 x11 x12
      else
        cr_ k x0 x1 x2 x3 x4 x5 x6 x7 x8 x9 x10 x11 x12
    else
      a8_ k x1 (IntKind.wrap .i64 (x2+1)) x5 x6 x7 x9 x10 x11 x12
noncomputable def cr_:Nat→Int→Int→Int→Int→Int→ByteArray→Int→ByteArray→List ad_→List ao_→List ac_→List ab_→List ab_→Option (ae_)
  | 0,_,_,_,_,_,_,_,_,_,_,_,_,_=>none
  | k+1,x0,x1,x2,x3,x4,x5,x6,x7,x8,x9,x10,x11,x12=>
    bV_ k x0 x1 x2 x3 (IntKind.wrap .i64 (x4+1)) x5 x6 x7 x8 x9 x10 x11 x12
end
noncomputable def eV_ (k:Nat) (a0:ae_):Option (ae_):=
  a8_ k (a0.Ends.length:Int) 0 a0.Key a0.Width a0.Forged a0.Ends a0.Flight a0.Given a0.Taken
noncomputable def bJ_:Nat→ByteArray→Int→ByteArray→Int→ByteArray→ByteArray→Int→Int→Int→Int→Int→Int→Int→Bool→ByteArray→List ao_→List ac_→List ab_→List ab_→Option (ae_)
  | 0,_,_,_,_,_,_,_,_,_,_,_,_,_,_,_,_,_,_,_=>none
  | k+1,x0,x1,x2,x3,x4,x5,x6,x7,x8,x9,x10,x11,x12,x13,x14,x15,x16,x17,x18=>
    (idx x15 (IntKind.wrap .i64 (x3-1))).bind fun _=>
    (x15[(Int.toNat (IntKind.wrap .i64 (x3-1)))]?).bind fun y2=>
    (gQ_ k y2 (⟨x6,x7,x8,x9,x10,x11,x12,x13,x14⟩:ad_)).bind fun r3=>
    (idx x15 (IntKind.wrap .i64 (x3-1))).bind fun _=>
    (x15[(Int.toNat (IntKind.wrap .i64 (x3-1)))]?).bind fun y4=>
    some (⟨x0,x1,(x15.set (Int.toNat (IntKind.wrap .i64 (x3-1))) r3.End),x16,x2,x17,x18⟩:ae_)
noncomputable def dc_ (k:Nat) (a0:ae_) (a1:ac_):Option (ae_):=
  (eM_ k a1.Bytes a0.Key a0.Width).bind fun r1=>
  bif (!r1.2) then
    some a0
  else
    bif (!(a1.Bytes.toList==a1.Sent.toList)) then
      bif (a0.Forged.toList==(⟨#[]⟩:ByteArray).toList) then
        bJ_ k a0.Key a0.Width a1.Bytes a1.To a1.Sent a1.Bytes r1.1.Kind r1.1.From r1.1.Mine r1.1.Yours r1.1.Next r1.1.Mask r1.1.Seq r1.1.Last r1.1.Part a0.Ends a0.Flight a0.Given a0.Taken
      else
        bJ_ k a0.Key a0.Width a0.Forged a1.To a1.Sent a1.Bytes r1.1.Kind r1.1.From r1.1.Mine r1.1.Yours r1.1.Next r1.1.Mask r1.1.Seq r1.1.Last r1.1.Part a0.Ends a0.Flight a0.Given a0.Taken
    else
      bJ_ k a0.Key a0.Width a0.Forged a1.To a1.Sent a1.Bytes r1.1.Kind r1.1.From r1.1.Mine r1.1.Yours r1.1.Next r1.1.Mask r1.1.Seq r1.1.Last r1.1.Part a0.Ends a0.Flight a0.Given a0.Taken
noncomputable def gr_ (k:Nat) (a0:ae_):Option (Bool×ae_):=
  some ((decide ((IntKind.wrap .i64 ((a0.Given.length:Int)+(a0.Taken.length:Int)))≥400)),a0)
noncomputable def eL_ (k:Nat) (a0:ae_) (a1:Int):Option (ae_):=
  (gr_ k a0).bind fun r1=>
  bif r1.1 then
    some r1.2
  else
    (idx r1.2.Ends (IntKind.wrap .i64 (a1-1))).bind fun _=>
    (r1.2.Ends[(Int.toNat (IntKind.wrap .i64 (a1-1)))]?).bind fun y2=>
    (g4_ k y2).bind fun r3=>
    bif (r3.Code==0) then
      (idx r1.2.Ends (IntKind.wrap .i64 (a1-1))).bind fun _=>
      (r1.2.Ends[(Int.toNat (IntKind.wrap .i64 (a1-1)))]?).bind fun y4=>
      (idx r1.2.Ends (IntKind.wrap .i64 (a1-1))).bind fun _=>
      (r1.2.Ends[(Int.toNat (IntKind.wrap .i64 (a1-1)))]?).bind fun y5=>
      (app 40 r1.2.Taken ([(⟨(IntKind.wrap .i64 (3-a1)),y4.Peer,y4.Life,r3.Text⟩:ab_)]:List ab_)).bind fun l6=>
      some (⟨r1.2.Key,r1.2.Width,(r1.2.Ends.set (Int.toNat (IntKind.wrap .i64 (a1-1))) r3.End),r1.2.Flight,r1.2.Forged,r1.2.Given,l6⟩:ae_)
    else
      some r1.2
noncomputable def bF_:Nat→List ab_→Int→Option (Bool)
  | 0,_,_=>none
  | k+1,x0,x1=>
    bif (decide (x1<(x0.length:Int))) then
      (idx x0 x1).bind fun y1=>
      (aC_ k y1.From 1 2).bind fun r2=>
      bif (!r2) then
        some false
      else
        (aC_ k y1.A 1 1000).bind fun r3=>
        bif (!r3) then
          some false
        else
          (aC_ k y1.B 1 1000).bind fun r4=>
          bif (!r4) then
            some false
          else
            bif (decide ((y1.Text.size:Int)>200)) then
              some false
            else
              bF_ k x0 (IntKind.wrap .i64 (x1+1))
    else
      some true
noncomputable def eu_ (k:Nat) (a0:List ab_):Option (Bool):=
  bF_ k a0 0
mutual
noncomputable def bU_:Nat→Int→ByteArray→Int→List ao_→List ac_→ByteArray→List ab_→List ab_→Option (Bool)
  | 0,_,_,_,_,_,_,_,_=>none
  | k+1,x0,x1,x2,x3,x4,x5,x6,x7=>
    bif (decide (x0<2)) then
      (idx x3 x0).bind fun y2=>
      (bO_ k y2).bind fun r3=>
      bif (!r3) then
        some false
      else
        (idx x3 x0).bind fun y4=>
        bif (y4.Number !=(IntKind.wrap .i64 (x0+1))) then
          some false
        else
          bU_ k (IntKind.wrap .i64 (x0+1)) x1 x2 x3 x4 x5 x6 x7
    else
      bW_ k 0 x1 x2 x3 x4 x5 x6 x7
noncomputable def bW_:Nat→Int→ByteArray→Int→List ao_→List ac_→ByteArray→List ab_→List ab_→Option (Bool)
  | 0,_,_,_,_,_,_,_,_=>none
  | k+1,x0,x1,x2,x3,x4,x5,x6,x7=>
    bif (decide (x0<(x4.length:Int))) then
      (idx x4 x0).bind fun y5=>
      (aC_ k y5.To 1 2).bind fun r6=>
      bif (!r6) then
        some false
      else
        bif (decide ((y5.Sent.size:Int)>100)) then
          some false
        else
          bif (decide ((y5.Bytes.size:Int)>100)) then
            some false
          else
            bW_ k (IntKind.wrap .i64 (x0+1)) x1 x2 x3 x4 x5 x6 x7
    else
      (eu_ k x6).bind fun r7=>
      bif r7 then
        (eu_ k x7).bind fun r8=>
        some r8
      else
        some false
end
noncomputable def eO_ (k:Nat) (a0:ae_):Option (Bool):=
  (aC_ k a0.Width 1 8).bind fun r1=>
  bif (!r1) then
    some false
  else
    bif (decide ((a0.Key.size:Int)>30)) then
      some false
    else
      bif ((a0.Ends.length:Int) !=2) then
        some false
      else
        bif (decide ((a0.Flight.length:Int)>1000)) then
          some false
        else
          bif (decide ((IntKind.wrap .i64 ((a0.Given.length:Int)+(a0.Taken.length:Int)))>400)) then
            some false
          else
            bU_ k 0 a0.Key a0.Width a0.Ends a0.Flight a0.Forged a0.Given a0.Taken
noncomputable def dv_:Nat→Int→ByteArray→Int→List ao_→List ac_→ByteArray→List ab_→List ab_→ByteArray→Int→ByteArray→ByteArray→Int→List ac_→ByteArray→List ab_→List ab_→List ao_→List ac_→List ab_→List ab_→List ao_→Option (ae_)
  | 0,_,_,_,_,_,_,_,_,_,_,_,_,_,_,_,_,_,_,_,_,_,_=>none
  | k+1,x0,x1,x2,x3,x4,x5,x6,x7,x8,x9,x10,x11,x12,x13,x14,x15,x16,x17,x18,x19,x20,x21=>
    bif (decide (x0<(x3.length:Int))) then
      (idx x3 x0).bind fun y1=>
      (cJ_ k y1).bind fun r2=>
      (app 152 x21 ([r2]:List ao_)).bind fun l3=>
      dv_ k (IntKind.wrap .i64 (x0+1)) x1 x2 x3 x4 x5 x6 x7 x8 x9 x10 x11 x12 x13 x14 x15 x16 x17 x18 x19 x20 l3
    else
      (app 40 ([]:List ac_) x4).bind fun l4=>
      (app 40 ([]:List ab_) x6).bind fun l5=>
      (app 40 ([]:List ab_) x7).bind fun l6=>
      some (⟨x11,x12,x21,l4,x14,l5,l6⟩:ae_)
noncomputable def ey_ (k:Nat) (a0:ae_):Option (ae_):=
  dv_ k 0 a0.Key a0.Width a0.Ends a0.Flight a0.Forged a0.Given a0.Taken (⟨#[]⟩:ByteArray) 0 (⟨#[]⟩:ByteArray) a0.Key a0.Width a0.Flight a0.Forged a0.Given a0.Taken ([]:List ao_) ([]:List ac_) ([]:List ab_) ([]:List ab_) ([]:List ao_)
mutual
noncomputable def bN_:Nat→Int→ByteArray→Int→ByteArray→ByteArray→Int→ByteArray→List ao_→List ac_→List ab_→List ab_→List ao_→List ac_→List ab_→List ab_→Option (ae_)
  | 0,_,_,_,_,_,_,_,_,_,_,_,_,_,_,_=>none
  | k+1,x0,x1,x2,x3,x4,x5,x6,x7,x8,x9,x10,x11,x12,x13,x14=>
    bif (decide (x0<2)) then
      (idx x7 x0).bind fun _=>
      (x7[(Int.toNat x0)]?).bind fun y1=>
      (gG_ k y1).bind fun r2=>
      (idx x7 x0).bind fun _=>
      (x7[(Int.toNat x0)]?).bind fun y3=>
      du_ k x0 0 x1 x2 x3 x4 x5 x6 r2.Code r2.End.Number r2.End.Up r2.End.Life r2.End.Peer r2.End.Since r2.End.Owes r2.End.Send.Base r2.End.Take.Next r2.End.Take.Open r2.Text (x7.set (Int.toNat x0) r2.End) x8 x9 x10 x11 x12 x13 x14 r2.Out
    else
      some (⟨x1,x2,x7,x8,x3,x9,x10⟩:ae_)
noncomputable def du_:Nat→Int→Int→ByteArray→Int→ByteArray→ByteArray→Int→ByteArray→Int→Int→Bool→Int→Int→Int→Bool→Int→Int→ByteArray→ByteArray→List ao_→List ac_→List ab_→List ab_→List ao_→List ac_→List ab_→List ab_→List ad_→Option (ae_)
  | 0,_,_,_,_,_,_,_,_,_,_,_,_,_,_,_,_,_,_,_,_,_,_,_,_,_,_,_,_=>none
  | k+1,x0,x1,x2,x3,x4,x5,x6,x7,x8,x9,x10,x11,x12,x13,x14,x15,x16,x17,x18,x19,x20,x21,x22,x23,x24,x25,x26,x27=>
    bif (decide (x1<(x27.length:Int))) then
      bif (decide ((x20.length:Int)<1000)) then
        (idx x27 x1).bind fun _=>
        (x27[(Int.toNat x1)]?).bind fun y4=>
        (cS_ k y4 x2 x3).bind fun r5=>
        (app 40 x20 ([(⟨(IntKind.wrap .i64 (2-x0)),r5,r5⟩:ac_)]:List ac_)).bind fun l6=>
        du_ k x0 (IntKind.wrap .i64 (x1+1)) x2 x3 x4 x5 x6 x7 x8 x9 x10 x11 x12 x13 x14 x15 x16 x17 x18 x19 l6 x21 x22 x23 x24 x25 x26 x27
      else
        bN_ k (IntKind.wrap .i64 (x0+1)) x2 x3 x4 x5 x6 x7 x19 x20 x21 x22 x23 x24 x25 x26
    else
      bN_ k (IntKind.wrap .i64 (x0+1)) x2 x3 x4 x5 x6 x7 x19 x20 x21 x22 x23 x24 x25 x26
end
noncomputable def ii_ (k:Nat) (a0:ae_):Option (ae_):=
  bN_ k 0 a0.Key a0.Width a0.Forged (⟨#[]⟩:ByteArray) 0 (⟨#[]⟩:ByteArray) a0.Ends a0.Flight a0.Given a0.Taken ([]:List ao_) ([]:List ac_) ([]:List ab_) ([]:List ab_)
noncomputable def ek_ (k:Nat) (a0:List ac_) (a1:Int):Option (List ac_):=
  (wnd a0.length 0 a1).bind fun p1=>
  (app 40 ([]:List ac_) (dS_ a0 p1.1 p1.2)).bind fun l2=>
  (wnd a0.length (IntKind.wrap .i64 (a1+1)) (a0.length:Int)).bind fun p3=>
  (app 40 l2 (dS_ a0 p3.1 p3.2)).bind fun l4=>
  some l4
noncomputable def cV_:Nat→ByteArray→Int→ByteArray→ByteArray→Int→ByteArray→Int→ByteArray→ByteArray→Int→Int→Int→Int→Int→Int→Int→Bool→ByteArray→List ao_→List ac_→List ab_→List ab_→List ao_→List ac_→List ab_→List ab_→Option (ae_)
  | 0,_,_,_,_,_,_,_,_,_,_,_,_,_,_,_,_,_,_,_,_,_,_,_,_,_,_=>none
  | k+1,x0,x1,x2,x3,x4,x5,x6,x7,x8,x9,x10,x11,x12,x13,x14,x15,x16,x17,x18,x19,x20,x21,x22,x23,x24,x25=>
    (idx x18 (IntKind.wrap .i64 (x6-1))).bind fun _=>
    (x18[(Int.toNat (IntKind.wrap .i64 (x6-1)))]?).bind fun y4=>
    (gU_ k y4 (⟨x9,x10,x11,x12,x13,x14,x15,x16,x17⟩:ad_)).bind fun r5=>
    (idx x18 (IntKind.wrap .i64 (x6-1))).bind fun _=>
    (x18[(Int.toNat (IntKind.wrap .i64 (x6-1)))]?).bind fun y6=>
    some (⟨x0,x1,(x18.set (Int.toNat (IntKind.wrap .i64 (x6-1))) r5.End),x19,x2,x20,x21⟩:ae_)
noncomputable def gS_ (k:Nat) (a0:ae_) (a1:Int):Option (ae_):=
  (idx a0.Flight a1).bind fun _=>
  (a0.Flight[(Int.toNat a1)]?).bind fun y1=>
  (ek_ k a0.Flight a1).bind fun r2=>
  (eN_ k y1.Bytes a0.Key a0.Width).bind fun r3=>
  bif (!r3.2) then
    some (⟨a0.Key,a0.Width,a0.Ends,r2,a0.Forged,a0.Given,a0.Taken⟩:ae_)
  else
    bif (!(y1.Bytes.toList==y1.Sent.toList)) then
      bif (a0.Forged.toList==(⟨#[]⟩:ByteArray).toList) then
        cV_ k a0.Key a0.Width y1.Bytes (⟨#[]⟩:ByteArray) 0 (⟨#[]⟩:ByteArray) y1.To y1.Sent y1.Bytes r3.1.Kind r3.1.From r3.1.Mine r3.1.Yours r3.1.Next r3.1.Mask r3.1.Seq r3.1.Last r3.1.Part a0.Ends r2 a0.Given a0.Taken ([]:List ao_) ([]:List ac_) ([]:List ab_) ([]:List ab_)
      else
        cV_ k a0.Key a0.Width a0.Forged (⟨#[]⟩:ByteArray) 0 (⟨#[]⟩:ByteArray) y1.To y1.Sent y1.Bytes r3.1.Kind r3.1.From r3.1.Mine r3.1.Yours r3.1.Next r3.1.Mask r3.1.Seq r3.1.Last r3.1.Part a0.Ends r2 a0.Given a0.Taken ([]:List ao_) ([]:List ac_) ([]:List ab_) ([]:List ab_)
    else
      cV_ k a0.Key a0.Width a0.Forged (⟨#[]⟩:ByteArray) 0 (⟨#[]⟩:ByteArray) y1.To y1.Sent y1.Bytes r3.1.Kind r3.1.From r3.1.Mine r3.1.Yours r3.1.Next r3.1.Mask r3.1.Seq r3.1.Last r3.1.Part a0.Ends r2 a0.Given a0.Taken ([]:List ao_) ([]:List ac_) ([]:List ab_) ([]:List ab_)
noncomputable def a3_:Nat→ByteArray→Int→ByteArray→ByteArray→Int→ByteArray→List ao_→List ac_→List ab_→List ab_→List ao_→List ac_→List ab_→List ab_→Option (ae_)
  | 0,_,_,_,_,_,_,_,_,_,_,_,_,_,_=>none
  | k+1,x0,x1,x2,x3,x4,x5,x6,x7,x8,x9,x10,x11,x12,x13=>
    some (⟨x0,x1,x6,x7,x2,x8,x9⟩:ae_)
noncomputable def jQ_ (k:Nat) (a0:ae_) (a1:nR_):Option (ae_):=
  (idx a0.Ends (IntKind.wrap .i64 (a1.A-1))).bind fun _=>
  (a0.Ends[(Int.toNat (IntKind.wrap .i64 (a1.A-1)))]?).bind fun y1=>
  bif (a1.Kind==8) then
    (hd_ k y1).bind fun r2=>
    (idx a0.Ends (IntKind.wrap .i64 (a1.A-1))).bind fun _=>
    (a0.Ends[(Int.toNat (IntKind.wrap .i64 (a1.A-1)))]?).bind fun y3=>
    a3_ k a0.Key a0.Width a0.Forged (⟨#[]⟩:ByteArray) 0 (⟨#[]⟩:ByteArray) (a0.Ends.set (Int.toNat (IntKind.wrap .i64 (a1.A-1))) r2) a0.Flight a0.Given a0.Taken ([]:List ao_) ([]:List ac_) ([]:List ab_) ([]:List ab_)
  else
    bif (a1.Kind==9) then
      (g5_ k y1).bind fun r4=>
      (idx a0.Ends (IntKind.wrap .i64 (a1.A-1))).bind fun _=>
      (a0.Ends[(Int.toNat (IntKind.wrap .i64 (a1.A-1)))]?).bind fun y5=>
      a3_ k a0.Key a0.Width a0.Forged (⟨#[]⟩:ByteArray) 0 (⟨#[]⟩:ByteArray) (a0.Ends.set (Int.toNat (IntKind.wrap .i64 (a1.A-1))) r4) a0.Flight a0.Given a0.Taken ([]:List ao_) ([]:List ac_) ([]:List ab_) ([]:List ab_)
    else
      bif (a1.Kind==10) then
        (gI_ k y1 a1.Text).bind fun r6=>
        bif (r6.Code==0) then
          bif (decide ((IntKind.wrap .i64 ((a0.Given.length:Int)+(a0.Taken.length:Int)))<400)) then
            (idx a0.Ends (IntKind.wrap .i64 (a1.A-1))).bind fun _=>
            (a0.Ends[(Int.toNat (IntKind.wrap .i64 (a1.A-1)))]?).bind fun y7=>
            (app 40 a0.Given ([(⟨a1.A,y1.Life,y1.Peer,a1.Text⟩:ab_)]:List ab_)).bind fun l8=>
            a3_ k a0.Key a0.Width a0.Forged (⟨#[]⟩:ByteArray) 0 (⟨#[]⟩:ByteArray) (a0.Ends.set (Int.toNat (IntKind.wrap .i64 (a1.A-1))) r6.End) a0.Flight l8 a0.Taken ([]:List ao_) ([]:List ac_) ([]:List ab_) ([]:List ab_)
          else
            a3_ k a0.Key a0.Width a0.Forged (⟨#[]⟩:ByteArray) 0 (⟨#[]⟩:ByteArray) a0.Ends a0.Flight a0.Given a0.Taken ([]:List ao_) ([]:List ac_) ([]:List ab_) ([]:List ab_)
        else
          a3_ k a0.Key a0.Width a0.Forged (⟨#[]⟩:ByteArray) 0 (⟨#[]⟩:ByteArray) a0.Ends a0.Flight a0.Given a0.Taken ([]:List ao_) ([]:List ac_) ([]:List ab_) ([]:List ab_)
      else
        bif (a1.Kind==11) then
          (hf_ k y1).bind fun r9=>
          bif (r9.Code==0) then
            bif (decide ((IntKind.wrap .i64 ((a0.Given.length:Int)+(a0.Taken.length:Int)))<400)) then
              (idx a0.Ends (IntKind.wrap .i64 (a1.A-1))).bind fun _=>
              (a0.Ends[(Int.toNat (IntKind.wrap .i64 (a1.A-1)))]?).bind fun y10=>
              (app 40 a0.Taken ([(⟨(IntKind.wrap .i64 (3-a1.A)),y1.Peer,y1.Life,r9.Text⟩:ab_)]:List ab_)).bind fun l11=>
              a3_ k a0.Key a0.Width a0.Forged (⟨#[]⟩:ByteArray) 0 (⟨#[]⟩:ByteArray) (a0.Ends.set (Int.toNat (IntKind.wrap .i64 (a1.A-1))) r9.End) a0.Flight a0.Given l11 ([]:List ao_) ([]:List ac_) ([]:List ab_) ([]:List ab_)
            else
              a3_ k a0.Key a0.Width a0.Forged (⟨#[]⟩:ByteArray) 0 (⟨#[]⟩:ByteArray) a0.Ends a0.Flight a0.Given a0.Taken ([]:List ao_) ([]:List ac_) ([]:List ab_) ([]:List ab_)
          else
            a3_ k a0.Key a0.Width a0.Forged (⟨#[]⟩:ByteArray) 0 (⟨#[]⟩:ByteArray) a0.Ends a0.Flight a0.Given a0.Taken ([]:List ao_) ([]:List ac_) ([]:List ab_) ([]:List ab_)
        else
          a3_ k a0.Key a0.Width a0.Forged (⟨#[]⟩:ByteArray) 0 (⟨#[]⟩:ByteArray) a0.Ends a0.Flight a0.Given a0.Taken ([]:List ao_) ([]:List ac_) ([]:List ab_) ([]:List ab_)
mutual
noncomputable def c2_:Nat→Int→Int→ByteArray→Int→ByteArray→ByteArray→Int→ByteArray→List (DKey×Int)→List ao_→List ac_→List ab_→List ab_→List ao_→List ac_→List ab_→List ab_→Option (ae_)
  | 0,_,_,_,_,_,_,_,_,_,_,_,_,_,_,_,_,_=>none
  | k+1,x0,x1,x2,x3,x4,x5,x6,x7,x8,x9,x10,x11,x12,x13,x14,x15,x16=>
    bif (decide (x0>0)) then
      (eV_ k (⟨x5,x6,x13,x14,x7,x15,x16⟩:ae_)).bind fun r3=>
      c7_ k x0 x1 (r3.Flight.length:Int) 0 x2 x3 x4 r3.Key r3.Width r3.Forged x8 r3.Flight x9 x10 x11 x12 r3.Ends ([]:List ac_) r3.Given r3.Taken
    else
      some (⟨x5,x6,x13,x14,x7,x15,x16⟩:ae_)
noncomputable def c7_:Nat→Int→Int→Int→Int→ByteArray→Int→ByteArray→ByteArray→Int→ByteArray→List (DKey×Int)→List ac_→List ao_→List ac_→List ab_→List ab_→List ao_→List ac_→List ab_→List ab_→Option (ae_)
  | 0,_,_,_,_,_,_,_,_,_,_,_,_,_,_,_,_,_,_,_,_=>none
  | k+1,x0,x1,x2,x3,x4,x5,x6,x7,x8,x9,x10,x11,x12,x13,x14,x15,x16,x17,x18,x19=>
    bif (decide (x3<x2)) then
      (idx x11 x3).bind fun _=>
      (x11[(Int.toNat x3)]?).bind fun y4=>
      both (
        optK (dw_ (el_ (⟨y4.To,y4.Bytes⟩:DKey)) x10 0) (
          optK (dw_ (el_ (⟨y4.To,y4.Bytes⟩:DKey)) x10 0) (
            (idx (x10++[((⟨y4.To,y4.Bytes⟩:DKey),0)]) (x10.length:Int)).bind fun e7=>
            bc_ k x0 x1 x2 x3 x4 x5 x6 x7 x8 x9 ((x10++[((⟨y4.To,y4.Bytes⟩:DKey),0)]).set (Int.toNat (x10.length:Int)) (e7.1,(IntKind.wrap .i64 (0+1)))) y4.To y4.Sent y4.Bytes y4.To y4.Bytes x11 x12 x13 x14 x15 x16 x17 x18 x19
          ) (fun p6=>
            (idx x10 (p6.1:Int)).bind fun e8=>
            bc_ k x0 x1 x2 x3 x4 x5 x6 x7 x8 x9 (x10.set (Int.toNat (p6.1:Int)) (e8.1,(IntKind.wrap .i64 (0+1)))) y4.To y4.Sent y4.Bytes y4.To y4.Bytes x11 x12 x13 x14 x15 x16 x17 x18 x19
          )
        ) (fun p5=>
          optK (dw_ (el_ (⟨y4.To,y4.Bytes⟩:DKey)) x10 0) (
            (idx (x10++[((⟨y4.To,y4.Bytes⟩:DKey),0)]) (x10.length:Int)).bind fun e10=>
            bc_ k x0 x1 x2 x3 x4 x5 x6 x7 x8 x9 ((x10++[((⟨y4.To,y4.Bytes⟩:DKey),0)]).set (Int.toNat (x10.length:Int)) (e10.1,(IntKind.wrap .i64 (p5.2+1)))) y4.To y4.Sent y4.Bytes y4.To y4.Bytes x11 x12 x13 x14 x15 x16 x17 x18 x19
          ) (fun p9=>
            (idx x10 (p9.1:Int)).bind fun e11=>
            bc_ k x0 x1 x2 x3 x4 x5 x6 x7 x8 x9 (x10.set (Int.toNat (p9.1:Int)) (e11.1,(IntKind.wrap .i64 (p5.2+1)))) y4.To y4.Sent y4.Bytes y4.To y4.Bytes x11 x12 x13 x14 x15 x16 x17 x18 x19
          )
        )
      ) (
        optK (dw_ (el_ (⟨y4.To,y4.Bytes⟩:DKey)) x10 0) (
          optK (dw_ (el_ (⟨y4.To,y4.Bytes⟩:DKey)) (x10++[((⟨y4.To,y4.Bytes⟩:DKey),0)]) 0) (
            (idx (x10++[((⟨y4.To,y4.Bytes⟩:DKey),0)]) (x10.length:Int)).bind fun e14=>
            bc_ k x0 x1 x2 x3 x4 x5 x6 x7 x8 x9 ((x10++[((⟨y4.To,y4.Bytes⟩:DKey),0)]).set (Int.toNat (x10.length:Int)) (e14.1,(IntKind.wrap .i64 (0+1)))) y4.To y4.Sent y4.Bytes y4.To y4.Bytes x11 x12 x13 x14 x15 x16 x17 x18 x19
          ) (fun p13=>
            (idx (x10++[((⟨y4.To,y4.Bytes⟩:DKey),0)]) (x10.length:Int)).bind fun e15=>
            bc_ k x0 x1 x2 x3 x4 x5 x6 x7 x8 x9 ((x10++[((⟨y4.To,y4.Bytes⟩:DKey),0)]).set (Int.toNat (x10.length:Int)) (e15.1,(IntKind.wrap .i64 (p13.2+1)))) y4.To y4.Sent y4.Bytes y4.To y4.Bytes x11 x12 x13 x14 x15 x16 x17 x18 x19
          )
        ) (fun p12=>
          optK (dw_ (el_ (⟨y4.To,y4.Bytes⟩:DKey)) x10 0) (
            (idx x10 (p12.1:Int)).bind fun e17=>
            bc_ k x0 x1 x2 x3 x4 x5 x6 x7 x8 x9 (x10.set (Int.toNat (p12.1:Int)) (e17.1,(IntKind.wrap .i64 (0+1)))) y4.To y4.Sent y4.Bytes y4.To y4.Bytes x11 x12 x13 x14 x15 x16 x17 x18 x19
          ) (fun p16=>
            (idx x10 (p12.1:Int)).bind fun e18=>
            bc_ k x0 x1 x2 x3 x4 x5 x6 x7 x8 x9 (x10.set (Int.toNat (p12.1:Int)) (e18.1,(IntKind.wrap .i64 (p16.2+1)))) y4.To y4.Sent y4.Bytes y4.To y4.Bytes x11 x12 x13 x14 x15 x16 x17 x18 x19
          )
        )
      )
    else
      b9_ k x0 x1 1 x4 x5 x6 x7 x8 x9 x10 x12 x13 x14 x15 x16 x17 x18 x19
noncomputable def bc_:Nat→Int→Int→Int→Int→ByteArray→Int→ByteArray→ByteArray→Int→ByteArray→List (DKey×Int)→Int→ByteArray→ByteArray→Int→ByteArray→List ac_→List ao_→List ac_→List ab_→List ab_→List ao_→List ac_→List ab_→List ab_→Option (ae_)
  | 0,_,_,_,_,_,_,_,_,_,_,_,_,_,_,_,_,_,_,_,_,_,_,_,_,_=>none
  | k+1,x0,x1,x2,x3,x4,x5,x6,x7,x8,x9,x10,x11,x12,x13,x14,x15,x16,x17,x18,x19,x20,x21,x22,x23,x24=>
    optK (dw_ (el_ (⟨x14,x15⟩:DKey)) x10 0) (
      (oK_ 0 x1).bind fun q20=>
      bif (q20==0) then
        (dc_ k (⟨x7,x8,x21,x22,x9,x23,x24⟩:ae_) (⟨x11,x12,x13⟩:ac_)).bind fun r21=>
        c4_ k x0 x1 x2 x3 x4 x5 x6 r21.Key r21.Width r21.Forged x10 x16 x17 x18 x19 x20 r21.Ends r21.Flight r21.Given r21.Taken
      else
        c4_ k x0 x1 x2 x3 x4 x5 x6 x7 x8 x9 x10 x16 x17 x18 x19 x20 x21 x22 x23 x24
    ) (fun p19=>
      (oK_ p19.2 x1).bind fun q22=>
      bif (q22==0) then
        (dc_ k (⟨x7,x8,x21,x22,x9,x23,x24⟩:ae_) (⟨x11,x12,x13⟩:ac_)).bind fun r23=>
        c4_ k x0 x1 x2 x3 x4 x5 x6 r23.Key r23.Width r23.Forged x10 x16 x17 x18 x19 x20 r23.Ends r23.Flight r23.Given r23.Taken
      else
        c4_ k x0 x1 x2 x3 x4 x5 x6 x7 x8 x9 x10 x16 x17 x18 x19 x20 x21 x22 x23 x24
    )
noncomputable def b9_:Nat→Int→Int→Int→ByteArray→Int→ByteArray→ByteArray→Int→ByteArray→List (DKey×Int)→List ao_→List ac_→List ab_→List ab_→List ao_→List ac_→List ab_→List ab_→Option (ae_)
  | 0,_,_,_,_,_,_,_,_,_,_,_,_,_,_,_,_,_,_=>none
  | k+1,x0,x1,x2,x3,x4,x5,x6,x7,x8,x9,x10,x11,x12,x13,x14,x15,x16,x17=>
    bif (decide (x2≤2)) then
      dV_ k x0 x1 x2 0 x3 x4 x5 x6 x7 x8 x9 x10 x11 x12 x13 x14 x15 x16 x17
    else
      c2_ k (IntKind.wrap .i64 (x0-1)) x1 x3 x4 x5 x6 x7 x8 x9 x10 x11 x12 x13 x14 x15 x16 x17
noncomputable def c4_:Nat→Int→Int→Int→Int→ByteArray→Int→ByteArray→ByteArray→Int→ByteArray→List (DKey×Int)→List ac_→List ao_→List ac_→List ab_→List ab_→List ao_→List ac_→List ab_→List ab_→Option (ae_)
  | 0,_,_,_,_,_,_,_,_,_,_,_,_,_,_,_,_,_,_,_,_=>none
  | k+1,x0,x1,x2,x3,x4,x5,x6,x7,x8,x9,x10,x11,x12,x13,x14,x15,x16,x17,x18,x19=>
    c7_ k x0 x1 x2 (IntKind.wrap .i64 (x3+1)) x4 x5 x6 x7 x8 x9 x10 x11 x12 x13 x14 x15 x16 x17 x18 x19
noncomputable def dV_:Nat→Int→Int→Int→Int→ByteArray→Int→ByteArray→ByteArray→Int→ByteArray→List (DKey×Int)→List ao_→List ac_→List ab_→List ab_→List ao_→List ac_→List ab_→List ab_→Option (ae_)
  | 0,_,_,_,_,_,_,_,_,_,_,_,_,_,_,_,_,_,_,_=>none
  | k+1,x0,x1,x2,x3,x4,x5,x6,x7,x8,x9,x10,x11,x12,x13,x14,x15,x16,x17,x18=>
    bif (decide (x3<4)) then
      (idx x15 (IntKind.wrap .i64 (x2-1))).bind fun _=>
      (x15[(Int.toNat (IntKind.wrap .i64 (x2-1)))]?).bind fun y24=>
      bif (decide ((y24.Take.Ready.length:Int)>0)) then
        (eL_ k (⟨x7,x8,x15,x16,x9,x17,x18⟩:ae_) x2).bind fun r25=>
        dV_ k x0 x1 x2 (IntKind.wrap .i64 (x3+1)) x4 x5 x6 r25.Key r25.Width r25.Forged x10 x11 x12 x13 x14 r25.Ends r25.Flight r25.Given r25.Taken
      else
        b9_ k x0 x1 (IntKind.wrap .i64 (x2+1)) x4 x5 x6 x7 x8 x9 x10 x11 x12 x13 x14 x15 x16 x17 x18
    else
      b9_ k x0 x1 (IntKind.wrap .i64 (x2+1)) x4 x5 x6 x7 x8 x9 x10 x11 x12 x13 x14 x15 x16 x17 x18
end
noncomputable def jo_ (k:Nat) (a0:ae_) (a1:Int) (a2:Int):Option (ae_):=
  (e3_ k a0).bind fun r1=>
  bif (!r1) then
    some (⟨(⟨#[]⟩:ByteArray),0,([]:List ao_),([]:List ac_),(⟨#[]⟩:ByteArray),([]:List ab_),([]:List ab_)⟩:ae_)
  else
    bif (decide (a2<1)) then
      some (⟨(⟨#[]⟩:ByteArray),0,([]:List ao_),([]:List ac_),(⟨#[]⟩:ByteArray),([]:List ab_),([]:List ab_)⟩:ae_)
    else
      bif (decide (a2>10)) then
        some (⟨(⟨#[]⟩:ByteArray),0,([]:List ao_),([]:List ac_),(⟨#[]⟩:ByteArray),([]:List ab_),([]:List ab_)⟩:ae_)
      else
        (do_ k a0).bind fun r2=>
        bif (decide (a1>5000)) then
          c2_ k 5000 a2 (⟨#[]⟩:ByteArray) 0 (⟨#[]⟩:ByteArray) r2.Key r2.Width r2.Forged ([]:List (DKey×Int)) ([]:List ao_) ([]:List ac_) ([]:List ab_) ([]:List ab_) r2.Ends r2.Flight r2.Given r2.Taken
        else
          c2_ k a1 a2 (⟨#[]⟩:ByteArray) 0 (⟨#[]⟩:ByteArray) r2.Key r2.Width r2.Forged ([]:List (DKey×Int)) ([]:List ao_) ([]:List ac_) ([]:List ab_) ([]:List ab_) r2.Ends r2.Flight r2.Given r2.Taken
noncomputable def dq_:Nat→List ao_→Int→Int→Option (Int)
  | 0,_,_,_=>none
  | k+1,x0,x1,x2=>
    bif (decide (x2<(x0.length:Int))) then
      (idx x0 x2).bind fun y1=>
      (jI_ k y1 x1).bind fun r2=>
      bif (decide (r2<0)) then
        some (-1)
      else
        dq_ k x0 r2 (IntKind.wrap .i64 (x2+1))
    else
      some x1
noncomputable def hS_ (k:Nat) (a0:List ao_) (a1:Int):Option (Int):=
  bif (decide ((IntKind.wrap .i64 (a1-(a0.length:Int)))<0)) then
    some (-1)
  else
    dq_ k a0 (IntKind.wrap .i64 (a1-(a0.length:Int))) 0
noncomputable def gb_ (k:Nat) (a0:ac_) (a1:Int):Option (Int):=
  bif (decide ((IntKind.wrap .i64 (a1-(a0.Sent.size:Int)))<0)) then
    some (-1)
  else
    bif (decide ((IntKind.wrap .i64 ((IntKind.wrap .i64 (a1-(a0.Sent.size:Int)))-(a0.Bytes.size:Int)))<0)) then
      some (-1)
    else
      some (IntKind.wrap .i64 ((IntKind.wrap .i64 (a1-(a0.Sent.size:Int)))-(a0.Bytes.size:Int)))
noncomputable def cd_:Nat→List ac_→Int→Int→Option (Int)
  | 0,_,_,_=>none
  | k+1,x0,x1,x2=>
    bif (decide (x2<(x0.length:Int))) then
      (idx x0 x2).bind fun y1=>
      (gb_ k y1 x1).bind fun r2=>
      bif (decide (r2<0)) then
        some (-1)
      else
        cd_ k x0 r2 (IntKind.wrap .i64 (x2+1))
    else
      some x1
noncomputable def fu_ (k:Nat) (a0:List ac_) (a1:Int):Option (Int):=
  bif (decide ((IntKind.wrap .i64 (a1-(a0.length:Int)))<0)) then
    some (-1)
  else
    cd_ k a0 (IntKind.wrap .i64 (a1-(a0.length:Int))) 0
noncomputable def f2_ (k:Nat) (a0:ab_) (a1:Int):Option (Int):=
  bif (decide ((IntKind.wrap .i64 (a1-(a0.Text.size:Int)))<0)) then
    some (-1)
  else
    some (IntKind.wrap .i64 (a1-(a0.Text.size:Int)))
noncomputable def cj_:Nat→List ab_→Int→Int→Option (Int)
  | 0,_,_,_=>none
  | k+1,x0,x1,x2=>
    bif (decide (x2<(x0.length:Int))) then
      (idx x0 x2).bind fun y1=>
      (f2_ k y1 x1).bind fun r2=>
      bif (decide (r2<0)) then
        some (-1)
      else
        cj_ k x0 r2 (IntKind.wrap .i64 (x2+1))
    else
      some x1
noncomputable def d9_ (k:Nat) (a0:List ab_) (a1:Int):Option (Int):=
  bif (decide ((IntKind.wrap .i64 (a1-(a0.length:Int)))<0)) then
    some (-1)
  else
    cj_ k a0 (IntKind.wrap .i64 (a1-(a0.length:Int))) 0
noncomputable def gO_ (k:Nat) (a0:ae_) (a1:Int):Option (Int):=
  bif (decide ((IntKind.wrap .i64 (a1-(a0.Key.size:Int)))<0)) then
    some (-1)
  else
    (hS_ k a0.Ends (IntKind.wrap .i64 (a1-(a0.Key.size:Int)))).bind fun r1=>
    bif (decide (r1<0)) then
      some (-1)
    else
      (fu_ k a0.Flight r1).bind fun r2=>
      bif (decide (r2<0)) then
        some (-1)
      else
        bif (decide ((IntKind.wrap .i64 (r2-(a0.Forged.size:Int)))<0)) then
          some (-1)
        else
          (d9_ k a0.Given (IntKind.wrap .i64 (r2-(a0.Forged.size:Int)))).bind fun r3=>
          bif (decide (r3<0)) then
            some (-1)
          else
            (d9_ k a0.Taken r3).bind fun r4=>
            bif (decide (r4<0)) then
              some (-1)
            else
              some r4
noncomputable def dm_:Nat→List ao_→Int→List ao_→Option (List ao_)
  | 0,_,_,_=>none
  | k+1,x0,x1,x2=>
    bif (decide (x1<(x0.length:Int))) then
      (idx x0 x1).bind fun y2=>
      (jP_ k y2).bind fun r3=>
      (idx x2 x1).bind fun _=>
      (x2[(Int.toNat x1)]?).bind fun y4=>
      dm_ k x0 (IntKind.wrap .i64 (x1+1)) (x2.set (Int.toNat x1) r3)
    else
      some x2
noncomputable def hV_ (k:Nat) (a0:List ao_):Option (List ao_):=
  (if ((a0.length:Int):Int)=(a0.length:Int) then room 152 (a0.length:Int) else none).bind fun n1=>
  dm_ k a0 0 (List.replicate n1 (⟨0,false,0,0,0,false,(⟨0,([]:List ah_)⟩:am_),(⟨0,([]:List ai_),(⟨#[]⟩:ByteArray),([]:List ByteArray)⟩:al_)⟩:ao_))
noncomputable def if_ (k:Nat) (a0:ac_):Option (ac_):=
  some a0
noncomputable def ci_:Nat→List ac_→Int→List ac_→Option (List ac_)
  | 0,_,_,_=>none
  | k+1,x0,x1,x2=>
    bif (decide (x1<(x0.length:Int))) then
      (idx x0 x1).bind fun y2=>
      (if_ k y2).bind fun r3=>
      (idx x2 x1).bind fun _=>
      (x2[(Int.toNat x1)]?).bind fun y4=>
      ci_ k x0 (IntKind.wrap .i64 (x1+1)) (x2.set (Int.toNat x1) r3)
    else
      some x2
noncomputable def fB_ (k:Nat) (a0:List ac_):Option (List ac_):=
  (if ((a0.length:Int):Int)=(a0.length:Int) then room 40 (a0.length:Int) else none).bind fun n1=>
  ci_ k a0 0 (List.replicate n1 (⟨0,(⟨#[]⟩:ByteArray),(⟨#[]⟩:ByteArray)⟩:ac_))
noncomputable def hU_ (k:Nat) (a0:ab_):Option (ab_):=
  some a0
noncomputable def cg_:Nat→List ab_→Int→List ab_→Option (List ab_)
  | 0,_,_,_=>none
  | k+1,x0,x1,x2=>
    bif (decide (x1<(x0.length:Int))) then
      (idx x0 x1).bind fun y2=>
      (hU_ k y2).bind fun r3=>
      (idx x2 x1).bind fun _=>
      (x2[(Int.toNat x1)]?).bind fun y4=>
      cg_ k x0 (IntKind.wrap .i64 (x1+1)) (x2.set (Int.toNat x1) r3)
    else
      some x2
noncomputable def ej_ (k:Nat) (a0:List ab_):Option (List ab_):=
  (if ((a0.length:Int):Int)=(a0.length:Int) then room 40 (a0.length:Int) else none).bind fun n1=>
  cg_ k a0 0 (List.replicate n1 (⟨0,0,0,(⟨#[]⟩:ByteArray)⟩:ab_))
noncomputable def dJ_ (k:Nat) (a0:ae_):Option (ae_):=
  (hV_ k a0.Ends).bind fun r1=>
  (fB_ k a0.Flight).bind fun r2=>
  (ej_ k a0.Given).bind fun r3=>
  (ej_ k a0.Taken).bind fun r4=>
  some (⟨a0.Key,a0.Width,r1,r2,a0.Forged,r3,r4⟩:ae_)
noncomputable def bt_:Nat→Int→Int→List aJ_→Int→ByteArray→ByteArray→Option (List aJ_×Bool)
  | 0,_,_,_,_,_,_=>none
  | k+1,x0,x1,x2,x3,x4,x5=>
    bif (decide (x1<(x2.length:Int))) then
      (idx x2 x1).bind fun _=>
      (x2[(Int.toNat x1)]?).bind fun y1=>
      bif (y1.to==x3) then
        (idx x2 x1).bind fun _=>
        (x2[(Int.toNat x1)]?).bind fun y2=>
        bif (y2.bytes.toList==x5.toList) then
          (idx x2 x1).bind fun _=>
          (x2[(Int.toNat x1)]?).bind fun y3=>
          (idx x2 x1).bind fun _=>
          (x2[(Int.toNat x1)]?).bind fun y4=>
          (idx (x2.set (Int.toNat x1) (⟨y4.to,y4.bytes,(IntKind.wrap .i64 (y3.n+1))⟩:aJ_)) x1).bind fun _=>
          ((x2.set (Int.toNat x1) (⟨y4.to,y4.bytes,(IntKind.wrap .i64 (y3.n+1))⟩:aJ_))[(Int.toNat x1)]?).bind fun y5=>
          (oK_ y5.n x0).bind fun q6=>
          some ((x2.set (Int.toNat x1) (⟨y4.to,y4.bytes,(IntKind.wrap .i64 (y3.n+1))⟩:aJ_)),(q6==0))
        else
          bt_ k x0 (IntKind.wrap .i64 (x1+1)) x2 x3 x4 x5
      else
        bt_ k x0 (IntKind.wrap .i64 (x1+1)) x2 x3 x4 x5
    else
      (app 32 x2 ([(⟨x3,x5,1⟩:aJ_)]:List aJ_)).bind fun l7=>
      some (l7,(x0==1))
noncomputable def gk_ (k:Nat) (a0:List aJ_) (a1:ac_) (a2:Int):Option (List aJ_×Bool):=
  bt_ k a2 0 a0 a1.To a1.Sent a1.Bytes
mutual
noncomputable def eF_:Nat→Int→Int→Int→ByteArray→Int→ByteArray→ByteArray→Int→ByteArray→List aJ_→List ao_→List ac_→List ab_→List ab_→List ao_→List ac_→List ab_→List ab_→Option (ae_)
  | 0,_,_,_,_,_,_,_,_,_,_,_,_,_,_,_,_,_,_=>none
  | k+1,x0,x1,x2,x3,x4,x5,x6,x7,x8,x9,x10,x11,x12,x13,x14,x15,x16,x17=>
    bif (decide (x2<x0)) then
      bif (decide (x2<5000)) then
        (ii_ k (⟨x6,x7,x14,x15,x8,x16,x17⟩:ae_)).bind fun r4=>
        dK_ k x0 x1 x2 x3 x4 x5 r4.Key r4.Width r4.Forged x9 x10 x11 x12 x13 r4.Ends r4.Flight r4.Given r4.Taken
      else
        (ey_ k (⟨x6,x7,x14,x15,x8,x16,x17⟩:ae_)).bind fun r5=>
        some r5
    else
      (ey_ k (⟨x6,x7,x14,x15,x8,x16,x17⟩:ae_)).bind fun r6=>
      some r6
noncomputable def dK_:Nat→Int→Int→Int→ByteArray→Int→ByteArray→ByteArray→Int→ByteArray→List aJ_→List ao_→List ac_→List ab_→List ab_→List ao_→List ac_→List ab_→List ab_→Option (ae_)
  | 0,_,_,_,_,_,_,_,_,_,_,_,_,_,_,_,_,_,_=>none
  | k+1,x0,x1,x2,x3,x4,x5,x6,x7,x8,x9,x10,x11,x12,x13,x14,x15,x16,x17=>
    bif (decide ((x15.length:Int)>0)) then
      (idx x15 0).bind fun _=>
      (x15[(Int.toNat 0)]?).bind fun y7=>
      (gk_ k x9 y7 x1).bind fun r8=>
      bif r8.2 then
        (gS_ k (⟨x6,x7,x14,x15,x8,x16,x17⟩:ae_) 0).bind fun r9=>
        dK_ k x0 x1 x2 x3 x4 x5 r9.Key r9.Width r9.Forged r8.1 x10 x11 x12 x13 r9.Ends r9.Flight r9.Given r9.Taken
      else
        (ek_ k x15 0).bind fun r10=>
        dK_ k x0 x1 x2 x3 x4 x5 x6 x7 x8 r8.1 x10 x11 x12 x13 x14 r10 x16 x17
    else
      b8_ k x0 x1 x2 1 x3 x4 x5 x6 x7 x8 x9 x10 x11 x12 x13 x14 x15 x16 x17
noncomputable def b8_:Nat→Int→Int→Int→Int→ByteArray→Int→ByteArray→ByteArray→Int→ByteArray→List aJ_→List ao_→List ac_→List ab_→List ab_→List ao_→List ac_→List ab_→List ab_→Option (ae_)
  | 0,_,_,_,_,_,_,_,_,_,_,_,_,_,_,_,_,_,_,_=>none
  | k+1,x0,x1,x2,x3,x4,x5,x6,x7,x8,x9,x10,x11,x12,x13,x14,x15,x16,x17,x18=>
    bif (decide (x3≤2)) then
      dZ_ k x0 x1 x2 x3 0 x4 x5 x6 x7 x8 x9 x10 x11 x12 x13 x14 x15 x16 x17 x18
    else
      eF_ k x0 x1 (IntKind.wrap .i64 (x2+1)) x4 x5 x6 x7 x8 x9 x10 x11 x12 x13 x14 x15 x16 x17 x18
noncomputable def dZ_:Nat→Int→Int→Int→Int→Int→ByteArray→Int→ByteArray→ByteArray→Int→ByteArray→List aJ_→List ao_→List ac_→List ab_→List ab_→List ao_→List ac_→List ab_→List ab_→Option (ae_)
  | 0,_,_,_,_,_,_,_,_,_,_,_,_,_,_,_,_,_,_,_,_=>none
  | k+1,x0,x1,x2,x3,x4,x5,x6,x7,x8,x9,x10,x11,x12,x13,x14,x15,x16,x17,x18,x19=>
    bif (decide (x4<4)) then
      (idx x16 (IntKind.wrap .i64 (x3-1))).bind fun _=>
      (x16[(Int.toNat (IntKind.wrap .i64 (x3-1)))]?).bind fun y11=>
      bif (decide ((y11.Take.Ready.length:Int)>0)) then
        (jQ_ k (⟨x8,x9,x16,x17,x10,x18,x19⟩:ae_) (⟨11,x3,0,0,(⟨#[]⟩:ByteArray)⟩:nR_)).bind fun r12=>
        dZ_ k x0 x1 x2 x3 (IntKind.wrap .i64 (x4+1)) x5 x6 x7 r12.Key r12.Width r12.Forged x11 x12 x13 x14 x15 r12.Ends r12.Flight r12.Given r12.Taken
      else
        b8_ k x0 x1 x2 (IntKind.wrap .i64 (x3+1)) x5 x6 x7 x8 x9 x10 x11 x12 x13 x14 x15 x16 x17 x18 x19
    else
      b8_ k x0 x1 x2 (IntKind.wrap .i64 (x3+1)) x5 x6 x7 x8 x9 x10 x11 x12 x13 x14 x15 x16 x17 x18 x19
end
noncomputable def mn_ (k:Nat) (a0:ae_) (a1:Int) (a2:Int):Option (ae_):=
  (eO_ k a0).bind fun r1=>
  bif (!r1) then
    some (⟨(⟨#[]⟩:ByteArray),0,([]:List ao_),([]:List ac_),(⟨#[]⟩:ByteArray),([]:List ab_),([]:List ab_)⟩:ae_)
  else
    (aC_ k a2 1 10).bind fun r2=>
    bif (!r2) then
      some (⟨(⟨#[]⟩:ByteArray),0,([]:List ao_),([]:List ac_),(⟨#[]⟩:ByteArray),([]:List ab_),([]:List ab_)⟩:ae_)
    else
      (ey_ k a0).bind fun r3=>
      eF_ k a1 a2 0 (⟨#[]⟩:ByteArray) 0 (⟨#[]⟩:ByteArray) r3.Key r3.Width r3.Forged ([]:List aJ_) ([]:List ao_) ([]:List ac_) ([]:List ab_) ([]:List ab_) r3.Ends r3.Flight r3.Given r3.Taken
noncomputable def dr_:Nat→List ao_→List ao_→Int→Option (Bool)
  | 0,_,_,_=>none
  | k+1,x0,x1,x2=>
    bif (decide (x2<(x0.length:Int))) then
      (idx x0 x2).bind fun y1=>
      (idx x1 x2).bind fun y2=>
      (jO_ k y1 y2).bind fun r3=>
      bif (!r3) then
        some false
      else
        dr_ k x0 x1 (IntKind.wrap .i64 (x2+1))
    else
      some true
noncomputable def hR_ (k:Nat) (a0:List ao_) (a1:List ao_):Option (Bool):=
  bif ((a0.length:Int) !=(a1.length:Int)) then
    some false
  else
    dr_ k a0 a1 0
noncomputable def gl_ (k:Nat) (a0:ac_) (a1:ac_):Option (Bool):=
  bif (a0.To !=a1.To) then
    some false
  else
    bif (!(a0.Sent.toList==a1.Sent.toList)) then
      some false
    else
      bif (!(a0.Bytes.toList==a1.Bytes.toList)) then
        some false
      else
        some true
noncomputable def ch_:Nat→List ac_→List ac_→Int→Option (Bool)
  | 0,_,_,_=>none
  | k+1,x0,x1,x2=>
    bif (decide (x2<(x0.length:Int))) then
      (idx x0 x2).bind fun y1=>
      (idx x1 x2).bind fun y2=>
      (gl_ k y1 y2).bind fun r3=>
      bif (!r3) then
        some false
      else
        ch_ k x0 x1 (IntKind.wrap .i64 (x2+1))
    else
      some true
noncomputable def fy_ (k:Nat) (a0:List ac_) (a1:List ac_):Option (Bool):=
  bif ((a0.length:Int) !=(a1.length:Int)) then
    some false
  else
    ch_ k a0 a1 0
noncomputable def f5_ (k:Nat) (a0:ab_) (a1:ab_):Option (Bool):=
  bif (a0.From !=a1.From) then
    some false
  else
    bif (a0.A !=a1.A) then
      some false
    else
      bif (a0.B !=a1.B) then
        some false
      else
        bif (!(a0.Text.toList==a1.Text.toList)) then
          some false
        else
          some true
noncomputable def cb_:Nat→List ab_→List ab_→Int→Option (Bool)
  | 0,_,_,_=>none
  | k+1,x0,x1,x2=>
    bif (decide (x2<(x0.length:Int))) then
      (idx x0 x2).bind fun y1=>
      (idx x1 x2).bind fun y2=>
      (f5_ k y1 y2).bind fun r3=>
      bif (!r3) then
        some false
      else
        cb_ k x0 x1 (IntKind.wrap .i64 (x2+1))
    else
      some true
noncomputable def ef_ (k:Nat) (a0:List ab_) (a1:List ab_):Option (Bool):=
  bif ((a0.length:Int) !=(a1.length:Int)) then
    some false
  else
    cb_ k a0 a1 0
noncomputable def dR_ (k:Nat) (a0:ae_) (a1:ae_):Option (Bool):=
  bif (!(a0.Key.toList==a1.Key.toList)) then
    some false
  else
    bif (a0.Width !=a1.Width) then
      some false
    else
      (hR_ k a0.Ends a1.Ends).bind fun r1=>
      bif (!r1) then
        some false
      else
        (fy_ k a0.Flight a1.Flight).bind fun r2=>
        bif (!r2) then
          some false
        else
          bif (!(a0.Forged.toList==a1.Forged.toList)) then
            some false
          else
            (ef_ k a0.Given a1.Given).bind fun r3=>
            bif (!r3) then
              some false
            else
              (ef_ k a0.Taken a1.Taken).bind fun r4=>
              bif (!r4) then
                some false
              else
                some true
noncomputable def bg_:Nat→Int→Int→List ac_→Option (Int×List ac_)
  | 0,_,_,_=>none
  | k+1,x0,x1,x2=>
    bif (decide (x1<(x2.length:Int))) then
      (idx x2 x1).bind fun _=>
      (x2[(Int.toNat x1)]?).bind fun y1=>
      (aB_ k (IntKind.wrap .i64 (x0+1))).bind fun r2=>
      (idx (x2.set (Int.toNat x1) (⟨x0,y1.Sent,y1.Bytes⟩:ac_)) x1).bind fun _=>
      ((x2.set (Int.toNat x1) (⟨x0,y1.Sent,y1.Bytes⟩:ac_))[(Int.toNat x1)]?).bind fun y3=>
      (aB_ k (IntKind.wrap .i64 ((IntKind.wrap .i64 (x0+1))+1))).bind fun r4=>
      (idx ((x2.set (Int.toNat x1) (⟨x0,y1.Sent,y1.Bytes⟩:ac_)).set (Int.toNat x1) (⟨y3.To,r2,y3.Bytes⟩:ac_)) x1).bind fun _=>
      (((x2.set (Int.toNat x1) (⟨x0,y1.Sent,y1.Bytes⟩:ac_)).set (Int.toNat x1) (⟨y3.To,r2,y3.Bytes⟩:ac_))[(Int.toNat x1)]?).bind fun y5=>
      bg_ k (IntKind.wrap .i64 ((IntKind.wrap .i64 ((IntKind.wrap .i64 (x0+1))+1))+1)) (IntKind.wrap .i64 (x1+1)) (((x2.set (Int.toNat x1) (⟨x0,y1.Sent,y1.Bytes⟩:ac_)).set (Int.toNat x1) (⟨y3.To,r2,y3.Bytes⟩:ac_)).set (Int.toNat x1) (⟨y5.To,y5.Sent,r4⟩:ac_))
    else
      some (x0,x2)
noncomputable def ex_ (k:Nat) (a0:List ac_) (a1:Int):Option (Int×List ac_):=
  bg_ k a1 0 a0
noncomputable def bm_:Nat→Int→Int→List ab_→Option (Int×List ab_)
  | 0,_,_,_=>none
  | k+1,x0,x1,x2=>
    bif (decide (x1<(x2.length:Int))) then
      (idx x2 x1).bind fun _=>
      (x2[(Int.toNat x1)]?).bind fun y1=>
      (idx (x2.set (Int.toNat x1) (⟨x0,y1.A,y1.B,y1.Text⟩:ab_)) x1).bind fun _=>
      ((x2.set (Int.toNat x1) (⟨x0,y1.A,y1.B,y1.Text⟩:ab_))[(Int.toNat x1)]?).bind fun y2=>
      (idx ((x2.set (Int.toNat x1) (⟨x0,y1.A,y1.B,y1.Text⟩:ab_)).set (Int.toNat x1) (⟨y2.From,(IntKind.wrap .i64 (x0+1)),y2.B,y2.Text⟩:ab_)) x1).bind fun _=>
      (((x2.set (Int.toNat x1) (⟨x0,y1.A,y1.B,y1.Text⟩:ab_)).set (Int.toNat x1) (⟨y2.From,(IntKind.wrap .i64 (x0+1)),y2.B,y2.Text⟩:ab_))[(Int.toNat x1)]?).bind fun y3=>
      (aB_ k (IntKind.wrap .i64 ((IntKind.wrap .i64 ((IntKind.wrap .i64 (x0+1))+1))+1))).bind fun r4=>
      (idx (((x2.set (Int.toNat x1) (⟨x0,y1.A,y1.B,y1.Text⟩:ab_)).set (Int.toNat x1) (⟨y2.From,(IntKind.wrap .i64 (x0+1)),y2.B,y2.Text⟩:ab_)).set (Int.toNat x1) (⟨y3.From,y3.A,(IntKind.wrap .i64 ((IntKind.wrap .i64 (x0+1))+1)),y3.Text⟩:ab_)) x1).bind fun _=>
      ((((x2.set (Int.toNat x1) (⟨x0,y1.A,y1.B,y1.Text⟩:ab_)).set (Int.toNat x1) (⟨y2.From,(IntKind.wrap .i64 (x0+1)),y2.B,y2.Text⟩:ab_)).set (Int.toNat x1) (⟨y3.From,y3.A,(IntKind.wrap .i64 ((IntKind.wrap .i64 (x0+1))+1)),y3.Text⟩:ab_))[(Int.toNat x1)]?).bind fun y5=>
      bm_ k (IntKind.wrap .i64 ((IntKind.wrap .i64 ((IntKind.wrap .i64 ((IntKind.wrap .i64 (x0+1))+1))+1))+1)) (IntKind.wrap .i64 (x1+1)) ((((x2.set (Int.toNat x1) (⟨x0,y1.A,y1.B,y1.Text⟩:ab_)).set (Int.toNat x1) (⟨y2.From,(IntKind.wrap .i64 (x0+1)),y2.B,y2.Text⟩:ab_)).set (Int.toNat x1) (⟨y3.From,y3.A,(IntKind.wrap .i64 ((IntKind.wrap .i64 (x0+1))+1)),y3.Text⟩:ab_)).set (Int.toNat x1) (⟨y5.From,y5.A,y5.B,r4⟩:ab_))
    else
      some (x0,x2)
noncomputable def di_ (k:Nat) (a0:List ab_) (a1:Int):Option (Int×List ab_):=
  bm_ k a1 0 a0
noncomputable def b3_:Nat→List ao_→Int→Int→Option (Int)
  | 0,_,_,_=>none
  | k+1,x0,x1,x2=>
    bif (decide (x2<(x0.length:Int))) then
      (idx x0 x2).bind fun y1=>
      bif (y1.Number !=x1) then
        some (-1)
      else
        (idx x0 x2).bind fun y2=>
        (oK_ (IntKind.wrap .i64 (x1+1)) 3).bind fun q3=>
        bif (!(y2.Up==(q3==0))) then
          some (-1)
        else
          (idx x0 x2).bind fun y4=>
          bif (y4.Life !=(IntKind.wrap .i64 ((IntKind.wrap .i64 (x1+1))+1))) then
            some (-1)
          else
            (idx x0 x2).bind fun y5=>
            bif (y5.Peer !=(IntKind.wrap .i64 ((IntKind.wrap .i64 ((IntKind.wrap .i64 (x1+1))+1))+1))) then
              some (-1)
            else
              (idx x0 x2).bind fun y6=>
              bif (y6.Since !=(IntKind.wrap .i64 ((IntKind.wrap .i64 ((IntKind.wrap .i64 ((IntKind.wrap .i64 (x1+1))+1))+1))+1))) then
                some (-1)
              else
                (idx x0 x2).bind fun y7=>
                (oK_ (IntKind.wrap .i64 ((IntKind.wrap .i64 ((IntKind.wrap .i64 ((IntKind.wrap .i64 ((IntKind.wrap .i64 (x1+1))+1))+1))+1))+1)) 3).bind fun q8=>
                bif (!(y7.Owes==(q8==0))) then
                  some (-1)
                else
                  (idx x0 x2).bind fun y9=>
                  bif (y9.Send.Base !=(IntKind.wrap .i64 ((IntKind.wrap .i64 ((IntKind.wrap .i64 ((IntKind.wrap .i64 ((IntKind.wrap .i64 ((IntKind.wrap .i64 (x1+1))+1))+1))+1))+1))+1))) then
                    some (-1)
                  else
                    (idx x0 x2).bind fun y10=>
                    (fA_ k y10.Send.Items (IntKind.wrap .i64 ((IntKind.wrap .i64 ((IntKind.wrap .i64 ((IntKind.wrap .i64 ((IntKind.wrap .i64 ((IntKind.wrap .i64 ((IntKind.wrap .i64 (x1+1))+1))+1))+1))+1))+1))+1))).bind fun r11=>
                    bif (decide (r11<0)) then
                      some (-1)
                    else
                      (idx x0 x2).bind fun y12=>
                      bif (y12.Take.Next !=r11) then
                        some (-1)
                      else
                        (idx x0 x2).bind fun y13=>
                        (fx_ k y13.Take.Held (IntKind.wrap .i64 (r11+1))).bind fun r14=>
                        bif (decide (r14<0)) then
                          some (-1)
                        else
                          (idx x0 x2).bind fun y15=>
                          (aB_ k r14).bind fun r16=>
                          bif (!(y15.Take.Open.toList==r16.toList)) then
                            some (-1)
                          else
                            (idx x0 x2).bind fun y17=>
                            (eq_ k y17.Take.Ready (IntKind.wrap .i64 (r14+1))).bind fun r18=>
                            bif (decide (r18<0)) then
                              some (-1)
                            else
                              b3_ k x0 r18 (IntKind.wrap .i64 (x2+1))
    else
      some x1
noncomputable def gd_ (k:Nat) (a0:List ao_) (a1:Int):Option (Int):=
  b3_ k a0 a1 0
noncomputable def bk_:Nat→List ac_→Int→Int→Option (Int)
  | 0,_,_,_=>none
  | k+1,x0,x1,x2=>
    bif (decide (x2<(x0.length:Int))) then
      (idx x0 x2).bind fun y1=>
      bif (y1.To !=x1) then
        some (-1)
      else
        (idx x0 x2).bind fun y2=>
        (aB_ k (IntKind.wrap .i64 (x1+1))).bind fun r3=>
        bif (!(y2.Sent.toList==r3.toList)) then
          some (-1)
        else
          (idx x0 x2).bind fun y4=>
          (aB_ k (IntKind.wrap .i64 ((IntKind.wrap .i64 (x1+1))+1))).bind fun r5=>
          bif (!(y4.Bytes.toList==r5.toList)) then
            some (-1)
          else
            bk_ k x0 (IntKind.wrap .i64 ((IntKind.wrap .i64 ((IntKind.wrap .i64 (x1+1))+1))+1)) (IntKind.wrap .i64 (x2+1))
    else
      some x1
noncomputable def ev_ (k:Nat) (a0:List ac_) (a1:Int):Option (Int):=
  bk_ k a0 a1 0
noncomputable def bl_:Nat→List ab_→Int→Int→Option (Int)
  | 0,_,_,_=>none
  | k+1,x0,x1,x2=>
    bif (decide (x2<(x0.length:Int))) then
      (idx x0 x2).bind fun y1=>
      bif (y1.From !=x1) then
        some (-1)
      else
        (idx x0 x2).bind fun y2=>
        bif (y2.A !=(IntKind.wrap .i64 (x1+1))) then
          some (-1)
        else
          (idx x0 x2).bind fun y3=>
          bif (y3.B !=(IntKind.wrap .i64 ((IntKind.wrap .i64 (x1+1))+1))) then
            some (-1)
          else
            (idx x0 x2).bind fun y4=>
            (aB_ k (IntKind.wrap .i64 ((IntKind.wrap .i64 ((IntKind.wrap .i64 (x1+1))+1))+1))).bind fun r5=>
            bif (!(y4.Text.toList==r5.toList)) then
              some (-1)
            else
              bl_ k x0 (IntKind.wrap .i64 ((IntKind.wrap .i64 ((IntKind.wrap .i64 ((IntKind.wrap .i64 (x1+1))+1))+1))+1)) (IntKind.wrap .i64 (x2+1))
    else
      some x1
noncomputable def dl_ (k:Nat) (a0:List ab_) (a1:Int):Option (Int):=
  bl_ k a0 a1 0
noncomputable def ea_ (k:Nat) (a0:ae_) (a1:Int):Option (Int):=
  (gd_ k a0.Ends a1).bind fun r1=>
  bif (decide (r1<0)) then
    some (-1)
  else
    (ev_ k a0.Flight r1).bind fun r2=>
    bif (decide (r2<0)) then
      some (-1)
    else
      (dl_ k a0.Given r2).bind fun r3=>
      bif (decide (r3<0)) then
        some (-1)
      else
        (dl_ k a0.Taken r3).bind fun r4=>
        bif (decide (r4<0)) then
          some (-1)
        else
          some r4
end Km.X
namespace Km.X
open Go Km
set_option linter.unusedVariables false
set_option maxRecDepth 100000
noncomputable def cq_:Nat→Int→Int→ByteArray→Int→List ac_→ByteArray→List ab_→List ab_→ByteArray→Int→ByteArray→List ao_→Nat→List ao_→List ac_→List ab_→List ab_→Option (ae_)
  | 0,_,_,_,_,_,_,_,_,_,_,_,_,_,_,_,_,_=>none
  | k+1,x0,x1,x2,x3,x4,x5,x6,x7,x8,x9,x10,x11,x12,x13,x14,x15,x16=>
    bif (decide (x1<x0)) then
      (idx x11 x1).bind fun _=>
      (if x12≤(Int.toNat x1) then x11[(Int.toNat x1)]? else none).bind fun y2=>
      (dF_ k y2).bind fun r3=>
      (idx x11 x1).bind fun _=>
      (if x12=(Int.toNat x1) then x11[(Int.toNat x1)]? else none).bind fun y4=>
      cq_ k x0 (IntKind.wrap .i64 (x1+1)) x2 x3 x4 x5 x6 x7 x8 x9 x10 (x11.set (Int.toNat x1) r3) (x12+1) x13 x14 x15 x16
    else
      (app 40 ([]:List ac_) x4).bind fun l5=>
      (app 40 ([]:List ab_) x6).bind fun l6=>
      (app 40 ([]:List ab_) x7).bind fun l7=>
      (if x12=x11.length then some () else none).bind fun _=>
      some (⟨x2,x3,x11,l5,x5,l6,l7⟩:ae_)
noncomputable def fW_ (k:Nat) (a0:ae_):Option (ae_):=
  (app 152 ([]:List ao_) a0.Ends).bind fun l1=>
  cq_ k (l1.length:Int) 0 a0.Key a0.Width a0.Flight a0.Forged a0.Given a0.Taken (⟨#[]⟩:ByteArray) 0 (⟨#[]⟩:ByteArray) l1 0 ([]:List ao_) ([]:List ac_) ([]:List ab_) ([]:List ab_)
noncomputable def bY_:Nat→Int→Int→List ao_→Option (Int×List ao_)
  | 0,_,_,_=>none
  | k+1,x0,x1,x2=>
    bif (decide (x1<(x2.length:Int))) then
      (idx x2 x1).bind fun _=>
      (x2[(Int.toNat x1)]?).bind fun y1=>
      (some (x2.set (Int.toNat x1) (⟨x0,y1.Up,y1.Life,y1.Peer,y1.Since,y1.Owes,y1.Send,y1.Take⟩:ao_))).bind fun w2=>
      (oK_ (IntKind.wrap .i64 (x0+1)) 3).bind fun q3=>
      (idx w2 x1).bind fun _=>
      (w2[(Int.toNat x1)]?).bind fun y4=>
      (some (w2.set (Int.toNat x1) (⟨y4.Number,(q3==0),y4.Life,y4.Peer,y4.Since,y4.Owes,y4.Send,y4.Take⟩:ao_))).bind fun w5=>
      (idx w5 x1).bind fun _=>
      (w5[(Int.toNat x1)]?).bind fun y6=>
      (some (w5.set (Int.toNat x1) (⟨y6.Number,y6.Up,(IntKind.wrap .i64 ((IntKind.wrap .i64 (x0+1))+1)),y6.Peer,y6.Since,y6.Owes,y6.Send,y6.Take⟩:ao_))).bind fun w7=>
      (idx w7 x1).bind fun _=>
      (w7[(Int.toNat x1)]?).bind fun y8=>
      (some (w7.set (Int.toNat x1) (⟨y8.Number,y8.Up,y8.Life,(IntKind.wrap .i64 ((IntKind.wrap .i64 ((IntKind.wrap .i64 (x0+1))+1))+1)),y8.Since,y8.Owes,y8.Send,y8.Take⟩:ao_))).bind fun w9=>
      (idx w9 x1).bind fun _=>
      (w9[(Int.toNat x1)]?).bind fun y10=>
      (some (w9.set (Int.toNat x1) (⟨y10.Number,y10.Up,y10.Life,y10.Peer,(IntKind.wrap .i64 ((IntKind.wrap .i64 ((IntKind.wrap .i64 ((IntKind.wrap .i64 (x0+1))+1))+1))+1)),y10.Owes,y10.Send,y10.Take⟩:ao_))).bind fun w11=>
      (oK_ (IntKind.wrap .i64 ((IntKind.wrap .i64 ((IntKind.wrap .i64 ((IntKind.wrap .i64 ((IntKind.wrap .i64 (x0+1))+1))+1))+1))+1)) 3).bind fun q12=>
      (idx w11 x1).bind fun _=>
      (w11[(Int.toNat x1)]?).bind fun y13=>
      (some (w11.set (Int.toNat x1) (⟨y13.Number,y13.Up,y13.Life,y13.Peer,y13.Since,(q12==0),y13.Send,y13.Take⟩:ao_))).bind fun w14=>
      (idx w14 x1).bind fun _=>
      (w14[(Int.toNat x1)]?).bind fun y15=>
      (some (w14.set (Int.toNat x1) (⟨y15.Number,y15.Up,y15.Life,y15.Peer,y15.Since,y15.Owes,(⟨(IntKind.wrap .i64 ((IntKind.wrap .i64 ((IntKind.wrap .i64 ((IntKind.wrap .i64 ((IntKind.wrap .i64 ((IntKind.wrap .i64 (x0+1))+1))+1))+1))+1))+1)),y15.Send.Items⟩:am_),y15.Take⟩:ao_))).bind fun w16=>
      (idx w16 x1).bind fun _=>
      (w16[(Int.toNat x1)]?).bind fun y17=>
      (ft_ k y17.Send.Items (IntKind.wrap .i64 ((IntKind.wrap .i64 ((IntKind.wrap .i64 ((IntKind.wrap .i64 ((IntKind.wrap .i64 ((IntKind.wrap .i64 ((IntKind.wrap .i64 (x0+1))+1))+1))+1))+1))+1))+1))).bind fun r18=>
      (w16[(Int.toNat x1)]?).bind fun y19=>
      (some (w16.set (Int.toNat x1) (⟨y19.Number,y19.Up,y19.Life,y19.Peer,y19.Since,y19.Owes,(⟨y19.Send.Base,r18.2⟩:am_),y19.Take⟩:ao_))).bind fun w20=>
      (idx w20 x1).bind fun _=>
      (w20[(Int.toNat x1)]?).bind fun y21=>
      (some (w20.set (Int.toNat x1) (⟨y21.Number,y21.Up,y21.Life,y21.Peer,y21.Since,y21.Owes,y21.Send,(⟨r18.1,y21.Take.Held,y21.Take.Open,y21.Take.Ready⟩:al_)⟩:ao_))).bind fun w22=>
      (idx w22 x1).bind fun _=>
      (w22[(Int.toNat x1)]?).bind fun y23=>
      (fq_ k y23.Take.Held (IntKind.wrap .i64 (r18.1+1))).bind fun r24=>
      (w22[(Int.toNat x1)]?).bind fun y25=>
      (some (w22.set (Int.toNat x1) (⟨y25.Number,y25.Up,y25.Life,y25.Peer,y25.Since,y25.Owes,y25.Send,(⟨y25.Take.Next,r24.2,y25.Take.Open,y25.Take.Ready⟩:al_)⟩:ao_))).bind fun w26=>
      (aB_ k r24.1).bind fun r27=>
      (idx w26 x1).bind fun _=>
      (w26[(Int.toNat x1)]?).bind fun y28=>
      (some (w26.set (Int.toNat x1) (⟨y28.Number,y28.Up,y28.Life,y28.Peer,y28.Since,y28.Owes,y28.Send,(⟨y28.Take.Next,y28.Take.Held,r27,y28.Take.Ready⟩:al_)⟩:ao_))).bind fun w29=>
      (idx w29 x1).bind fun _=>
      (w29[(Int.toNat x1)]?).bind fun y30=>
      (et_ k y30.Take.Ready (IntKind.wrap .i64 (r24.1+1))).bind fun r31=>
      (w29[(Int.toNat x1)]?).bind fun y32=>
      (some (w29.set (Int.toNat x1) (⟨y32.Number,y32.Up,y32.Life,y32.Peer,y32.Since,y32.Owes,y32.Send,(⟨y32.Take.Next,y32.Take.Held,y32.Take.Open,r31.2⟩:al_)⟩:ao_))).bind fun w33=>
      bY_ k r31.1 (IntKind.wrap .i64 (x1+1)) w33
    else
      some (x0,x2)
noncomputable def gi_ (k:Nat) (a0:List ao_) (a1:Int):Option (Int×List ao_):=
  bY_ k a1 0 a0
noncomputable def eb_ (k:Nat) (a0:ae_) (a1:Int):Option (Int×List ao_×List ac_×List ab_×List ab_):=
  (gi_ k a0.Ends a1).bind fun r1=>
  (ex_ k a0.Flight r1.1).bind fun r2=>
  (di_ k a0.Given r2.1).bind fun r3=>
  (di_ k a0.Taken r3.1).bind fun r4=>
  some (r4.1,r1.2,r2.2,r3.2,r4.2)
end Km.X
namespace Km.X
open Go Km
set_option linter.unusedVariables false
set_option maxRecDepth 100000
end Km.X
namespace Km.X
open Go Km
set_option linter.unusedVariables false
set_option maxRecDepth 100000
end Km.X
namespace Km.X
open Go Km
set_option linter.unusedVariables false
set_option maxRecDepth 100000
noncomputable def fP_ (k:Nat) (a0:ae_) (a1:Int) (a2:Int):Option (Bool):=
  (gO_ k a0 1048576).bind fun r1=>
  bif (decide (r1<0)) then
    some true
  else
    (dJ_ k a0).bind fun r2=>
    (mn_ k r2 a1 a2).bind fun r3=>
    (dJ_ k a0).bind fun r4=>
    (jo_ k r4 a1 a2).bind fun r5=>
    (dR_ k r5 r3).bind fun r6=>
    bif (!r6) then
      some false
    else
      (dJ_ k a0).bind fun r7=>
      (dR_ k r4 r7).bind fun r8=>
      bif (!r8) then
        some false
      else
        (eb_ k r4 1).bind fun r9=>
        bif (decide (r9.1<0)) then
          some false
        else
          (dR_ k r5 r3).bind fun r10=>
          bif (!r10) then
            some false
          else
            (eb_ k r5 1).bind fun r11=>
            (ea_ k (⟨r5.Key,r5.Width,r11.2.1,r11.2.2.1,r5.Forged,r11.2.2.2.1,r11.2.2.2.2⟩:ae_) 1).bind fun r12=>
            bif (decide (r12<0)) then
              some false
            else
              bif (r12 !=r11.1) then
                some false
              else
                (dJ_ k a0).bind fun r13=>
                (jo_ k r13 a1 a2).bind fun r14=>
                (dR_ k r14 r3).bind fun r15=>
                bif (!r15) then
                  some false
                else
                  (ea_ k (⟨r5.Key,r5.Width,r11.2.1,r11.2.2.1,r5.Forged,r11.2.2.2.1,r11.2.2.2.2⟩:ae_) 1).bind fun r16=>
                  bif (decide (r16<0)) then
                    some false
                  else
                    bif (r16 !=r11.1) then
                      some false
                    else
                      some true
end Km.X
namespace Km.X
open Go Km
set_option linter.unusedVariables false
theorem iT_:∀(k:Nat) (x0 x1:Int) (x2:ByteArray) (x3:Int) (x4:List ac_) (x5:ByteArray) (x6 x7:List ab_) (x8:ByteArray) (x9:Int) (x10:ByteArray) (x11:List ao_) (x12:Nat) (x13:List ao_) (x14:List ac_) (x15 x16:List ab_),
    x0=(x11.length:Int)→x1=(x12:Int)→x12≤x11.length→x11.length<9223372036854775807→
    cq_ k x0 x1 x2 x3 x4 x5 x6 x7 x8 x9 x10 x11 x12 x13 x14 x15 x16=bI_ k x0 x1 x2 x3 x4 x5 x6 x7 x8 x9 x10 x11 x13 x14 x15 x16
  | 0,_,_,_,_,_,_,_,_,_,_,_,_,_,_,_,_,_,_,_,_,_=>rfl
  | k+1,x0,x1,x2,x3,x4,x5,x6,x7,x8,x9,x10,x11,x12,x13,x14,x15,x16,h0,h1,h2,h3=>by
    subst h0;subst h1
    have e:Int.toNat (x12:Int)=x12:=Int.toNat_natCast _
    simp only [cq_,bI_,e,Nat.le_refl,if_true]
    cases hc:decide ((x12:Int)<(x11.length:Int)) with
    | true=>
      have hlt:x12<x11.length:=by have:=of_decide_eq_true hc;omega
      have ew:IntKind.wrap .i64 ((x12:Int)+1)=((x12+1:Nat):Int):=by
        have e1:(2:Int)^IntKind.i64.bits=18446744073709551616:=by decide
        have e2:(2:Int)^(IntKind.i64.bits-1)=9223372036854775808:=by decide
        have e3:((x12:Int)+1)%18446744073709551616=(x12:Int)+1:=by omega
        unfold IntKind.wrap
        simp only [e1,e2,e3]
        rw [if_neg (by simp;omega)];omega
      simp only [cond_true]
      congr 1;funext _
      congr 1;funext y2
      congr 1;funext r3
      congr 1;funext _
      congr 1;funext y4
      rw [ew]
      exact iT_ k _ _ _ _ _ _ _ _ _ _ _ _ _ _ _ _ _ (by simp) rfl (by simp;omega) (by simpa using h3)
    | false=>
      have hge:x12=x11.length:=by have:=of_decide_eq_false hc;omega
      simp only [cond_false,hge,if_true,Option.bind_some]
theorem kQ_: @fW_= @do_:=by
  funext k a0
  unfold fW_ do_
  cases h:app 152 ([]:List ao_) a0.Ends with
  | none=>rfl
  | some l1=>
    simp only [Option.bind_some]
    have hb:l1.length*152≤140737488355328:=by
      unfold app at h
      split at h
      ·rename_i hle;cases h;simpa using hle
      ·cases h
    exact iT_ k _ _ _ _ _ _ _ _ _ _ _ _ _ _ _ _ _ rfl rfl (Nat.zero_le _) (by omega)
end Km.X
