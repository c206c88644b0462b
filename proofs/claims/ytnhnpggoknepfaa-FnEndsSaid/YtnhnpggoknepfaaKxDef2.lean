/- A part of the proof of FnEnds: the functions that it reads off the program. There is no condition. -/
import Derived.Test.YtnhnpggoknepfaaKxDef1
namespace Km.X
open Go Km
set_option linter.unusedVariables false
set_option maxRecDepth 100000
noncomputable def spec_NewWorld (k : Nat) (a0 : ByteArray) (a1 : Int) : Option (DWorld) :=
  (spec_l1In k a1 1 8).bind fun r1 =>
  bif (!r1) then
    some (⟨(⟨#[]⟩ : ByteArray), 0, ([] : List DEnd), ([] : List DParcel), (⟨#[]⟩ : ByteArray), ([] : List DRecord), ([] : List DRecord)⟩ : DWorld)
  else
    bif (decide ((a0.size : Int) > 30)) then
      some (⟨(⟨#[]⟩ : ByteArray), 0, ([] : List DEnd), ([] : List DParcel), (⟨#[]⟩ : ByteArray), ([] : List DRecord), ([] : List DRecord)⟩ : DWorld)
    else
      (spec_NewEnd k 1).bind fun r2 =>
      (spec_NewEnd k 2).bind fun r3 =>
      some (⟨a0, a1, ([r2, r3] : List DEnd), ([] : List DParcel), (⟨#[]⟩ : ByteArray), ([] : List DRecord), ([] : List DRecord)⟩ : DWorld)
noncomputable def spec_l7RecordsOk_l2 : Nat → List DRecord → Int → Option (Bool)
  | 0, _, _ => none
  | k + 1, x0, x1 =>
    bif (decide (x1 < (x0.length : Int))) then
      (idx x0 x1).bind fun y1 =>
      (spec_l1In k y1.From 1 2).bind fun r2 =>
      bif (!r2) then
        some false
      else
        (spec_l1In k y1.A 1 1000).bind fun r3 =>
        bif (!r3) then
          some false
        else
          (spec_l1In k y1.B 1 1000).bind fun r4 =>
          bif (!r4) then
            some false
          else
            bif (decide ((y1.Text.size : Int) > 200)) then
              some false
            else
              spec_l7RecordsOk_l2 k x0 (IntKind.wrap .i64 (x1 + 1))
    else
      some true
noncomputable def spec_l7RecordsOk (k : Nat) (a0 : List DRecord) : Option (Bool) :=
  spec_l7RecordsOk_l2 k a0 0
mutual
noncomputable def spec_ValidWorld_l4 : Nat → Int → ByteArray → Int → List DEnd → List DParcel → ByteArray → List DRecord → List DRecord → Option (Bool)
  | 0, _, _, _, _, _, _, _, _ => none
  | k + 1, x0, x1, x2, x3, x4, x5, x6, x7 =>
    bif (decide (x0 < 2)) then
      (idx x3 x0).bind fun y2 =>
      (spec_ValidEnd k y2).bind fun r3 =>
      bif (!r3) then
        some false
      else
        (idx x3 x0).bind fun y4 =>
        bif (y4.Number != (IntKind.wrap .i64 (x0 + 1))) then
          some false
        else
          spec_ValidWorld_l4 k (IntKind.wrap .i64 (x0 + 1)) x1 x2 x3 x4 x5 x6 x7
    else
      spec_ValidWorld_l9 k 0 x1 x2 x3 x4 x5 x6 x7
noncomputable def spec_ValidWorld_l9 : Nat → Int → ByteArray → Int → List DEnd → List DParcel → ByteArray → List DRecord → List DRecord → Option (Bool)
  | 0, _, _, _, _, _, _, _, _ => none
  | k + 1, x0, x1, x2, x3, x4, x5, x6, x7 =>
    bif (decide (x0 < (x4.length : Int))) then
      (idx x4 x0).bind fun y5 =>
      (spec_l1In k y5.To 1 2).bind fun r6 =>
      bif (!r6) then
        some false
      else
        bif (decide ((y5.Sent.size : Int) > 100)) then
          some false
        else
          bif (decide ((y5.Bytes.size : Int) > 100)) then
            some false
          else
            spec_ValidWorld_l9 k (IntKind.wrap .i64 (x0 + 1)) x1 x2 x3 x4 x5 x6 x7
    else
      (spec_l7RecordsOk k x6).bind fun r7 =>
      bif r7 then
        (spec_l7RecordsOk k x7).bind fun r8 =>
        some r8
      else
        some false
end
noncomputable def spec_ValidWorld (k : Nat) (a0 : DWorld) : Option (Bool) :=
  (spec_l1In k a0.Width 1 8).bind fun r1 =>
  bif (!r1) then
    some false
  else
    bif (decide ((a0.Key.size : Int) > 30)) then
      some false
    else
      bif ((a0.Ends.length : Int) != 2) then
        some false
      else
        bif (decide ((a0.Flight.length : Int) > 1000)) then
          some false
        else
          bif (decide ((IntKind.wrap .i64 ((a0.Given.length : Int) + (a0.Taken.length : Int))) > 400)) then
            some false
          else
            spec_ValidWorld_l4 k 0 a0.Key a0.Width a0.Ends a0.Flight a0.Forged a0.Given a0.Taken
noncomputable def spec_l7Copy_l4 : Nat → Int → ByteArray → Int → List DEnd → List DParcel → ByteArray → List DRecord → List DRecord → ByteArray → Int → ByteArray → ByteArray → Int → List DParcel → ByteArray → List DRecord → List DRecord → List DEnd → List DParcel → List DRecord → List DRecord → List DEnd → Option (DWorld)
  | 0, _, _, _, _, _, _, _, _, _, _, _, _, _, _, _, _, _, _, _, _, _, _ => none
  | k + 1, x0, x1, x2, x3, x4, x5, x6, x7, x8, x9, x10, x11, x12, x13, x14, x15, x16, x17, x18, x19, x20, x21 =>
    bif (decide (x0 < (x3.length : Int))) then
      (idx x3 x0).bind fun y1 =>
      (spec_l6Copy k y1).bind fun r2 =>
      (app 152 x21 ([r2] : List DEnd)).bind fun l3 =>
      spec_l7Copy_l4 k (IntKind.wrap .i64 (x0 + 1)) x1 x2 x3 x4 x5 x6 x7 x8 x9 x10 x11 x12 x13 x14 x15 x16 x17 x18 x19 x20 l3
    else
      (app 40 ([] : List DParcel) x4).bind fun l4 =>
      (app 40 ([] : List DRecord) x6).bind fun l5 =>
      (app 40 ([] : List DRecord) x7).bind fun l6 =>
      some (⟨x11, x12, x21, l4, x14, l5, l6⟩ : DWorld)
noncomputable def spec_l7Copy (k : Nat) (a0 : DWorld) : Option (DWorld) :=
  spec_l7Copy_l4 k 0 a0.Key a0.Width a0.Ends a0.Flight a0.Forged a0.Given a0.Taken (⟨#[]⟩ : ByteArray) 0 (⟨#[]⟩ : ByteArray) a0.Key a0.Width a0.Flight a0.Forged a0.Given a0.Taken ([] : List DEnd) ([] : List DParcel) ([] : List DRecord) ([] : List DRecord) ([] : List DEnd)
mutual
noncomputable def spec_l7Tick_l2 : Nat → Int → ByteArray → Int → ByteArray → ByteArray → Int → ByteArray → List DEnd → List DParcel → List DRecord → List DRecord → List DEnd → List DParcel → List DRecord → List DRecord → Option (DWorld)
  | 0, _, _, _, _, _, _, _, _, _, _, _, _, _, _, _ => none
  | k + 1, x0, x1, x2, x3, x4, x5, x6, x7, x8, x9, x10, x11, x12, x13, x14 =>
    bif (decide (x0 < 2)) then
      (idx x7 x0).bind fun _ =>
      (x7[(Int.toNat x0)]?).bind fun y1 =>
      (spec_EndTick k y1).bind fun r2 =>
      (idx x7 x0).bind fun _ =>
      (x7[(Int.toNat x0)]?).bind fun y3 =>
      spec_l7Tick_l7 k x0 0 x1 x2 x3 x4 x5 x6 r2.Code r2.End.Number r2.End.Up r2.End.Life r2.End.Peer r2.End.Since r2.End.Owes r2.End.Send.Base r2.End.Take.Next r2.End.Take.Open r2.Text (x7.set (Int.toNat x0) r2.End) x8 x9 x10 x11 x12 x13 x14 r2.Out
    else
      some (⟨x1, x2, x7, x8, x3, x9, x10⟩ : DWorld)
noncomputable def spec_l7Tick_l7 : Nat → Int → Int → ByteArray → Int → ByteArray → ByteArray → Int → ByteArray → Int → Int → Bool → Int → Int → Int → Bool → Int → Int → ByteArray → ByteArray → List DEnd → List DParcel → List DRecord → List DRecord → List DEnd → List DParcel → List DRecord → List DRecord → List DPacket → Option (DWorld)
  | 0, _, _, _, _, _, _, _, _, _, _, _, _, _, _, _, _, _, _, _, _, _, _, _, _, _, _, _, _ => none
  | k + 1, x0, x1, x2, x3, x4, x5, x6, x7, x8, x9, x10, x11, x12, x13, x14, x15, x16, x17, x18, x19, x20, x21, x22, x23, x24, x25, x26, x27 =>
    bif (decide (x1 < (x27.length : Int))) then
      bif (decide ((x20.length : Int) < 1000)) then
        (idx x27 x1).bind fun _ =>
        (x27[(Int.toNat x1)]?).bind fun y4 =>
        (spec_FormPacket k y4 x2 x3).bind fun r5 =>
        (app 40 x20 ([(⟨(IntKind.wrap .i64 (2 - x0)), r5, r5⟩ : DParcel)] : List DParcel)).bind fun l6 =>
        spec_l7Tick_l7 k x0 (IntKind.wrap .i64 (x1 + 1)) x2 x3 x4 x5 x6 x7 x8 x9 x10 x11 x12 x13 x14 x15 x16 x17 x18 x19 l6 x21 x22 x23 x24 x25 x26 x27
      else
        spec_l7Tick_l2 k (IntKind.wrap .i64 (x0 + 1)) x2 x3 x4 x5 x6 x7 x19 x20 x21 x22 x23 x24 x25 x26
    else
      spec_l7Tick_l2 k (IntKind.wrap .i64 (x0 + 1)) x2 x3 x4 x5 x6 x7 x19 x20 x21 x22 x23 x24 x25 x26
end
noncomputable def spec_l7Tick (k : Nat) (a0 : DWorld) : Option (DWorld) :=
  spec_l7Tick_l2 k 0 a0.Key a0.Width a0.Forged (⟨#[]⟩ : ByteArray) 0 (⟨#[]⟩ : ByteArray) a0.Ends a0.Flight a0.Given a0.Taken ([] : List DEnd) ([] : List DParcel) ([] : List DRecord) ([] : List DRecord)
noncomputable def spec_l7Without (k : Nat) (a0 : List DParcel) (a1 : Int) : Option (List DParcel) :=
  (wnd a0.length 0 a1).bind fun p1 =>
  (app 40 ([] : List DParcel) (dcut a0 p1.1 p1.2)).bind fun l2 =>
  (wnd a0.length (IntKind.wrap .i64 (a1 + 1)) (a0.length : Int)).bind fun p3 =>
  (app 40 l2 (dcut a0 p3.1 p3.2)).bind fun l4 =>
  some l4
noncomputable def spec_l7Bring_l8 : Nat → ByteArray → Int → ByteArray → ByteArray → Int → ByteArray → Int → ByteArray → ByteArray → Int → Int → Int → Int → Int → Int → Int → Bool → ByteArray → List DEnd → List DParcel → List DRecord → List DRecord → List DEnd → List DParcel → List DRecord → List DRecord → Option (DWorld)
  | 0, _, _, _, _, _, _, _, _, _, _, _, _, _, _, _, _, _, _, _, _, _, _, _, _, _, _ => none
  | k + 1, x0, x1, x2, x3, x4, x5, x6, x7, x8, x9, x10, x11, x12, x13, x14, x15, x16, x17, x18, x19, x20, x21, x22, x23, x24, x25 =>
    (idx x18 (IntKind.wrap .i64 (x6 - 1))).bind fun _ =>
    (x18[(Int.toNat (IntKind.wrap .i64 (x6 - 1)))]?).bind fun y4 =>
    (spec_EndTake k y4 (⟨x9, x10, x11, x12, x13, x14, x15, x16, x17⟩ : DPacket)).bind fun r5 =>
    (idx x18 (IntKind.wrap .i64 (x6 - 1))).bind fun _ =>
    (x18[(Int.toNat (IntKind.wrap .i64 (x6 - 1)))]?).bind fun y6 =>
    some (⟨x0, x1, (x18.set (Int.toNat (IntKind.wrap .i64 (x6 - 1))) r5.End), x19, x2, x20, x21⟩ : DWorld)
noncomputable def spec_l7Bring (k : Nat) (a0 : DWorld) (a1 : Int) : Option (DWorld) :=
  (idx a0.Flight a1).bind fun _ =>
  (a0.Flight[(Int.toNat a1)]?).bind fun y1 =>
  (spec_l7Without k a0.Flight a1).bind fun r2 =>
  (spec_ReadPacket k y1.Bytes a0.Key a0.Width).bind fun r3 =>
  bif (!r3.2) then
    some (⟨a0.Key, a0.Width, a0.Ends, r2, a0.Forged, a0.Given, a0.Taken⟩ : DWorld)
  else
    bif (!(y1.Bytes.toList == y1.Sent.toList)) then
      bif (a0.Forged.toList == (⟨#[]⟩ : ByteArray).toList) then
        spec_l7Bring_l8 k a0.Key a0.Width y1.Bytes (⟨#[]⟩ : ByteArray) 0 (⟨#[]⟩ : ByteArray) y1.To y1.Sent y1.Bytes r3.1.Kind r3.1.From r3.1.Mine r3.1.Yours r3.1.Next r3.1.Mask r3.1.Seq r3.1.Last r3.1.Part a0.Ends r2 a0.Given a0.Taken ([] : List DEnd) ([] : List DParcel) ([] : List DRecord) ([] : List DRecord)
      else
        spec_l7Bring_l8 k a0.Key a0.Width a0.Forged (⟨#[]⟩ : ByteArray) 0 (⟨#[]⟩ : ByteArray) y1.To y1.Sent y1.Bytes r3.1.Kind r3.1.From r3.1.Mine r3.1.Yours r3.1.Next r3.1.Mask r3.1.Seq r3.1.Last r3.1.Part a0.Ends r2 a0.Given a0.Taken ([] : List DEnd) ([] : List DParcel) ([] : List DRecord) ([] : List DRecord)
    else
      spec_l7Bring_l8 k a0.Key a0.Width a0.Forged (⟨#[]⟩ : ByteArray) 0 (⟨#[]⟩ : ByteArray) y1.To y1.Sent y1.Bytes r3.1.Kind r3.1.From r3.1.Mine r3.1.Yours r3.1.Next r3.1.Mask r3.1.Seq r3.1.Last r3.1.Part a0.Ends r2 a0.Given a0.Taken ([] : List DEnd) ([] : List DParcel) ([] : List DRecord) ([] : List DRecord)
mutual
noncomputable def spec_l7Parcel_l11 : Nat → ByteArray → Int → ByteArray → ByteArray → Int → ByteArray → List DEnd → List DParcel → List DRecord → List DRecord → List DEnd → List DParcel → List DRecord → List DRecord → Option (DWorld)
  | 0, _, _, _, _, _, _, _, _, _, _, _, _, _, _ => none
  | k + 1, x0, x1, x2, x3, x4, x5, x6, x7, x8, x9, x10, x11, x12, x13 =>
    some (⟨x0, x1, x6, x7, x2, x8, x9⟩ : DWorld)
noncomputable def spec_l7Parcel_l22 : Nat → ByteArray → Int → ByteArray → Int → Int → Int → Int → ByteArray → ByteArray → Int → ByteArray → Int → ByteArray → ByteArray → List DEnd → List DParcel → List DRecord → List DRecord → List DEnd → List DParcel → List DRecord → List DRecord → Option (DWorld)
  | 0, _, _, _, _, _, _, _, _, _, _, _, _, _, _, _, _, _, _, _, _, _, _ => none
  | k + 1, x0, x1, x2, x3, x4, x5, x6, x7, x8, x9, x10, x11, x12, x13, x14, x15, x16, x17, x18, x19, x20, x21 =>
    (idx x15 x4).bind fun _ =>
    (x15[(Int.toNat x4)]?).bind fun y9 =>
    some (⟨x0, x1, x14, (x15.set (Int.toNat x4) (⟨x11, x12, x13⟩ : DParcel)), x2, x16, x17⟩ : DWorld)
end
noncomputable def spec_l7Parcel (k : Nat) (a0 : DWorld) (a1 : DEvent) : Option (DWorld) :=
  (idx a0.Flight a1.A).bind fun _ =>
  (a0.Flight[(Int.toNat a1.A)]?).bind fun y1 =>
  bif (a1.Kind == 2) then
    (spec_l7Bring k a0 a1.A).bind fun r2 =>
    some r2
  else
    bif (a1.Kind == 4) then
      (spec_l7Without k a0.Flight a1.A).bind fun r3 =>
      some (⟨a0.Key, a0.Width, a0.Ends, r3, a0.Forged, a0.Given, a0.Taken⟩ : DWorld)
    else
      bif (a1.Kind == 3) then
        bif (decide ((a0.Flight.length : Int) < 1000)) then
          (app 40 a0.Flight ([y1] : List DParcel)).bind fun l4 =>
          spec_l7Parcel_l11 k a0.Key a0.Width a0.Forged (⟨#[]⟩ : ByteArray) 0 (⟨#[]⟩ : ByteArray) a0.Ends l4 a0.Given a0.Taken ([] : List DEnd) ([] : List DParcel) ([] : List DRecord) ([] : List DRecord)
        else
          spec_l7Parcel_l11 k a0.Key a0.Width a0.Forged (⟨#[]⟩ : ByteArray) 0 (⟨#[]⟩ : ByteArray) a0.Ends a0.Flight a0.Given a0.Taken ([] : List DEnd) ([] : List DParcel) ([] : List DRecord) ([] : List DRecord)
      else
        bif (a1.Kind == 5) then
          bif (decide (a1.B ≥ 0)) then
            bif (decide (a1.B < (y1.Bytes.size : Int))) then
              bif (decide (a1.C ≥ 0)) then
                (idx (bytesOf y1.Bytes) a1.B).bind fun _ =>
                ((bytesOf y1.Bytes)[(Int.toNat a1.B)]?).bind fun y5 =>
                (qrem a1.C 256).bind fun q6 =>
                (idx (bytesOf y1.Bytes) a1.B).bind fun _ =>
                ((bytesOf y1.Bytes)[(Int.toNat a1.B)]?).bind fun y7 =>
                spec_l7Parcel_l22 k a0.Key a0.Width a0.Forged a1.Kind a1.A a1.B a1.C a1.Text (⟨#[]⟩ : ByteArray) 0 (⟨#[]⟩ : ByteArray) y1.To y1.Sent (bstr ((bytesOf y1.Bytes).set (Int.toNat a1.B) (bitsXor .u8 y5 (IntKind.wrap .u8 q6)))) a0.Ends a0.Flight a0.Given a0.Taken ([] : List DEnd) ([] : List DParcel) ([] : List DRecord) ([] : List DRecord)
              else
                spec_l7Parcel_l22 k a0.Key a0.Width a0.Forged a1.Kind a1.A a1.B a1.C a1.Text (⟨#[]⟩ : ByteArray) 0 (⟨#[]⟩ : ByteArray) y1.To y1.Sent y1.Bytes a0.Ends a0.Flight a0.Given a0.Taken ([] : List DEnd) ([] : List DParcel) ([] : List DRecord) ([] : List DRecord)
            else
              spec_l7Parcel_l22 k a0.Key a0.Width a0.Forged a1.Kind a1.A a1.B a1.C a1.Text (⟨#[]⟩ : ByteArray) 0 (⟨#[]⟩ : ByteArray) y1.To y1.Sent y1.Bytes a0.Ends a0.Flight a0.Given a0.Taken ([] : List DEnd) ([] : List DParcel) ([] : List DRecord) ([] : List DRecord)
          else
            spec_l7Parcel_l22 k a0.Key a0.Width a0.Forged a1.Kind a1.A a1.B a1.C a1.Text (⟨#[]⟩ : ByteArray) 0 (⟨#[]⟩ : ByteArray) y1.To y1.Sent y1.Bytes a0.Ends a0.Flight a0.Given a0.Taken ([] : List DEnd) ([] : List DParcel) ([] : List DRecord) ([] : List DRecord)
        else
          bif (a1.Kind == 6) then
            bif (decide (a1.B ≥ 0)) then
              bif (decide (a1.B ≤ (y1.Bytes.size : Int))) then
                (wnd y1.Bytes.size 0 a1.B).bind fun p8 =>
                spec_l7Parcel_l22 k a0.Key a0.Width a0.Forged a1.Kind a1.A a1.B a1.C a1.Text (⟨#[]⟩ : ByteArray) 0 (⟨#[]⟩ : ByteArray) y1.To y1.Sent (y1.Bytes.extract p8.1 p8.2) a0.Ends a0.Flight a0.Given a0.Taken ([] : List DEnd) ([] : List DParcel) ([] : List DRecord) ([] : List DRecord)
              else
                spec_l7Parcel_l22 k a0.Key a0.Width a0.Forged a1.Kind a1.A a1.B a1.C a1.Text (⟨#[]⟩ : ByteArray) 0 (⟨#[]⟩ : ByteArray) y1.To y1.Sent y1.Bytes a0.Ends a0.Flight a0.Given a0.Taken ([] : List DEnd) ([] : List DParcel) ([] : List DRecord) ([] : List DRecord)
            else
              spec_l7Parcel_l22 k a0.Key a0.Width a0.Forged a1.Kind a1.A a1.B a1.C a1.Text (⟨#[]⟩ : ByteArray) 0 (⟨#[]⟩ : ByteArray) y1.To y1.Sent y1.Bytes a0.Ends a0.Flight a0.Given a0.Taken ([] : List DEnd) ([] : List DParcel) ([] : List DRecord) ([] : List DRecord)
          else
            bif (a1.Kind == 7) then
              spec_l7Parcel_l22 k a0.Key a0.Width a0.Forged a1.Kind a1.A a1.B a1.C a1.Text (⟨#[]⟩ : ByteArray) 0 (⟨#[]⟩ : ByteArray) (IntKind.wrap .i64 (3 - y1.To)) y1.Sent y1.Bytes a0.Ends a0.Flight a0.Given a0.Taken ([] : List DEnd) ([] : List DParcel) ([] : List DRecord) ([] : List DRecord)
            else
              spec_l7Parcel_l22 k a0.Key a0.Width a0.Forged a1.Kind a1.A a1.B a1.C a1.Text (⟨#[]⟩ : ByteArray) 0 (⟨#[]⟩ : ByteArray) y1.To y1.Sent y1.Bytes a0.Ends a0.Flight a0.Given a0.Taken ([] : List DEnd) ([] : List DParcel) ([] : List DRecord) ([] : List DRecord)
noncomputable def spec_l7End_l18 : Nat → ByteArray → Int → ByteArray → ByteArray → Int → ByteArray → List DEnd → List DParcel → List DRecord → List DRecord → List DEnd → List DParcel → List DRecord → List DRecord → Option (DWorld)
  | 0, _, _, _, _, _, _, _, _, _, _, _, _, _, _ => none
  | k + 1, x0, x1, x2, x3, x4, x5, x6, x7, x8, x9, x10, x11, x12, x13 =>
    some (⟨x0, x1, x6, x7, x2, x8, x9⟩ : DWorld)
noncomputable def spec_l7End (k : Nat) (a0 : DWorld) (a1 : DEvent) : Option (DWorld) :=
  (idx a0.Ends (IntKind.wrap .i64 (a1.A - 1))).bind fun _ =>
  (a0.Ends[(Int.toNat (IntKind.wrap .i64 (a1.A - 1)))]?).bind fun y1 =>
  bif (a1.Kind == 8) then
    (spec_EndFall k y1).bind fun r2 =>
    (idx a0.Ends (IntKind.wrap .i64 (a1.A - 1))).bind fun _ =>
    (a0.Ends[(Int.toNat (IntKind.wrap .i64 (a1.A - 1)))]?).bind fun y3 =>
    spec_l7End_l18 k a0.Key a0.Width a0.Forged (⟨#[]⟩ : ByteArray) 0 (⟨#[]⟩ : ByteArray) (a0.Ends.set (Int.toNat (IntKind.wrap .i64 (a1.A - 1))) r2) a0.Flight a0.Given a0.Taken ([] : List DEnd) ([] : List DParcel) ([] : List DRecord) ([] : List DRecord)
  else
    bif (a1.Kind == 9) then
      (spec_EndRise k y1).bind fun r4 =>
      (idx a0.Ends (IntKind.wrap .i64 (a1.A - 1))).bind fun _ =>
      (a0.Ends[(Int.toNat (IntKind.wrap .i64 (a1.A - 1)))]?).bind fun y5 =>
      spec_l7End_l18 k a0.Key a0.Width a0.Forged (⟨#[]⟩ : ByteArray) 0 (⟨#[]⟩ : ByteArray) (a0.Ends.set (Int.toNat (IntKind.wrap .i64 (a1.A - 1))) r4) a0.Flight a0.Given a0.Taken ([] : List DEnd) ([] : List DParcel) ([] : List DRecord) ([] : List DRecord)
    else
      bif (a1.Kind == 10) then
        (spec_EndPush k y1 a1.Text).bind fun r6 =>
        bif (r6.Code == 0) then
          bif (decide ((IntKind.wrap .i64 ((a0.Given.length : Int) + (a0.Taken.length : Int))) < 400)) then
            (idx a0.Ends (IntKind.wrap .i64 (a1.A - 1))).bind fun _ =>
            (a0.Ends[(Int.toNat (IntKind.wrap .i64 (a1.A - 1)))]?).bind fun y7 =>
            (app 40 a0.Given ([(⟨a1.A, y1.Life, y1.Peer, a1.Text⟩ : DRecord)] : List DRecord)).bind fun l8 =>
            spec_l7End_l18 k a0.Key a0.Width a0.Forged (⟨#[]⟩ : ByteArray) 0 (⟨#[]⟩ : ByteArray) (a0.Ends.set (Int.toNat (IntKind.wrap .i64 (a1.A - 1))) r6.End) a0.Flight l8 a0.Taken ([] : List DEnd) ([] : List DParcel) ([] : List DRecord) ([] : List DRecord)
          else
            spec_l7End_l18 k a0.Key a0.Width a0.Forged (⟨#[]⟩ : ByteArray) 0 (⟨#[]⟩ : ByteArray) a0.Ends a0.Flight a0.Given a0.Taken ([] : List DEnd) ([] : List DParcel) ([] : List DRecord) ([] : List DRecord)
        else
          spec_l7End_l18 k a0.Key a0.Width a0.Forged (⟨#[]⟩ : ByteArray) 0 (⟨#[]⟩ : ByteArray) a0.Ends a0.Flight a0.Given a0.Taken ([] : List DEnd) ([] : List DParcel) ([] : List DRecord) ([] : List DRecord)
      else
        bif (a1.Kind == 11) then
          (spec_EndPull k y1).bind fun r9 =>
          bif (r9.Code == 0) then
            bif (decide ((IntKind.wrap .i64 ((a0.Given.length : Int) + (a0.Taken.length : Int))) < 400)) then
              (idx a0.Ends (IntKind.wrap .i64 (a1.A - 1))).bind fun _ =>
              (a0.Ends[(Int.toNat (IntKind.wrap .i64 (a1.A - 1)))]?).bind fun y10 =>
              (app 40 a0.Taken ([(⟨(IntKind.wrap .i64 (3 - a1.A)), y1.Peer, y1.Life, r9.Text⟩ : DRecord)] : List DRecord)).bind fun l11 =>
              spec_l7End_l18 k a0.Key a0.Width a0.Forged (⟨#[]⟩ : ByteArray) 0 (⟨#[]⟩ : ByteArray) (a0.Ends.set (Int.toNat (IntKind.wrap .i64 (a1.A - 1))) r9.End) a0.Flight a0.Given l11 ([] : List DEnd) ([] : List DParcel) ([] : List DRecord) ([] : List DRecord)
            else
              spec_l7End_l18 k a0.Key a0.Width a0.Forged (⟨#[]⟩ : ByteArray) 0 (⟨#[]⟩ : ByteArray) a0.Ends a0.Flight a0.Given a0.Taken ([] : List DEnd) ([] : List DParcel) ([] : List DRecord) ([] : List DRecord)
          else
            spec_l7End_l18 k a0.Key a0.Width a0.Forged (⟨#[]⟩ : ByteArray) 0 (⟨#[]⟩ : ByteArray) a0.Ends a0.Flight a0.Given a0.Taken ([] : List DEnd) ([] : List DParcel) ([] : List DRecord) ([] : List DRecord)
        else
          spec_l7End_l18 k a0.Key a0.Width a0.Forged (⟨#[]⟩ : ByteArray) 0 (⟨#[]⟩ : ByteArray) a0.Ends a0.Flight a0.Given a0.Taken ([] : List DEnd) ([] : List DParcel) ([] : List DRecord) ([] : List DRecord)
noncomputable def spec_l7Do (k : Nat) (a0 : DWorld) (a1 : DEvent) : Option (DWorld) :=
  bif (a1.Kind == 1) then
    (spec_l7Tick k a0).bind fun r1 =>
    some r1
  else
    (spec_l1In k a1.Kind 2 7).bind fun r2 =>
    bif r2 then
      (spec_l1In k a1.A 0 (IntKind.wrap .i64 ((a0.Flight.length : Int) - 1))).bind fun r3 =>
      bif r3 then
        (spec_l7Parcel k a0 a1).bind fun r4 =>
        some r4
      else
        (spec_l1In k a1.Kind 8 11).bind fun r5 =>
        bif r5 then
          (spec_l1In k a1.A 1 2).bind fun r6 =>
          bif r6 then
            (spec_l7End k a0 a1).bind fun r7 =>
            some r7
          else
            some a0
        else
          some a0
    else
      (spec_l1In k a1.Kind 8 11).bind fun r8 =>
      bif r8 then
        (spec_l1In k a1.A 1 2).bind fun r9 =>
        bif r9 then
          (spec_l7End k a0 a1).bind fun r10 =>
          some r10
        else
          some a0
      else
        some a0
noncomputable def spec_l7Passes_l2 : Nat → Int → Int → List DL7Count → Int → ByteArray → ByteArray → Option (List DL7Count × Bool)
  | 0, _, _, _, _, _, _ => none
  | k + 1, x0, x1, x2, x3, x4, x5 =>
    bif (decide (x1 < (x2.length : Int))) then
      (idx x2 x1).bind fun _ =>
      (x2[(Int.toNat x1)]?).bind fun y1 =>
      bif (y1.to == x3) then
        (idx x2 x1).bind fun _ =>
        (x2[(Int.toNat x1)]?).bind fun y2 =>
        bif (y2.bytes.toList == x5.toList) then
          (idx x2 x1).bind fun _ =>
          (x2[(Int.toNat x1)]?).bind fun y3 =>
          (idx x2 x1).bind fun _ =>
          (x2[(Int.toNat x1)]?).bind fun y4 =>
          (idx (x2.set (Int.toNat x1) (⟨y4.to, y4.bytes, (IntKind.wrap .i64 (y3.n + 1))⟩ : DL7Count)) x1).bind fun _ =>
          ((x2.set (Int.toNat x1) (⟨y4.to, y4.bytes, (IntKind.wrap .i64 (y3.n + 1))⟩ : DL7Count))[(Int.toNat x1)]?).bind fun y5 =>
          (qrem y5.n x0).bind fun q6 =>
          some ((x2.set (Int.toNat x1) (⟨y4.to, y4.bytes, (IntKind.wrap .i64 (y3.n + 1))⟩ : DL7Count)), (q6 == 0))
        else
          spec_l7Passes_l2 k x0 (IntKind.wrap .i64 (x1 + 1)) x2 x3 x4 x5
      else
        spec_l7Passes_l2 k x0 (IntKind.wrap .i64 (x1 + 1)) x2 x3 x4 x5
    else
      (app 32 x2 ([(⟨x3, x5, 1⟩ : DL7Count)] : List DL7Count)).bind fun l7 =>
      some (l7, (x0 == 1))
noncomputable def spec_l7Passes (k : Nat) (a0 : List DL7Count) (a1 : DParcel) (a2 : Int) : Option (List DL7Count × Bool) :=
  spec_l7Passes_l2 k a2 0 a0 a1.To a1.Sent a1.Bytes
mutual
noncomputable def spec_Calm_l6 : Nat → Int → Int → Int → ByteArray → Int → ByteArray → ByteArray → Int → ByteArray → List DL7Count → List DEnd → List DParcel → List DRecord → List DRecord → List DEnd → List DParcel → List DRecord → List DRecord → Option (DWorld)
  | 0, _, _, _, _, _, _, _, _, _, _, _, _, _, _, _, _, _, _ => none
  | k + 1, x0, x1, x2, x3, x4, x5, x6, x7, x8, x9, x10, x11, x12, x13, x14, x15, x16, x17 =>
    bif (decide (x2 < x0)) then
      bif (decide (x2 < 5000)) then
        (spec_l7Tick k (⟨x6, x7, x14, x15, x8, x16, x17⟩ : DWorld)).bind fun r4 =>
        spec_Calm_l9 k x0 x1 x2 x3 x4 x5 r4.Key r4.Width r4.Forged x9 x10 x11 x12 x13 r4.Ends r4.Flight r4.Given r4.Taken
      else
        (spec_l7Copy k (⟨x6, x7, x14, x15, x8, x16, x17⟩ : DWorld)).bind fun r5 =>
        some r5
    else
      (spec_l7Copy k (⟨x6, x7, x14, x15, x8, x16, x17⟩ : DWorld)).bind fun r6 =>
      some r6
noncomputable def spec_Calm_l9 : Nat → Int → Int → Int → ByteArray → Int → ByteArray → ByteArray → Int → ByteArray → List DL7Count → List DEnd → List DParcel → List DRecord → List DRecord → List DEnd → List DParcel → List DRecord → List DRecord → Option (DWorld)
  | 0, _, _, _, _, _, _, _, _, _, _, _, _, _, _, _, _, _, _ => none
  | k + 1, x0, x1, x2, x3, x4, x5, x6, x7, x8, x9, x10, x11, x12, x13, x14, x15, x16, x17 =>
    bif (decide ((x15.length : Int) > 0)) then
      (idx x15 0).bind fun _ =>
      (x15[(Int.toNat 0)]?).bind fun y7 =>
      (spec_l7Passes k x9 y7 x1).bind fun r8 =>
      bif r8.2 then
        (spec_l7Bring k (⟨x6, x7, x14, x15, x8, x16, x17⟩ : DWorld) 0).bind fun r9 =>
        spec_Calm_l9 k x0 x1 x2 x3 x4 x5 r9.Key r9.Width r9.Forged r8.1 x10 x11 x12 x13 r9.Ends r9.Flight r9.Given r9.Taken
      else
        (spec_l7Without k x15 0).bind fun r10 =>
        spec_Calm_l9 k x0 x1 x2 x3 x4 x5 x6 x7 x8 r8.1 x10 x11 x12 x13 x14 r10 x16 x17
    else
      spec_Calm_l16 k x0 x1 x2 1 x3 x4 x5 x6 x7 x8 x9 x10 x11 x12 x13 x14 x15 x16 x17
noncomputable def spec_Calm_l16 : Nat → Int → Int → Int → Int → ByteArray → Int → ByteArray → ByteArray → Int → ByteArray → List DL7Count → List DEnd → List DParcel → List DRecord → List DRecord → List DEnd → List DParcel → List DRecord → List DRecord → Option (DWorld)
  | 0, _, _, _, _, _, _, _, _, _, _, _, _, _, _, _, _, _, _, _ => none
  | k + 1, x0, x1, x2, x3, x4, x5, x6, x7, x8, x9, x10, x11, x12, x13, x14, x15, x16, x17, x18 =>
    bif (decide (x3 ≤ 2)) then
      spec_Calm_l19 k x0 x1 x2 x3 0 x4 x5 x6 x7 x8 x9 x10 x11 x12 x13 x14 x15 x16 x17 x18
    else
      spec_Calm_l6 k x0 x1 (IntKind.wrap .i64 (x2 + 1)) x4 x5 x6 x7 x8 x9 x10 x11 x12 x13 x14 x15 x16 x17 x18
noncomputable def spec_Calm_l19 : Nat → Int → Int → Int → Int → Int → ByteArray → Int → ByteArray → ByteArray → Int → ByteArray → List DL7Count → List DEnd → List DParcel → List DRecord → List DRecord → List DEnd → List DParcel → List DRecord → List DRecord → Option (DWorld)
  | 0, _, _, _, _, _, _, _, _, _, _, _, _, _, _, _, _, _, _, _, _ => none
  | k + 1, x0, x1, x2, x3, x4, x5, x6, x7, x8, x9, x10, x11, x12, x13, x14, x15, x16, x17, x18, x19 =>
    bif (decide (x4 < 4)) then
      (idx x16 (IntKind.wrap .i64 (x3 - 1))).bind fun _ =>
      (x16[(Int.toNat (IntKind.wrap .i64 (x3 - 1)))]?).bind fun y11 =>
      bif (decide ((y11.Take.Ready.length : Int) > 0)) then
        (spec_l7End k (⟨x8, x9, x16, x17, x10, x18, x19⟩ : DWorld) (⟨11, x3, 0, 0, (⟨#[]⟩ : ByteArray)⟩ : DEvent)).bind fun r12 =>
        spec_Calm_l19 k x0 x1 x2 x3 (IntKind.wrap .i64 (x4 + 1)) x5 x6 x7 r12.Key r12.Width r12.Forged x11 x12 x13 x14 x15 r12.Ends r12.Flight r12.Given r12.Taken
      else
        spec_Calm_l16 k x0 x1 x2 (IntKind.wrap .i64 (x3 + 1)) x5 x6 x7 x8 x9 x10 x11 x12 x13 x14 x15 x16 x17 x18 x19
    else
      spec_Calm_l16 k x0 x1 x2 (IntKind.wrap .i64 (x3 + 1)) x5 x6 x7 x8 x9 x10 x11 x12 x13 x14 x15 x16 x17 x18 x19
end
noncomputable def spec_Calm (k : Nat) (a0 : DWorld) (a1 : Int) (a2 : Int) : Option (DWorld) :=
  (spec_ValidWorld k a0).bind fun r1 =>
  bif (!r1) then
    some (⟨(⟨#[]⟩ : ByteArray), 0, ([] : List DEnd), ([] : List DParcel), (⟨#[]⟩ : ByteArray), ([] : List DRecord), ([] : List DRecord)⟩ : DWorld)
  else
    (spec_l1In k a2 1 10).bind fun r2 =>
    bif (!r2) then
      some (⟨(⟨#[]⟩ : ByteArray), 0, ([] : List DEnd), ([] : List DParcel), (⟨#[]⟩ : ByteArray), ([] : List DRecord), ([] : List DRecord)⟩ : DWorld)
    else
      (spec_l7Copy k a0).bind fun r3 =>
      spec_Calm_l6 k a1 a2 0 (⟨#[]⟩ : ByteArray) 0 (⟨#[]⟩ : ByteArray) r3.Key r3.Width r3.Forged ([] : List DL7Count) ([] : List DEnd) ([] : List DParcel) ([] : List DRecord) ([] : List DRecord) r3.Ends r3.Flight r3.Given r3.Taken
end Km.X
namespace Km.X
open Go Km
set_option linter.unusedVariables false
set_option maxRecDepth 100000
end Km.X
namespace Km.X
open Go Km
set_option linter.unusedVariables false
set_option maxRecDepth 100000
end Km.X
namespace Km.X
open Go Km
set_option linter.unusedVariables false
set_option maxRecDepth 100000
end Km.X
namespace Km.X
open Go Km
set_option linter.unusedVariables false
set_option maxRecDepth 100000
noncomputable def spec_l1Open_l3 : Nat → List Int → Option (DL1Rd)
  | 0, _ => none
  | k + 1, x0 =>
    some (⟨x0, 0⟩ : DL1Rd)
noncomputable def spec_l1Open (k : Nat) (a0 : List Int) : Option (DL1Rd) :=
  bif (decide ((a0.length : Int) > 2000)) then
    (wnd a0.length 0 2000).bind fun p1 =>
    spec_l1Open_l3 k (dcut a0 p1.1 p1.2)
  else
    spec_l1Open_l3 k a0
noncomputable def spec_l1Rd_pick (k : Nat) (a0 : DL1Rd) (a1 : Int) : Option (Int × DL1Rd) :=
  bif (decide (a1 < 1)) then
    some (0, (⟨a0.b, (IntKind.wrap .i64 (a0.p + 1))⟩ : DL1Rd))
  else
    bif ((a0.b.length : Int) == 0) then
      some (0, (⟨a0.b, (IntKind.wrap .i64 (a0.p + 1))⟩ : DL1Rd))
    else
      bif (decide ((IntKind.wrap .i64 ((IntKind.wrap .i64 (a0.p + 1)) - 1)) < (a0.b.length : Int))) then
        (idx a0.b (IntKind.wrap .i64 ((IntKind.wrap .i64 (a0.p + 1)) - 1))).bind fun y1 =>
        (qrem (IntKind.wrap .i64 y1) a1).bind fun q2 =>
        some (q2, (⟨a0.b, (IntKind.wrap .i64 (a0.p + 1))⟩ : DL1Rd))
      else
        (qrem (IntKind.wrap .i64 ((IntKind.wrap .i64 (a0.p + 1)) - 1)) (a0.b.length : Int)).bind fun q3 =>
        (idx a0.b q3).bind fun y4 =>
        (qrem (IntKind.wrap .i64 ((IntKind.wrap .i64 ((IntKind.wrap .i64 ((IntKind.wrap .i64 (a0.p + 1)) - 1)) * 7)) + 3)) (a0.b.length : Int)).bind fun q5 =>
        (idx a0.b q5).bind fun y6 =>
        (qdiv (IntKind.wrap .i64 ((IntKind.wrap .i64 (a0.p + 1)) - 1)) (a0.b.length : Int)).bind fun q7 =>
        (qdiv (IntKind.wrap .i64 ((IntKind.wrap .i64 ((IntKind.wrap .i64 ((IntKind.wrap .i64 ((IntKind.wrap .i64 y4) * 131)) + (IntKind.wrap .i64 ((IntKind.wrap .i64 y6) * 1117)))) + (IntKind.wrap .i64 ((IntKind.wrap .i64 ((IntKind.wrap .i64 (a0.p + 1)) - 1)) * 29)))) + (IntKind.wrap .i64 ((IntKind.wrap .i64 (q7)) * 53)))) 64).bind fun q8 =>
        (qrem (bitsXor .i64 (IntKind.wrap .i64 ((IntKind.wrap .i64 ((IntKind.wrap .i64 ((IntKind.wrap .i64 ((IntKind.wrap .i64 y4) * 131)) + (IntKind.wrap .i64 ((IntKind.wrap .i64 y6) * 1117)))) + (IntKind.wrap .i64 ((IntKind.wrap .i64 ((IntKind.wrap .i64 (a0.p + 1)) - 1)) * 29)))) + (IntKind.wrap .i64 ((IntKind.wrap .i64 (q7)) * 53)))) (IntKind.wrap .i64 (q8))) a1).bind fun q9 =>
        some (q9, (⟨a0.b, (IntKind.wrap .i64 (a0.p + 1))⟩ : DL1Rd))
mutual
noncomputable def spec_l1Many_l2 : Nat → ByteArray → Int → ByteArray → Option (ByteArray)
  | 0, _, _, _ => none
  | k + 1, x0, x1, x2 =>
    bif (decide (x1 > 0)) then
      (qrem x1 2).bind fun q1 =>
      bif (q1 == 1) then
        (sadd x2 x0).bind fun t2 =>
        spec_l1Many_l5 k x0 x1 t2
      else
        spec_l1Many_l5 k x0 x1 x2
    else
      some x2
noncomputable def spec_l1Many_l5 : Nat → ByteArray → Int → ByteArray → Option (ByteArray)
  | 0, _, _, _ => none
  | k + 1, x0, x1, x2 =>
    (sadd x0 x0).bind fun t3 =>
    (qdiv x1 2).bind fun q4 =>
    spec_l1Many_l2 k t3 (IntKind.wrap .i64 (q4)) x2
end
noncomputable def spec_l1Many (k : Nat) (a0 : ByteArray) (a1 : Int) : Option (ByteArray) :=
  spec_l1Many_l2 k a0 a1 (⟨#[]⟩ : ByteArray)
noncomputable def spec_l1Message_l12 : Nat → ByteArray → Int → List Int → Int → Option (ByteArray × DL1Rd)
  | 0, _, _, _, _ => none
  | k + 1, x0, x1, x2, x3 =>
    bif (decide (x1 > 0)) then
      (spec_l1Rd_pick k (⟨x2, x3⟩ : DL1Rd) 5).bind fun r10 =>
      (wnd (⟨#[97, 98, 99, 100, 32]⟩ : ByteArray).size r10.1 ((⟨#[97, 98, 99, 100, 32]⟩ : ByteArray).size : Int)).bind fun p11 =>
      (wnd ((⟨#[97, 98, 99, 100, 32]⟩ : ByteArray).extract p11.1 p11.2).size 0 1).bind fun p12 =>
      (sadd x0 (((⟨#[97, 98, 99, 100, 32]⟩ : ByteArray).extract p11.1 p11.2).extract p12.1 p12.2)).bind fun t13 =>
      spec_l1Message_l12 k t13 (IntKind.wrap .i64 (x1 - 1)) r10.2.b r10.2.p
    else
      some (x0, (⟨x2, x3⟩ : DL1Rd))
noncomputable def spec_l1Message (k : Nat) (a0 : DL1Rd) : Option (ByteArray × DL1Rd) :=
  (spec_l1Rd_pick k a0 8).bind fun r1 =>
  bif (r1.1 == 0) then
    some ((⟨#[]⟩ : ByteArray), r1.2)
  else
    bif (r1.1 == 1) then
      (spec_l1Rd_pick k r1.2 5).bind fun r2 =>
      (spec_l1Rd_pick k r2.2 3).bind fun r3 =>
      (spec_l1Rd_pick k r3.2 2).bind fun r4 =>
      (spec_l1Rd_pick k r4.2 2).bind fun r5 =>
      (spec_l1Many k (⟨#[109]⟩ : ByteArray) (IntKind.wrap .i64 ((IntKind.wrap .i64 ((IntKind.wrap .i64 (20 * r2.1)) + r3.1)) - (IntKind.wrap .i64 (r4.1 * r5.1))))).bind fun r6 =>
      some (r6, r5.2)
    else
      bif (r1.1 == 2) then
        (spec_l1Rd_pick k r1.2 19).bind fun r7 =>
        (spec_l1Many k (⟨#[48, 49, 50, 51, 52, 53, 54, 55, 56, 57]⟩ : ByteArray) (IntKind.wrap .i64 (1 + r7.1))).bind fun r8 =>
        some (r8, r7.2)
      else
        bif (r1.1 == 3) then
          some ((⟨#[0, 255]⟩ : ByteArray), r1.2)
        else
          (spec_l1Rd_pick k r1.2 30).bind fun r9 =>
          spec_l1Message_l12 k (⟨#[]⟩ : ByteArray) (IntKind.wrap .i64 (1 + r9.1)) r9.2.b r9.2.p
noncomputable def spec_l1Key (k : Nat) (a0 : DL1Rd) : Option (ByteArray × DL1Rd) :=
  (spec_l1Many k (⟨#[107]⟩ : ByteArray) 30).bind fun r1 =>
  (spec_l1Rd_pick k a0 4).bind fun r2 =>
  (idx ([(⟨#[107, 101, 121]⟩ : ByteArray), (⟨#[107]⟩ : ByteArray), (⟨#[]⟩ : ByteArray), r1] : List ByteArray) r2.1).bind fun _ =>
  (([(⟨#[107, 101, 121]⟩ : ByteArray), (⟨#[107]⟩ : ByteArray), (⟨#[]⟩ : ByteArray), r1] : List ByteArray)[(Int.toNat r2.1)]?).bind fun y3 =>
  some (y3, r2.2)
noncomputable def spec_l1Width (k : Nat) (a0 : DL1Rd) : Option (Int × DL1Rd) :=
  (spec_l1Rd_pick k a0 5).bind fun r1 =>
  (idx ([8, 8, 4, 2, 1] : List Int) r1.1).bind fun y2 =>
  some (y2, r1.2)
mutual
noncomputable def spec_l7Event_l5 : Nat → Int → Int → List Int → Int → Int → Int → Int → Int → ByteArray → Option (DEvent × DL1Rd)
  | 0, _, _, _, _, _, _, _, _, _ => none
  | k + 1, x0, x1, x2, x3, x4, x5, x6, x7, x8 =>
    (spec_l1Rd_pick k (⟨x2, x3⟩ : DL1Rd) 2).bind fun r5 =>
    bif (decide (x0 < 9)) then
      some ((⟨1, 0, 0, 0, (⟨#[]⟩ : ByteArray)⟩ : DEvent), r5.2)
    else
      bif (decide (x0 < 19)) then
        some ((⟨2, x1, 0, 0, (⟨#[]⟩ : ByteArray)⟩ : DEvent), r5.2)
      else
        bif (decide (x0 < 26)) then
          (spec_l1Message k r5.2).bind fun r6 =>
          some ((⟨10, (IntKind.wrap .i64 (1 + r5.1)), 0, 0, r6.1⟩ : DEvent), r6.2)
        else
          bif (decide (x0 < 30)) then
            some ((⟨11, (IntKind.wrap .i64 (1 + r5.1)), 0, 0, (⟨#[]⟩ : ByteArray)⟩ : DEvent), r5.2)
          else
            bif (x0 == 30) then
              spec_l7Event_l17 k x1 r5.2.b r5.2.p x4 x5 x6 x7 x8
            else
              bif (x0 == 31) then
                spec_l7Event_l17 k x1 r5.2.b r5.2.p x4 x5 x6 x7 x8
              else
                spec_l7Event_l18 k x1 (IntKind.wrap .i64 (1 + r5.1)) x0 r5.2.b r5.2.p x4 x5 x6 x7 x8
noncomputable def spec_l7Event_l17 : Nat → Int → List Int → Int → Int → Int → Int → Int → ByteArray → Option (DEvent × DL1Rd)
  | 0, _, _, _, _, _, _, _, _ => none
  | k + 1, x0, x1, x2, x3, x4, x5, x6, x7 =>
    some ((⟨3, x0, 0, 0, (⟨#[]⟩ : ByteArray)⟩ : DEvent), (⟨x1, x2⟩ : DL1Rd))
noncomputable def spec_l7Event_l18 : Nat → Int → Int → Int → List Int → Int → Int → Int → Int → Int → ByteArray → Option (DEvent × DL1Rd)
  | 0, _, _, _, _, _, _, _, _, _, _ => none
  | k + 1, x0, x1, x2, x3, x4, x5, x6, x7, x8, x9 =>
    bif (x2 == 32) then
      spec_l7Event_l20 k x0 x3 x4 x5 x6 x7 x8 x9
    else
      bif (x2 == 33) then
        spec_l7Event_l20 k x0 x3 x4 x5 x6 x7 x8 x9
      else
        spec_l7Event_l21 k x0 x1 x2 x3 x4 x5 x6 x7 x8 x9
noncomputable def spec_l7Event_l20 : Nat → Int → List Int → Int → Int → Int → Int → Int → ByteArray → Option (DEvent × DL1Rd)
  | 0, _, _, _, _, _, _, _, _ => none
  | k + 1, x0, x1, x2, x3, x4, x5, x6, x7 =>
    some ((⟨4, x0, 0, 0, (⟨#[]⟩ : ByteArray)⟩ : DEvent), (⟨x1, x2⟩ : DL1Rd))
noncomputable def spec_l7Event_l21 : Nat → Int → Int → Int → List Int → Int → Int → Int → Int → Int → ByteArray → Option (DEvent × DL1Rd)
  | 0, _, _, _, _, _, _, _, _, _, _ => none
  | k + 1, x0, x1, x2, x3, x4, x5, x6, x7, x8, x9 =>
    bif (x2 == 34) then
      (spec_l1Rd_pick k (⟨x3, x4⟩ : DL1Rd) 40).bind fun r7 =>
      (spec_l1Rd_pick k r7.2 300).bind fun r8 =>
      some ((⟨5, x0, r7.1, r8.1, (⟨#[]⟩ : ByteArray)⟩ : DEvent), r8.2)
    else
      bif (x2 == 35) then
        (spec_l1Rd_pick k (⟨x3, x4⟩ : DL1Rd) 40).bind fun r9 =>
        some ((⟨6, x0, r9.1, 0, (⟨#[]⟩ : ByteArray)⟩ : DEvent), r9.2)
      else
        bif (x2 == 36) then
          some ((⟨7, x0, 0, 0, (⟨#[]⟩ : ByteArray)⟩ : DEvent), (⟨x3, x4⟩ : DL1Rd))
        else
          bif (x2 == 37) then
            some ((⟨8, x1, 0, 0, (⟨#[]⟩ : ByteArray)⟩ : DEvent), (⟨x3, x4⟩ : DL1Rd))
          else
            some ((⟨9, x1, 0, 0, (⟨#[]⟩ : ByteArray)⟩ : DEvent), (⟨x3, x4⟩ : DL1Rd))
end
noncomputable def spec_l7Event (k : Nat) (a0 : DL1Rd) : Option (DEvent × DL1Rd) :=
  (spec_l1Rd_pick k a0 40).bind fun r1 =>
  (spec_l1Rd_pick k r1.2 24).bind fun r2 =>
  (spec_l1Rd_pick k r2.2 2).bind fun r3 =>
  bif (r3.1 == 0) then
    (spec_l1Rd_pick k r3.2 3).bind fun r4 =>
    spec_l7Event_l5 k r1.1 r4.1 r4.2.b r4.2.p 0 0 0 0 (⟨#[]⟩ : ByteArray)
  else
    spec_l7Event_l5 k r1.1 r2.1 r3.2.b r3.2.p 0 0 0 0 (⟨#[]⟩ : ByteArray)
mutual
noncomputable def spec_l4Draw_l3 : Nat → Int → List Int → Int → Int → Int → List DItem → List DItem → Option (DSend × DL1Rd)
  | 0, _, _, _, _, _, _, _ => none
  | k + 1, x0, x1, x2, x3, x4, x5, x6 =>
    bif (decide (x0 > 0)) then
      both (
        (spec_l1Message k (⟨x1, x2⟩ : DL1Rd)).bind fun r4 =>
        (spec_SendPush k (⟨x4, x6⟩ : DSend) r4.1).bind fun r5 =>
        bif (r5.2 == 0) then
          spec_l4Draw_l8 k x0 r4.2.b r4.2.p x3 r5.1.Base x5 r5.1.Items
        else
          spec_l4Draw_l8 k x0 r4.2.b r4.2.p x3 x4 x5 x6
      ) (
        both (
          (spec_l1Message k (⟨x1, x2⟩ : DL1Rd)).bind fun r6 =>
          (spec_SendPush k (⟨x4, x6⟩ : DSend) r6.1).bind fun r7 =>
          bif (r7.2 == 0) then
            spec_l4Draw_l8 k x0 r6.2.b r6.2.p x3 r7.1.Base x5 r7.1.Items
          else
            spec_l4Draw_l8 k x0 r6.2.b r6.2.p x3 x4 x5 x6
        ) (
          (spec_l1Message k (⟨x1, x2⟩ : DL1Rd)).bind fun r8 =>
          (spec_SendPush k (⟨x4, x6⟩ : DSend) r8.1).bind fun r9 =>
          bif (r9.2 == 0) then
            spec_l4Draw_l8 k x0 r8.2.b r8.2.p x3 r9.1.Base x5 r9.1.Items
          else
            spec_l4Draw_l8 k x0 r8.2.b r8.2.p x3 x4 x5 x6
        )
      )
    else
      (spec_l1Rd_pick k (⟨x1, x2⟩ : DL1Rd) 12).bind fun r10 =>
      bif (r10.1 == 0) then
        (spec_l1Rd_pick k r10.2 3).bind fun r11 =>
        spec_l4Draw_l16 k (IntKind.wrap .i64 (60 - r11.1)) r11.2.b r11.2.p x3 x4 x5 x6
      else
        spec_l4Draw_l18 k r10.2.b r10.2.p x3 x4 x5 x6
noncomputable def spec_l4Draw_l8 : Nat → Int → List Int → Int → Int → Int → List DItem → List DItem → Option (DSend × DL1Rd)
  | 0, _, _, _, _, _, _, _ => none
  | k + 1, x0, x1, x2, x3, x4, x5, x6 =>
    (spec_l1Rd_pick k (⟨x1, x2⟩ : DL1Rd) 6).bind fun r12 =>
    spec_l4Draw_l9 k x0 r12.1 r12.2.b r12.2.p x3 x4 x5 x6
noncomputable def spec_l4Draw_l16 : Nat → Int → List Int → Int → Int → Int → List DItem → List DItem → Option (DSend × DL1Rd)
  | 0, _, _, _, _, _, _, _ => none
  | k + 1, x0, x1, x2, x3, x4, x5, x6 =>
    bif (decide ((x6.length : Int) < x0)) then
      bif (decide ((IntKind.wrap .i64 (x4 + (x6.length : Int))) < 1000000)) then
        (app 40 x6 ([(⟨(⟨(⟨#[102]⟩ : ByteArray), true⟩ : DPart), false, (-1)⟩ : DItem)] : List DItem)).bind fun l13 =>
        spec_l4Draw_l16 k x0 x1 x2 x3 x4 x5 l13
      else
        spec_l4Draw_l18 k x1 x2 x3 x4 x5 x6
    else
      spec_l4Draw_l18 k x1 x2 x3 x4 x5 x6
noncomputable def spec_l4Draw_l18 : Nat → List Int → Int → Int → Int → List DItem → List DItem → Option (DSend × DL1Rd)
  | 0, _, _, _, _, _, _ => none
  | k + 1, x0, x1, x2, x3, x4, x5 =>
    (spec_l4Copy k (⟨x3, x5⟩ : DSend)).bind fun r14 =>
    some (r14, (⟨x0, x1⟩ : DL1Rd))
noncomputable def spec_l4Draw_l9 : Nat → Int → Int → List Int → Int → Int → Int → List DItem → List DItem → Option (DSend × DL1Rd)
  | 0, _, _, _, _, _, _, _, _ => none
  | k + 1, x0, x1, x2, x3, x4, x5, x6, x7 =>
    bif (decide (x1 > 0)) then
      (spec_SendTick k (⟨x5, x7⟩ : DSend)).bind fun r15 =>
      spec_l4Draw_l9 k x0 (IntKind.wrap .i64 (x1 - 1)) x2 x3 x4 r15.1.Base x6 r15.1.Items
    else
      (spec_l1Rd_pick k (⟨x2, x3⟩ : DL1Rd) 3).bind fun r16 =>
      bif (r16.1 == 0) then
        (spec_l1Rd_pick k r16.2 4).bind fun r17 =>
        (spec_l1Rd_pick k r17.2 256).bind fun r18 =>
        (spec_SendWord k (⟨x5, x7⟩ : DSend) (IntKind.wrap .i64 (x5 + r17.1)) r18.1).bind fun r19 =>
        spec_l4Draw_l4 k x0 r18.2.b r18.2.p x4 r19.Base x6 r19.Items
      else
        spec_l4Draw_l4 k x0 r16.2.b r16.2.p x4 x5 x6 x7
noncomputable def spec_l4Draw_l4 : Nat → Int → List Int → Int → Int → Int → List DItem → List DItem → Option (DSend × DL1Rd)
  | 0, _, _, _, _, _, _, _ => none
  | k + 1, x0, x1, x2, x3, x4, x5, x6 =>
    spec_l4Draw_l3 k (IntKind.wrap .i64 (x0 - 1)) x1 x2 x3 x4 x5 x6
end
noncomputable def spec_l4Draw (k : Nat) (a0 : DL1Rd) : Option (DSend × DL1Rd) :=
  (spec_l1Rd_pick k a0 5).bind fun r1 =>
  (idx ([0, 0, 3, 1000, 999940] : List Int) r1.1).bind fun y2 =>
  (spec_l1Rd_pick k r1.2 5).bind fun r3 =>
  spec_l4Draw_l3 k r3.1 r3.2.b r3.2.p 0 y2 ([] : List DItem) ([] : List DItem)
mutual
noncomputable def spec_l4Spoil_l4 : Nat → List Int → Int → Int → Int → List DItem → List DItem → Option (DSend × DL1Rd)
  | 0, _, _, _, _, _, _ => none
  | k + 1, x0, x1, x2, x3, x4, x5 =>
    (spec_l1Rd_pick k (⟨x0, x1⟩ : DL1Rd) (x5.length : Int)).bind fun r2 =>
    (spec_l1Rd_pick k r2.2 6).bind fun r3 =>
    bif (r3.1 == 0) then
      (spec_l1Rd_pick k r3.2 3).bind fun r4 =>
      (idx ([(-1), 1000000, 1000001] : List Int) r4.1).bind fun y5 =>
      spec_l4Spoil_l21 k r4.2.b r4.2.p x2 y5 x4 x5
    else
      bif (r3.1 == 1) then
        (spec_l1Rd_pick k r3.2 5).bind fun r6 =>
        (idx ([(-2), (-1), 0, 3, 4] : List Int) r6.1).bind fun y7 =>
        (idx x5 r2.1).bind fun _ =>
        (x5[(Int.toNat r2.1)]?).bind fun y8 =>
        spec_l4Spoil_l21 k r6.2.b r6.2.p x2 x3 x4 (x5.set (Int.toNat r2.1) (⟨y8.Part, y8.Has, y7⟩ : DItem))
      else
        bif (r3.1 == 2) then
          (idx x5 r2.1).bind fun _ =>
          (x5[(Int.toNat r2.1)]?).bind fun y9 =>
          (idx x5 r2.1).bind fun _ =>
          (x5[(Int.toNat r2.1)]?).bind fun y10 =>
          spec_l4Spoil_l21 k r3.2.b r3.2.p x2 x3 x4 (x5.set (Int.toNat r2.1) (⟨y10.Part, (!y9.Has), y10.Since⟩ : DItem))
        else
          bif (r3.1 == 3) then
            (spec_l1Rd_pick k r3.2 2).bind fun r11 =>
            (spec_l1Many k (⟨#[115]⟩ : ByteArray) (IntKind.wrap .i64 (20 + r11.1))).bind fun r12 =>
            (idx x5 r2.1).bind fun _ =>
            (x5[(Int.toNat r2.1)]?).bind fun y13 =>
            spec_l4Spoil_l21 k r11.2.b r11.2.p x2 x3 x4 (x5.set (Int.toNat r2.1) (⟨(⟨r12, y13.Part.Last⟩ : DPart), y13.Has, y13.Since⟩ : DItem))
          else
            bif (r3.1 == 4) then
              (spec_l1Rd_pick k r3.2 2).bind fun r14 =>
              spec_l4Spoil_l19 k (IntKind.wrap .i64 (60 + r14.1)) r14.2.b r14.2.p x2 x3 x4 x5
            else
              spec_l4Spoil_l6 k r3.2.b r3.2.p x2 x3 x4 x5
noncomputable def spec_l4Spoil_l21 : Nat → List Int → Int → Int → Int → List DItem → List DItem → Option (DSend × DL1Rd)
  | 0, _, _, _, _, _, _ => none
  | k + 1, x0, x1, x2, x3, x4, x5 =>
    some ((⟨x3, x5⟩ : DSend), (⟨x0, x1⟩ : DL1Rd))
noncomputable def spec_l4Spoil_l19 : Nat → Int → List Int → Int → Int → Int → List DItem → List DItem → Option (DSend × DL1Rd)
  | 0, _, _, _, _, _, _, _ => none
  | k + 1, x0, x1, x2, x3, x4, x5, x6 =>
    bif (decide ((x6.length : Int) < x0)) then
      (app 40 x6 ([(⟨(⟨(⟨#[]⟩ : ByteArray), false⟩ : DPart), false, (-1)⟩ : DItem)] : List DItem)).bind fun l15 =>
      spec_l4Spoil_l19 k x0 x1 x2 x3 x4 x5 l15
    else
      spec_l4Spoil_l21 k x1 x2 x3 x4 x5 x6
noncomputable def spec_l4Spoil_l6 : Nat → List Int → Int → Int → Int → List DItem → List DItem → Option (DSend × DL1Rd)
  | 0, _, _, _, _, _, _ => none
  | k + 1, x0, x1, x2, x3, x4, x5 =>
    bif (decide ((x5.length : Int) ≤ 8)) then
      (app 40 x5 ([(⟨(⟨(⟨#[]⟩ : ByteArray), false⟩ : DPart), false, (-1)⟩ : DItem)] : List DItem)).bind fun l16 =>
      spec_l4Spoil_l6 k x0 x1 x2 x3 x4 l16
    else
      (spec_l1Rd_pick k (⟨x0, x1⟩ : DL1Rd) 2).bind fun r17 =>
      (idx x5 8).bind fun _ =>
      (x5[(Int.toNat 8)]?).bind fun y18 =>
      spec_l4Spoil_l21 k r17.2.b r17.2.p x2 x3 x4 (x5.set (Int.toNat 8) (⟨y18.Part, y18.Has, (IntKind.wrap .i64 (r17.1 - 1))⟩ : DItem))
end
noncomputable def spec_l4Spoil (k : Nat) (a0 : DL1Rd) (a1 : DSend) : Option (DSend × DL1Rd) :=
  (spec_l4Copy k a1).bind fun r1 =>
  bif ((r1.Items.length : Int) == 0) then
    spec_l4Spoil_l4 k a0.b a0.p 0 r1.Base ([] : List DItem) ([(⟨(⟨(⟨#[]⟩ : ByteArray), false⟩ : DPart), false, (-1)⟩ : DItem)] : List DItem)
  else
    spec_l4Spoil_l4 k a0.b a0.p 0 r1.Base ([] : List DItem) r1.Items
noncomputable def spec_l4Any (k : Nat) (a0 : DL1Rd) : Option (DSend × DL1Rd) :=
  (spec_l4Draw k a0).bind fun r1 =>
  (spec_l1Rd_pick k r1.2 8).bind fun r2 =>
  bif (r2.1 == 0) then
    (spec_l4Spoil k r2.2 r1.1).bind fun r3 =>
    some (r3.1, r3.2)
  else
    some (r1.1, r2.2)
noncomputable def spec_l2Draw (k : Nat) (a0 : DL1Rd) : Option (DPacket × DL1Rd) :=
  both (
    (spec_l1Rd_pick k a0 2).bind fun r1 =>
    (spec_l1Rd_pick k r1.2 2).bind fun r2 =>
    (spec_l1Rd_pick k r2.2 5).bind fun r3 =>
    (idx ([1, 2, 3, 256, 1000] : List Int) r3.1).bind fun y4 =>
    (spec_l1Rd_pick k r3.2 5).bind fun r5 =>
    (idx ([0, 1, 2, 256, 1000] : List Int) r5.1).bind fun y6 =>
    bif ((IntKind.wrap .i64 (1 + r1.1)) == 1) then
      (spec_l1Rd_pick k r5.2 5).bind fun r7 =>
      (idx ([0, 1, 3, 65536, 1000000] : List Int) r7.1).bind fun y8 =>
      (spec_l1Rd_pick k r7.2 5).bind fun r9 =>
      (idx ([0, 1, 5, 255, 128] : List Int) r9.1).bind fun y10 =>
      some ((⟨(IntKind.wrap .i64 (1 + r1.1)), (IntKind.wrap .i64 (1 + r2.1)), y4, y6, y8, y10, 0, false, (⟨#[]⟩ : ByteArray)⟩ : DPacket), r9.2)
    else
      (spec_l1Rd_pick k r5.2 5).bind fun r11 =>
      (idx ([0, 1, 2, 65536, 999999] : List Int) r11.1).bind fun y12 =>
      (spec_l1Rd_pick k r11.2 2).bind fun r13 =>
      (spec_l1Rd_pick k r13.2 21).bind fun r14 =>
      (spec_l1Many k (⟨#[112]⟩ : ByteArray) r14.1).bind fun r15 =>
      some ((⟨(IntKind.wrap .i64 (1 + r1.1)), (IntKind.wrap .i64 (1 + r2.1)), y4, y6, 0, 0, y12, (r13.1 == 0), r15⟩ : DPacket), r14.2)
  ) (
    both (
      (spec_l1Rd_pick k a0 2).bind fun r16 =>
      (spec_l1Rd_pick k r16.2 2).bind fun r17 =>
      (spec_l1Rd_pick k r17.2 5).bind fun r18 =>
      (idx ([1, 2, 3, 256, 1000] : List Int) r18.1).bind fun y19 =>
      (spec_l1Rd_pick k r18.2 5).bind fun r20 =>
      (idx ([0, 1, 2, 256, 1000] : List Int) r20.1).bind fun y21 =>
      bif ((IntKind.wrap .i64 (1 + r16.1)) == 1) then
        (spec_l1Rd_pick k r20.2 5).bind fun r22 =>
        (idx ([0, 1, 3, 65536, 1000000] : List Int) r22.1).bind fun y23 =>
        (spec_l1Rd_pick k r22.2 5).bind fun r24 =>
        (idx ([0, 1, 5, 255, 128] : List Int) r24.1).bind fun y25 =>
        some ((⟨(IntKind.wrap .i64 (1 + r16.1)), (IntKind.wrap .i64 (1 + r17.1)), y19, y21, y23, y25, 0, false, (⟨#[]⟩ : ByteArray)⟩ : DPacket), r24.2)
      else
        (spec_l1Rd_pick k r20.2 5).bind fun r26 =>
        (idx ([0, 1, 2, 65536, 999999] : List Int) r26.1).bind fun y27 =>
        (spec_l1Rd_pick k r26.2 2).bind fun r28 =>
        (spec_l1Rd_pick k r28.2 21).bind fun r29 =>
        (spec_l1Many k (⟨#[112]⟩ : ByteArray) r29.1).bind fun r30 =>
        some ((⟨(IntKind.wrap .i64 (1 + r16.1)), (IntKind.wrap .i64 (1 + r17.1)), y19, y21, 0, 0, y27, (r28.1 == 0), r30⟩ : DPacket), r29.2)
    ) (
      both (
        (spec_l1Rd_pick k a0 2).bind fun r31 =>
        (spec_l1Rd_pick k r31.2 2).bind fun r32 =>
        (spec_l1Rd_pick k r32.2 5).bind fun r33 =>
        (idx ([1, 2, 3, 256, 1000] : List Int) r33.1).bind fun y34 =>
        (spec_l1Rd_pick k r33.2 5).bind fun r35 =>
        (idx ([0, 1, 2, 256, 1000] : List Int) r35.1).bind fun y36 =>
        bif ((IntKind.wrap .i64 (1 + r31.1)) == 1) then
          (spec_l1Rd_pick k r35.2 5).bind fun r37 =>
          (idx ([0, 1, 3, 65536, 1000000] : List Int) r37.1).bind fun y38 =>
          (spec_l1Rd_pick k r37.2 5).bind fun r39 =>
          (idx ([0, 1, 5, 255, 128] : List Int) r39.1).bind fun y40 =>
          some ((⟨(IntKind.wrap .i64 (1 + r31.1)), (IntKind.wrap .i64 (1 + r32.1)), y34, y36, y38, y40, 0, false, (⟨#[]⟩ : ByteArray)⟩ : DPacket), r39.2)
        else
          (spec_l1Rd_pick k r35.2 5).bind fun r41 =>
          (idx ([0, 1, 2, 65536, 999999] : List Int) r41.1).bind fun y42 =>
          (spec_l1Rd_pick k r41.2 2).bind fun r43 =>
          (spec_l1Rd_pick k r43.2 21).bind fun r44 =>
          (spec_l1Many k (⟨#[112]⟩ : ByteArray) r44.1).bind fun r45 =>
          some ((⟨(IntKind.wrap .i64 (1 + r31.1)), (IntKind.wrap .i64 (1 + r32.1)), y34, y36, 0, 0, y42, (r43.1 == 0), r45⟩ : DPacket), r44.2)
      ) (
        both (
          (spec_l1Rd_pick k a0 2).bind fun r46 =>
          (spec_l1Rd_pick k r46.2 2).bind fun r47 =>
          (spec_l1Rd_pick k r47.2 5).bind fun r48 =>
          (idx ([1, 2, 3, 256, 1000] : List Int) r48.1).bind fun y49 =>
          (spec_l1Rd_pick k r48.2 5).bind fun r50 =>
          (idx ([0, 1, 2, 256, 1000] : List Int) r50.1).bind fun y51 =>
          bif ((IntKind.wrap .i64 (1 + r46.1)) == 1) then
            (spec_l1Rd_pick k r50.2 5).bind fun r52 =>
            (idx ([0, 1, 3, 65536, 1000000] : List Int) r52.1).bind fun y53 =>
            (spec_l1Rd_pick k r52.2 5).bind fun r54 =>
            (idx ([0, 1, 5, 255, 128] : List Int) r54.1).bind fun y55 =>
            some ((⟨(IntKind.wrap .i64 (1 + r46.1)), (IntKind.wrap .i64 (1 + r47.1)), y49, y51, y53, y55, 0, false, (⟨#[]⟩ : ByteArray)⟩ : DPacket), r54.2)
          else
            (spec_l1Rd_pick k r50.2 5).bind fun r56 =>
            (idx ([0, 1, 2, 65536, 999999] : List Int) r56.1).bind fun y57 =>
            (spec_l1Rd_pick k r56.2 2).bind fun r58 =>
            (spec_l1Rd_pick k r58.2 21).bind fun r59 =>
            (spec_l1Many k (⟨#[112]⟩ : ByteArray) r59.1).bind fun r60 =>
            some ((⟨(IntKind.wrap .i64 (1 + r46.1)), (IntKind.wrap .i64 (1 + r47.1)), y49, y51, 0, 0, y57, (r58.1 == 0), r60⟩ : DPacket), r59.2)
        ) (
          (spec_l1Rd_pick k a0 2).bind fun r61 =>
          (spec_l1Rd_pick k r61.2 2).bind fun r62 =>
          (spec_l1Rd_pick k r62.2 5).bind fun r63 =>
          (idx ([1, 2, 3, 256, 1000] : List Int) r63.1).bind fun y64 =>
          (spec_l1Rd_pick k r63.2 5).bind fun r65 =>
          (idx ([0, 1, 2, 256, 1000] : List Int) r65.1).bind fun y66 =>
          bif ((IntKind.wrap .i64 (1 + r61.1)) == 1) then
            (spec_l1Rd_pick k r65.2 5).bind fun r67 =>
            (idx ([0, 1, 3, 65536, 1000000] : List Int) r67.1).bind fun y68 =>
            (spec_l1Rd_pick k r67.2 5).bind fun r69 =>
            (idx ([0, 1, 5, 255, 128] : List Int) r69.1).bind fun y70 =>
            some ((⟨(IntKind.wrap .i64 (1 + r61.1)), (IntKind.wrap .i64 (1 + r62.1)), y64, y66, y68, y70, 0, false, (⟨#[]⟩ : ByteArray)⟩ : DPacket), r69.2)
          else
            (spec_l1Rd_pick k r65.2 5).bind fun r71 =>
            (idx ([0, 1, 2, 65536, 999999] : List Int) r71.1).bind fun y72 =>
            (spec_l1Rd_pick k r71.2 2).bind fun r73 =>
            (spec_l1Rd_pick k r73.2 21).bind fun r74 =>
            (spec_l1Many k (⟨#[112]⟩ : ByteArray) r74.1).bind fun r75 =>
            some ((⟨(IntKind.wrap .i64 (1 + r61.1)), (IntKind.wrap .i64 (1 + r62.1)), y64, y66, 0, 0, y72, (r73.1 == 0), r75⟩ : DPacket), r74.2)
        )
      )
    )
  )
noncomputable def spec_l2Spoil_l21 : Nat → List Int → Int → Int → Int → Int → Int → Int → Int → Int → Bool → ByteArray → Int → Int → Int → Int → Int → Int → Int → Bool → ByteArray → Option (DPacket × DL1Rd)
  | 0, _, _, _, _, _, _, _, _, _, _, _, _, _, _, _, _, _, _, _, _ => none
  | k + 1, x0, x1, x2, x3, x4, x5, x6, x7, x8, x9, x10, x11, x12, x13, x14, x15, x16, x17, x18, x19 =>
    some ((⟨x2, x3, x4, x5, x6, x7, x8, x9, x10⟩ : DPacket), (⟨x0, x1⟩ : DL1Rd))
noncomputable def spec_l2Spoil (k : Nat) (a0 : DL1Rd) (a1 : DPacket) : Option (DPacket × DL1Rd) :=
  (spec_l1Rd_pick k a0 10).bind fun r1 =>
  bif (r1.1 == 0) then
    (spec_l1Rd_pick k r1.2 5).bind fun r2 =>
    spec_l2Spoil_l21 k r2.2.b r2.2.p (IntKind.wrap .i64 (r2.1 - 1)) a1.From a1.Mine a1.Yours a1.Next a1.Mask a1.Seq a1.Last a1.Part 0 0 0 0 0 0 0 false (⟨#[]⟩ : ByteArray)
  else
    bif (r1.1 == 1) then
      (spec_l1Rd_pick k r1.2 2).bind fun r3 =>
      (idx ([0, 3] : List Int) r3.1).bind fun y4 =>
      spec_l2Spoil_l21 k r3.2.b r3.2.p a1.Kind y4 a1.Mine a1.Yours a1.Next a1.Mask a1.Seq a1.Last a1.Part 0 0 0 0 0 0 0 false (⟨#[]⟩ : ByteArray)
    else
      bif (r1.1 == 2) then
        (spec_l1Rd_pick k r1.2 2).bind fun r5 =>
        (idx ([0, 1001] : List Int) r5.1).bind fun y6 =>
        spec_l2Spoil_l21 k r5.2.b r5.2.p a1.Kind a1.From y6 a1.Yours a1.Next a1.Mask a1.Seq a1.Last a1.Part 0 0 0 0 0 0 0 false (⟨#[]⟩ : ByteArray)
      else
        bif (r1.1 == 3) then
          (spec_l1Rd_pick k r1.2 2).bind fun r7 =>
          (idx ([(-1), 1001] : List Int) r7.1).bind fun y8 =>
          spec_l2Spoil_l21 k r7.2.b r7.2.p a1.Kind a1.From a1.Mine y8 a1.Next a1.Mask a1.Seq a1.Last a1.Part 0 0 0 0 0 0 0 false (⟨#[]⟩ : ByteArray)
        else
          bif (r1.1 == 4) then
            (spec_l1Rd_pick k r1.2 3).bind fun r9 =>
            (idx ([(-1), 1, 1000001] : List Int) r9.1).bind fun y10 =>
            spec_l2Spoil_l21 k r9.2.b r9.2.p a1.Kind a1.From a1.Mine a1.Yours y10 a1.Mask a1.Seq a1.Last a1.Part 0 0 0 0 0 0 0 false (⟨#[]⟩ : ByteArray)
          else
            bif (r1.1 == 5) then
              (spec_l1Rd_pick k r1.2 3).bind fun r11 =>
              (idx ([(-1), 1, 256] : List Int) r11.1).bind fun y12 =>
              spec_l2Spoil_l21 k r11.2.b r11.2.p a1.Kind a1.From a1.Mine a1.Yours a1.Next y12 a1.Seq a1.Last a1.Part 0 0 0 0 0 0 0 false (⟨#[]⟩ : ByteArray)
            else
              bif (r1.1 == 6) then
                (spec_l1Rd_pick k r1.2 3).bind fun r13 =>
                (idx ([(-1), 1, 1000000] : List Int) r13.1).bind fun y14 =>
                spec_l2Spoil_l21 k r13.2.b r13.2.p a1.Kind a1.From a1.Mine a1.Yours a1.Next a1.Mask y14 a1.Last a1.Part 0 0 0 0 0 0 0 false (⟨#[]⟩ : ByteArray)
              else
                bif (r1.1 == 7) then
                  spec_l2Spoil_l21 k r1.2.b r1.2.p a1.Kind a1.From a1.Mine a1.Yours a1.Next a1.Mask a1.Seq (!a1.Last) a1.Part 0 0 0 0 0 0 0 false (⟨#[]⟩ : ByteArray)
                else
                  bif (r1.1 == 8) then
                    (spec_l1Rd_pick k r1.2 2).bind fun r15 =>
                    (spec_l1Many k (⟨#[112]⟩ : ByteArray) (IntKind.wrap .i64 (20 + r15.1))).bind fun r16 =>
                    spec_l2Spoil_l21 k r15.2.b r15.2.p a1.Kind a1.From a1.Mine a1.Yours a1.Next a1.Mask a1.Seq a1.Last r16 0 0 0 0 0 0 0 false (⟨#[]⟩ : ByteArray)
                  else
                    spec_l2Spoil_l21 k r1.2.b r1.2.p a1.Kind a1.From a1.Mine a1.Yours a1.Next a1.Mask a1.Seq a1.Last (⟨#[120]⟩ : ByteArray) 0 0 0 0 0 0 0 false (⟨#[]⟩ : ByteArray)
mutual
noncomputable def spec_l7Reached_l4 : Nat → List Int → Int → ByteArray → Int → ByteArray → ByteArray → Int → ByteArray → List DEnd → List DParcel → List DRecord → List DRecord → List DEnd → List DParcel → List DRecord → List DRecord → Option (DWorld × DL1Rd)
  | 0, _, _, _, _, _, _, _, _, _, _, _, _, _, _, _, _ => none
  | k + 1, x0, x1, x2, x3, x4, x5, x6, x7, x8, x9, x10, x11, x12, x13, x14, x15 =>
    (spec_l1Rd_pick k (⟨x0, x1⟩ : DL1Rd) 50).bind fun r7 =>
    spec_l7Reached_l6 k r7.1 0 r7.2.b r7.2.p x2 x3 x4 x5 x6 x7 x8 x9 x10 x11 x12 x13 x14 x15
noncomputable def spec_l7Reached_l6 : Nat → Int → Int → List Int → Int → ByteArray → Int → ByteArray → ByteArray → Int → ByteArray → List DEnd → List DParcel → List DRecord → List DRecord → List DEnd → List DParcel → List DRecord → List DRecord → Option (DWorld × DL1Rd)
  | 0, _, _, _, _, _, _, _, _, _, _, _, _, _, _, _, _, _, _ => none
  | k + 1, x0, x1, x2, x3, x4, x5, x6, x7, x8, x9, x10, x11, x12, x13, x14, x15, x16, x17 =>
    bif (decide (x1 < x0)) then
      (spec_l7Event k (⟨x2, x3⟩ : DL1Rd)).bind fun r8 =>
      (spec_l7Do k (⟨x7, x8, x14, x15, x9, x16, x17⟩ : DWorld) r8.1).bind fun r9 =>
      (spec_l1Rd_pick k r8.2 5).bind fun r10 =>
      bif (r10.1 == 0) then
        (spec_l7Tick k r9).bind fun r11 =>
        (spec_l1Rd_pick k r10.2 6).bind fun r12 =>
        spec_l7Reached_l12 k x0 x1 r12.1 r12.2.b r12.2.p x4 x5 x6 r11.Key r11.Width r11.Forged x10 x11 x12 x13 r11.Ends r11.Flight r11.Given r11.Taken
      else
        spec_l7Reached_l15 k x0 x1 r10.2.b r10.2.p x4 x5 x6 r9.Key r9.Width r9.Forged x10 x11 x12 x13 r9.Ends r9.Flight r9.Given r9.Taken
    else
      (spec_l7Copy k (⟨x7, x8, x14, x15, x9, x16, x17⟩ : DWorld)).bind fun r13 =>
      some (r13, (⟨x2, x3⟩ : DL1Rd))
noncomputable def spec_l7Reached_l12 : Nat → Int → Int → Int → List Int → Int → ByteArray → Int → ByteArray → ByteArray → Int → ByteArray → List DEnd → List DParcel → List DRecord → List DRecord → List DEnd → List DParcel → List DRecord → List DRecord → Option (DWorld × DL1Rd)
  | 0, _, _, _, _, _, _, _, _, _, _, _, _, _, _, _, _, _, _, _ => none
  | k + 1, x0, x1, x2, x3, x4, x5, x6, x7, x8, x9, x10, x11, x12, x13, x14, x15, x16, x17, x18 =>
    bif (decide (x2 > 0)) then
      bif (decide ((x16.length : Int) > 0)) then
        (spec_l7Bring k (⟨x8, x9, x15, x16, x10, x17, x18⟩ : DWorld) 0).bind fun r14 =>
        spec_l7Reached_l12 k x0 x1 (IntKind.wrap .i64 (x2 - 1)) x3 x4 x5 x6 x7 r14.Key r14.Width r14.Forged x11 x12 x13 x14 r14.Ends r14.Flight r14.Given r14.Taken
      else
        spec_l7Reached_l15 k x0 x1 x3 x4 x5 x6 x7 x8 x9 x10 x11 x12 x13 x14 x15 x16 x17 x18
    else
      spec_l7Reached_l15 k x0 x1 x3 x4 x5 x6 x7 x8 x9 x10 x11 x12 x13 x14 x15 x16 x17 x18
noncomputable def spec_l7Reached_l15 : Nat → Int → Int → List Int → Int → ByteArray → Int → ByteArray → ByteArray → Int → ByteArray → List DEnd → List DParcel → List DRecord → List DRecord → List DEnd → List DParcel → List DRecord → List DRecord → Option (DWorld × DL1Rd)
  | 0, _, _, _, _, _, _, _, _, _, _, _, _, _, _, _, _, _, _ => none
  | k + 1, x0, x1, x2, x3, x4, x5, x6, x7, x8, x9, x10, x11, x12, x13, x14, x15, x16, x17 =>
    (spec_l1Rd_pick k (⟨x2, x3⟩ : DL1Rd) 16).bind fun r15 =>
    bif (r15.1 == 0) then
      (spec_l7Do k (⟨x7, x8, x14, x15, x9, x16, x17⟩ : DWorld) (⟨9, 1, 0, 0, (⟨#[]⟩ : ByteArray)⟩ : DEvent)).bind fun r16 =>
      (spec_l7Do k r16 (⟨9, 2, 0, 0, (⟨#[]⟩ : ByteArray)⟩ : DEvent)).bind fun r17 =>
      spec_l7Reached_l7 k x0 x1 r15.2.b r15.2.p x4 x5 x6 r17.Key r17.Width r17.Forged x10 x11 x12 x13 r17.Ends r17.Flight r17.Given r17.Taken
    else
      spec_l7Reached_l7 k x0 x1 r15.2.b r15.2.p x4 x5 x6 x7 x8 x9 x10 x11 x12 x13 x14 x15 x16 x17
noncomputable def spec_l7Reached_l7 : Nat → Int → Int → List Int → Int → ByteArray → Int → ByteArray → ByteArray → Int → ByteArray → List DEnd → List DParcel → List DRecord → List DRecord → List DEnd → List DParcel → List DRecord → List DRecord → Option (DWorld × DL1Rd)
  | 0, _, _, _, _, _, _, _, _, _, _, _, _, _, _, _, _, _, _ => none
  | k + 1, x0, x1, x2, x3, x4, x5, x6, x7, x8, x9, x10, x11, x12, x13, x14, x15, x16, x17 =>
    spec_l7Reached_l6 k x0 (IntKind.wrap .i64 (x1 + 1)) x2 x3 x4 x5 x6 x7 x8 x9 x10 x11 x12 x13 x14 x15 x16 x17
end
noncomputable def spec_l7Reached (k : Nat) (a0 : DL1Rd) : Option (DWorld × DL1Rd) :=
  (spec_l1Key k a0).bind fun r1 =>
  (spec_l1Width k r1.2).bind fun r2 =>
  (spec_NewWorld k r1.1 r2.1).bind fun r3 =>
  (spec_l1Rd_pick k r2.2 3).bind fun r4 =>
  bif (decide (r4.1 > 0)) then
    (spec_l1Rd_pick k r4.2 4).bind fun r5 =>
    (spec_Calm k r3 (IntKind.wrap .i64 (7 + r5.1)) 1).bind fun r6 =>
    spec_l7Reached_l4 k r5.2.b r5.2.p (⟨#[]⟩ : ByteArray) 0 (⟨#[]⟩ : ByteArray) r6.Key r6.Width r6.Forged ([] : List DEnd) ([] : List DParcel) ([] : List DRecord) ([] : List DRecord) r6.Ends r6.Flight r6.Given r6.Taken
  else
    spec_l7Reached_l4 k r4.2.b r4.2.p (⟨#[]⟩ : ByteArray) 0 (⟨#[]⟩ : ByteArray) r3.Key r3.Width r3.Forged ([] : List DEnd) ([] : List DParcel) ([] : List DRecord) ([] : List DRecord) r3.Ends r3.Flight r3.Given r3.Taken
mutual
noncomputable def spec_l5Draw_l3 : Nat → Int → List Int → Int → Int → ByteArray → Int → ByteArray → List DHeld → List ByteArray → List DHeld → List ByteArray → Option (DTake × DL1Rd)
  | 0, _, _, _, _, _, _, _, _, _, _, _ => none
  | k + 1, x0, x1, x2, x3, x4, x5, x6, x7, x8, x9, x10 =>
    bif (decide (x0 > 0)) then
      (spec_l1Rd_pick k (⟨x1, x2⟩ : DL1Rd) 8).bind fun r4 =>
      bif (r4.1 == 0) then
        (spec_TakePull k (⟨x5, x9, x6, x10⟩ : DTake)).bind fun r5 =>
        spec_l5Draw_l4 k x0 r4.2.b r4.2.p x3 x4 r5.1.Next r5.1.Open x7 x8 r5.1.Held r5.1.Ready
      else
        (spec_l1Rd_pick k r4.2 3).bind fun r6 =>
        bif (r6.1 == 0) then
          (spec_l1Rd_pick k r6.2 9).bind fun r7 =>
          spec_l5Draw_l9 k x0 (IntKind.wrap .i64 (x5 + r7.1)) r7.2.b r7.2.p x3 x4 x5 x6 x7 x8 x9 x10
        else
          spec_l5Draw_l9 k x0 x5 r6.2.b r6.2.p x3 x4 x5 x6 x7 x8 x9 x10
    else
      (spec_l5Copy k (⟨x5, x9, x6, x10⟩ : DTake)).bind fun r8 =>
      some (r8, (⟨x1, x2⟩ : DL1Rd))
noncomputable def spec_l5Draw_l4 : Nat → Int → List Int → Int → Int → ByteArray → Int → ByteArray → List DHeld → List ByteArray → List DHeld → List ByteArray → Option (DTake × DL1Rd)
  | 0, _, _, _, _, _, _, _, _, _, _, _ => none
  | k + 1, x0, x1, x2, x3, x4, x5, x6, x7, x8, x9, x10 =>
    spec_l5Draw_l3 k (IntKind.wrap .i64 (x0 - 1)) x1 x2 x3 x4 x5 x6 x7 x8 x9 x10
noncomputable def spec_l5Draw_l9 : Nat → Int → Int → List Int → Int → Int → ByteArray → Int → ByteArray → List DHeld → List ByteArray → List DHeld → List ByteArray → Option (DTake × DL1Rd)
  | 0, _, _, _, _, _, _, _, _, _, _, _, _ => none
  | k + 1, x0, x1, x2, x3, x4, x5, x6, x7, x8, x9, x10, x11 =>
    (spec_l1Rd_pick k (⟨x2, x3⟩ : DL1Rd) 3).bind fun r9 =>
    (idx ([1, 5, 20] : List Int) r9.1).bind fun y10 =>
    (spec_l1Many k (⟨#[116]⟩ : ByteArray) y10).bind fun r11 =>
    (spec_l1Rd_pick k r9.2 3).bind fun r12 =>
    (spec_TakePart k (⟨x6, x10, x7, x11⟩ : DTake) x1 (⟨r11, (r12.1 == 0)⟩ : DPart)).bind fun r13 =>
    spec_l5Draw_l4 k x0 r12.2.b r12.2.p x4 x5 r13.Next r13.Open x8 x9 r13.Held r13.Ready
end
noncomputable def spec_l5Draw (k : Nat) (a0 : DL1Rd) : Option (DTake × DL1Rd) :=
  (spec_l1Rd_pick k a0 4).bind fun r1 =>
  (idx ([0, 0, 5, 999996] : List Int) r1.1).bind fun y2 =>
  (spec_l1Rd_pick k r1.2 24).bind fun r3 =>
  spec_l5Draw_l3 k r3.1 r3.2.b r3.2.p 0 (⟨#[]⟩ : ByteArray) y2 (⟨#[]⟩ : ByteArray) ([] : List DHeld) ([] : List ByteArray) ([] : List DHeld) ([] : List ByteArray)
mutual
noncomputable def spec_l5Spoil_l20 : Nat → List Int → Int → Int → ByteArray → Int → ByteArray → List DHeld → List ByteArray → List DHeld → List ByteArray → Option (DTake × DL1Rd)
  | 0, _, _, _, _, _, _, _, _, _, _ => none
  | k + 1, x0, x1, x2, x3, x4, x5, x6, x7, x8, x9 =>
    some ((⟨x4, x8, x5, x9⟩ : DTake), (⟨x0, x1⟩ : DL1Rd))
noncomputable def spec_l5Spoil_l15 : Nat → Int → List Int → Int → Int → ByteArray → Int → ByteArray → List DHeld → List ByteArray → List DHeld → List ByteArray → Option (DTake × DL1Rd)
  | 0, _, _, _, _, _, _, _, _, _, _, _ => none
  | k + 1, x0, x1, x2, x3, x4, x5, x6, x7, x8, x9, x10 =>
    bif (decide ((x10.length : Int) < x0)) then
      (app 16 x10 ([(⟨#[]⟩ : ByteArray)] : List ByteArray)).bind fun l20 =>
      spec_l5Spoil_l15 k x0 x1 x2 x3 x4 x5 x6 x7 x8 x9 l20
    else
      spec_l5Spoil_l20 k x1 x2 x3 x4 x5 x6 x7 x8 x9 x10
end
noncomputable def spec_l5Spoil (k : Nat) (a0 : DL1Rd) (a1 : DTake) : Option (DTake × DL1Rd) :=
  (spec_l5Copy k a1).bind fun r1 =>
  (spec_l1Rd_pick k a0 7).bind fun r2 =>
  bif (r2.1 == 0) then
    both (
      (spec_l1Rd_pick k r2.2 4).bind fun r3 =>
      (idx ([(-1), 1000000, 1000001, (IntKind.wrap .i64 (r1.Next + 1))] : List Int) r3.1).bind fun _ =>
      (([(-1), 1000000, 1000001, (IntKind.wrap .i64 (r1.Next + 1))] : List Int)[(Int.toNat r3.1)]?).bind fun y4 =>
      spec_l5Spoil_l20 k r3.2.b r3.2.p 0 (⟨#[]⟩ : ByteArray) y4 r1.Open ([] : List DHeld) ([] : List ByteArray) r1.Held r1.Ready
    ) (
      (spec_l1Rd_pick k r2.2 4).bind fun r5 =>
      (idx ([(-1), 1000000, 1000001, (IntKind.wrap .i64 (r1.Next + 1))] : List Int) r5.1).bind fun _ =>
      (([(-1), 1000000, 1000001, (IntKind.wrap .i64 (r1.Next + 1))] : List Int)[(Int.toNat r5.1)]?).bind fun y6 =>
      spec_l5Spoil_l20 k r5.2.b r5.2.p 0 (⟨#[]⟩ : ByteArray) y6 r1.Open ([] : List DHeld) ([] : List ByteArray) r1.Held r1.Ready
    )
  else
    bif (r2.1 == 1) then
      (spec_l1Rd_pick k r2.2 10).bind fun r7 =>
      (app 32 r1.Held ([(⟨(IntKind.wrap .i64 (r1.Next + r7.1)), (⟨(⟨#[]⟩ : ByteArray), false⟩ : DPart)⟩ : DHeld)] : List DHeld)).bind fun l8 =>
      spec_l5Spoil_l20 k r7.2.b r7.2.p 0 (⟨#[]⟩ : ByteArray) r1.Next r1.Open ([] : List DHeld) ([] : List ByteArray) l8 r1.Ready
    else
      bif (r2.1 == 2) then
        (spec_l1Rd_pick k r2.2 2).bind fun r9 =>
        (spec_l1Many k (⟨#[111]⟩ : ByteArray) (IntKind.wrap .i64 (200 + r9.1))).bind fun r10 =>
        spec_l5Spoil_l20 k r9.2.b r9.2.p 0 (⟨#[]⟩ : ByteArray) r1.Next r10 ([] : List DHeld) ([] : List ByteArray) r1.Held r1.Ready
      else
        bif (r2.1 == 3) then
          (spec_l1Rd_pick k r2.2 2).bind fun r11 =>
          (spec_l1Many k (⟨#[114]⟩ : ByteArray) (IntKind.wrap .i64 (200 + r11.1))).bind fun r12 =>
          (app 16 r1.Ready ([r12] : List ByteArray)).bind fun l13 =>
          spec_l5Spoil_l20 k r11.2.b r11.2.p 0 (⟨#[]⟩ : ByteArray) r1.Next r1.Open ([] : List DHeld) ([] : List ByteArray) r1.Held l13
        else
          bif (r2.1 == 4) then
            (spec_l1Rd_pick k r2.2 2).bind fun r14 =>
            spec_l5Spoil_l15 k (IntKind.wrap .i64 (4 + r14.1)) r14.2.b r14.2.p 0 (⟨#[]⟩ : ByteArray) r1.Next r1.Open ([] : List DHeld) ([] : List ByteArray) r1.Held r1.Ready
          else
            bif (r2.1 == 5) then
              bif (decide ((r1.Held.length : Int) > 0)) then
                (spec_l1Rd_pick k r2.2 2).bind fun r15 =>
                (spec_l1Many k (⟨#[104]⟩ : ByteArray) (IntKind.wrap .i64 (20 + r15.1))).bind fun r16 =>
                (idx r1.Held 0).bind fun _ =>
                (r1.Held[(Int.toNat 0)]?).bind fun y17 =>
                spec_l5Spoil_l20 k r15.2.b r15.2.p 0 (⟨#[]⟩ : ByteArray) r1.Next r1.Open ([] : List DHeld) ([] : List ByteArray) (r1.Held.set (Int.toNat 0) (⟨y17.Seq, (⟨r16, y17.Part.Last⟩ : DPart)⟩ : DHeld)) r1.Ready
              else
                spec_l5Spoil_l20 k r2.2.b r2.2.p 0 (⟨#[]⟩ : ByteArray) r1.Next r1.Open ([] : List DHeld) ([] : List ByteArray) r1.Held r1.Ready
            else
              bif (decide ((r1.Held.length : Int) > 0)) then
                (idx r1.Held 0).bind fun _ =>
                (r1.Held[(Int.toNat 0)]?).bind fun y18 =>
                (app 32 r1.Held ([y18] : List DHeld)).bind fun l19 =>
                spec_l5Spoil_l20 k r2.2.b r2.2.p 0 (⟨#[]⟩ : ByteArray) r1.Next r1.Open ([] : List DHeld) ([] : List ByteArray) l19 r1.Ready
              else
                spec_l5Spoil_l20 k r2.2.b r2.2.p 0 (⟨#[]⟩ : ByteArray) r1.Next r1.Open ([] : List DHeld) ([] : List ByteArray) r1.Held r1.Ready
noncomputable def spec_l5Any (k : Nat) (a0 : DL1Rd) : Option (DTake × DL1Rd) :=
  (spec_l5Draw k a0).bind fun r1 =>
  (spec_l1Rd_pick k r1.2 8).bind fun r2 =>
  bif (r2.1 == 0) then
    (spec_l5Spoil k r2.2 r1.1).bind fun r3 =>
    some (r3.1, r3.2)
  else
    some (r1.1, r2.2)
noncomputable def spec_l6Spoil_l20 : Nat → List Int → Int → Int → Bool → Int → Int → Int → Bool → Int → Int → ByteArray → Int → Bool → Int → Int → Int → Bool → Int → Int → ByteArray → List DItem → List DHeld → List ByteArray → List DItem → List DHeld → List ByteArray → Option (DEnd × DL1Rd)
  | 0, _, _, _, _, _, _, _, _, _, _, _, _, _, _, _, _, _, _, _, _, _, _, _, _, _, _ => none
  | k + 1, x0, x1, x2, x3, x4, x5, x6, x7, x8, x9, x10, x11, x12, x13, x14, x15, x16, x17, x18, x19, x20, x21, x22, x23, x24, x25 =>
    some ((⟨x11, x12, x13, x14, x15, x16, (⟨x17, x23⟩ : DSend), (⟨x18, x24, x19, x25⟩ : DTake)⟩ : DEnd), (⟨x0, x1⟩ : DL1Rd))
noncomputable def spec_l6Spoil (k : Nat) (a0 : DL1Rd) (a1 : DEnd) : Option (DEnd × DL1Rd) :=
  (spec_l6Copy k a1).bind fun r1 =>
  (spec_l1Rd_pick k a0 9).bind fun r2 =>
  bif (r2.1 == 0) then
    (spec_l1Rd_pick k r2.2 5).bind fun r3 =>
    spec_l6Spoil_l20 k r3.2.b r3.2.p 0 false 0 0 0 false 0 0 (⟨#[]⟩ : ByteArray) (IntKind.wrap .i64 (r3.1 - 1)) r1.Up r1.Life r1.Peer r1.Since r1.Owes r1.Send.Base r1.Take.Next r1.Take.Open ([] : List DItem) ([] : List DHeld) ([] : List ByteArray) r1.Send.Items r1.Take.Held r1.Take.Ready
  else
    bif (r2.1 == 1) then
      spec_l6Spoil_l20 k r2.2.b r2.2.p 0 false 0 0 0 false 0 0 (⟨#[]⟩ : ByteArray) r1.Number (!r1.Up) r1.Life r1.Peer r1.Since r1.Owes r1.Send.Base r1.Take.Next r1.Take.Open ([] : List DItem) ([] : List DHeld) ([] : List ByteArray) r1.Send.Items r1.Take.Held r1.Take.Ready
    else
      bif (r2.1 == 2) then
        (spec_l1Rd_pick k r2.2 3).bind fun r4 =>
        (idx ([0, 1000, 1001] : List Int) r4.1).bind fun y5 =>
        spec_l6Spoil_l20 k r4.2.b r4.2.p 0 false 0 0 0 false 0 0 (⟨#[]⟩ : ByteArray) r1.Number r1.Up y5 r1.Peer r1.Since r1.Owes r1.Send.Base r1.Take.Next r1.Take.Open ([] : List DItem) ([] : List DHeld) ([] : List ByteArray) r1.Send.Items r1.Take.Held r1.Take.Ready
      else
        bif (r2.1 == 3) then
          (spec_l1Rd_pick k r2.2 4).bind fun r6 =>
          (idx ([(-1), 0, 1000, 1001] : List Int) r6.1).bind fun y7 =>
          spec_l6Spoil_l20 k r6.2.b r6.2.p 0 false 0 0 0 false 0 0 (⟨#[]⟩ : ByteArray) r1.Number r1.Up r1.Life y7 r1.Since r1.Owes r1.Send.Base r1.Take.Next r1.Take.Open ([] : List DItem) ([] : List DHeld) ([] : List ByteArray) r1.Send.Items r1.Take.Held r1.Take.Ready
        else
          bif (r2.1 == 4) then
            (spec_l1Rd_pick k r2.2 3).bind fun r8 =>
            (idx ([(-1), 1000000, 1000001] : List Int) r8.1).bind fun y9 =>
            spec_l6Spoil_l20 k r8.2.b r8.2.p 0 false 0 0 0 false 0 0 (⟨#[]⟩ : ByteArray) r1.Number r1.Up r1.Life r1.Peer y9 r1.Owes r1.Send.Base r1.Take.Next r1.Take.Open ([] : List DItem) ([] : List DHeld) ([] : List ByteArray) r1.Send.Items r1.Take.Held r1.Take.Ready
          else
            bif (r2.1 == 5) then
              spec_l6Spoil_l20 k r2.2.b r2.2.p 0 false 0 0 0 false 0 0 (⟨#[]⟩ : ByteArray) r1.Number r1.Up r1.Life r1.Peer r1.Since (!r1.Owes) r1.Send.Base r1.Take.Next r1.Take.Open ([] : List DItem) ([] : List DHeld) ([] : List ByteArray) r1.Send.Items r1.Take.Held r1.Take.Ready
            else
              bif (r2.1 == 6) then
                (spec_l4Any k r2.2).bind fun r10 =>
                spec_l6Spoil_l20 k r10.2.b r10.2.p 0 false 0 0 0 false 0 0 (⟨#[]⟩ : ByteArray) r1.Number r1.Up r1.Life r1.Peer r1.Since r1.Owes r10.1.Base r1.Take.Next r1.Take.Open ([] : List DItem) ([] : List DHeld) ([] : List ByteArray) r10.1.Items r1.Take.Held r1.Take.Ready
              else
                bif (r2.1 == 7) then
                  (spec_l5Any k r2.2).bind fun r11 =>
                  spec_l6Spoil_l20 k r11.2.b r11.2.p 0 false 0 0 0 false 0 0 (⟨#[]⟩ : ByteArray) r1.Number r1.Up r1.Life r1.Peer r1.Since r1.Owes r1.Send.Base r11.1.Next r11.1.Open ([] : List DItem) ([] : List DHeld) ([] : List ByteArray) r1.Send.Items r11.1.Held r11.1.Ready
                else
                  (spec_l5Spoil k r2.2 r1.Take).bind fun r12 =>
                  spec_l6Spoil_l20 k r12.2.b r12.2.p 0 false 0 0 0 false 0 0 (⟨#[]⟩ : ByteArray) r1.Number r1.Up r1.Life r1.Peer r1.Since r1.Owes r1.Send.Base r12.1.Next r12.1.Open ([] : List DItem) ([] : List DHeld) ([] : List ByteArray) r1.Send.Items r12.1.Held r12.1.Ready
noncomputable def spec_l6Any_l9 : Nat → List Int → Int → Int → Bool → Int → Int → Int → Bool → Int → Int → ByteArray → Int → Bool → Int → Int → Int → Bool → Int → List DItem → Int → List DHeld → ByteArray → List ByteArray → List DItem → List DHeld → List ByteArray → Option (DEnd × DL1Rd)
  | 0, _, _, _, _, _, _, _, _, _, _, _, _, _, _, _, _, _, _, _, _, _, _, _, _, _, _ => none
  | k + 1, x0, x1, x2, x3, x4, x5, x6, x7, x8, x9, x10, x11, x12, x13, x14, x15, x16, x17, x18, x19, x20, x21, x22, x23, x24, x25 =>
    some ((⟨x11, x12, x13, x14, x15, x16, (⟨x17, x18⟩ : DSend), (⟨x19, x20, x21, x22⟩ : DTake)⟩ : DEnd), (⟨x0, x1⟩ : DL1Rd))
noncomputable def spec_l6Any (k : Nat) (a0 : DL1Rd) : Option (DEnd × DL1Rd) :=
  (spec_l7Reached k a0).bind fun r1 =>
  (spec_l1Rd_pick k r1.2 2).bind fun r2 =>
  (idx r1.1.Ends r2.1).bind fun _ =>
  (r1.1.Ends[(Int.toNat r2.1)]?).bind fun y3 =>
  (spec_l1Rd_pick k r2.2 8).bind fun r4 =>
  bif (r4.1 == 0) then
    (spec_l6Spoil k r4.2 y3).bind fun r5 =>
    some (r5.1, r5.2)
  else
    bif (r4.1 == 1) then
      (spec_l1Rd_pick k r4.2 2).bind fun r6 =>
      bif y3.Up then
        (spec_l1Rd_pick k r6.2 3).bind fun r7 =>
        (idx ([1000000, 999999, 5] : List Int) r7.1).bind fun y8 =>
        spec_l6Any_l9 k r7.2.b r7.2.p 0 false 0 0 0 false 0 0 (⟨#[]⟩ : ByteArray) y3.Number y3.Up (IntKind.wrap .i64 (1000 - r6.1)) y3.Peer y8 y3.Owes y3.Send.Base y3.Send.Items y3.Take.Next y3.Take.Held y3.Take.Open y3.Take.Ready ([] : List DItem) ([] : List DHeld) ([] : List ByteArray)
      else
        spec_l6Any_l9 k r6.2.b r6.2.p 0 false 0 0 0 false 0 0 (⟨#[]⟩ : ByteArray) y3.Number y3.Up (IntKind.wrap .i64 (1000 - r6.1)) y3.Peer y3.Since y3.Owes y3.Send.Base y3.Send.Items y3.Take.Next y3.Take.Held y3.Take.Open y3.Take.Ready ([] : List DItem) ([] : List DHeld) ([] : List ByteArray)
    else
      spec_l6Any_l9 k r4.2.b r4.2.p 0 false 0 0 0 false 0 0 (⟨#[]⟩ : ByteArray) y3.Number y3.Up y3.Life y3.Peer y3.Since y3.Owes y3.Send.Base y3.Send.Items y3.Take.Next y3.Take.Held y3.Take.Open y3.Take.Ready ([] : List DItem) ([] : List DHeld) ([] : List ByteArray)
mutual
noncomputable def spec_DrawEndTake_l10 : Nat → Int → Bool → Int → Int → Int → Bool → Int → Int → ByteArray → Int → Int → Int → Int → Int → Int → Int → Bool → ByteArray → List Int → Int → Int → Bool → Int → Int → Int → Bool → Int → List DItem → Int → List DHeld → ByteArray → List ByteArray → Int → Int → Int → Int → Int → Int → Int → Bool → ByteArray → List DItem → List DHeld → List ByteArray → Option (DEnd × DPacket)
  | 0, _, _, _, _, _, _, _, _, _, _, _, _, _, _, _, _, _, _, _, _, _, _, _, _, _, _, _, _, _, _, _, _, _, _, _, _, _, _, _, _, _, _, _, _ => none
  | k + 1, x0, x1, x2, x3, x4, x5, x6, x7, x8, x9, x10, x11, x12, x13, x14, x15, x16, x17, x18, x19, x20, x21, x22, x23, x24, x25, x26, x27, x28, x29, x30, x31, x32, x33, x34, x35, x36, x37, x38, x39, x40, x41, x42, x43 =>
    bif (x32 == 1) then
      (spec_l1Rd_pick k (⟨x18, x19⟩ : DL1Rd) 4).bind fun r8 =>
      (spec_l1Rd_pick k r8.2 256).bind fun r9 =>
      spec_DrawEndTake_l14 k x0 x1 x2 x3 x4 x5 x6 x7 x8 x9 x10 x11 x12 x13 x14 x15 x16 x17 r9.2.b r9.2.p x20 x21 x22 x23 x24 x25 x26 x27 x28 x29 x30 x31 x32 x33 x34 x35 (IntKind.wrap .i64 (x26 + r8.1)) r9.1 x38 x39 x40 x41 x42 x43
    else
      (spec_l1Rd_pick k (⟨x18, x19⟩ : DL1Rd) 9).bind fun r10 =>
      spec_DrawEndTake_l14 k x0 x1 x2 x3 x4 x5 x6 x7 x8 x9 x10 x11 x12 x13 x14 x15 x16 x17 r10.2.b r10.2.p x20 x21 x22 x23 x24 x25 x26 x27 x28 x29 x30 x31 x32 x33 x34 x35 x36 x37 (IntKind.wrap .i64 (x28 + r10.1)) x39 x40 x41 x42 x43
noncomputable def spec_DrawEndTake_l14 : Nat → Int → Bool → Int → Int → Int → Bool → Int → Int → ByteArray → Int → Int → Int → Int → Int → Int → Int → Bool → ByteArray → List Int → Int → Int → Bool → Int → Int → Int → Bool → Int → List DItem → Int → List DHeld → ByteArray → List ByteArray → Int → Int → Int → Int → Int → Int → Int → Bool → ByteArray → List DItem → List DHeld → List ByteArray → Option (DEnd × DPacket)
  | 0, _, _, _, _, _, _, _, _, _, _, _, _, _, _, _, _, _, _, _, _, _, _, _, _, _, _, _, _, _, _, _, _, _, _, _, _, _, _, _, _, _, _, _, _ => none
  | k + 1, x0, x1, x2, x3, x4, x5, x6, x7, x8, x9, x10, x11, x12, x13, x14, x15, x16, x17, x18, x19, x20, x21, x22, x23, x24, x25, x26, x27, x28, x29, x30, x31, x32, x33, x34, x35, x36, x37, x38, x39, x40, x41, x42, x43 =>
    (spec_l1Rd_pick k (⟨x18, x19⟩ : DL1Rd) 10).bind fun r11 =>
    bif (r11.1 == 0) then
      (spec_l2Spoil k r11.2 (⟨x32, x33, x34, x35, x36, x37, x38, x39, x40⟩ : DPacket)).bind fun r12 =>
      spec_DrawEndTake_l16 k x0 x1 x2 x3 x4 x5 x6 x7 x8 x9 x10 x11 x12 x13 x14 x15 x16 x17 x20 x21 x22 x23 x24 x25 x26 x27 x28 x29 x30 x31 r12.1.Kind r12.1.From r12.1.Mine r12.1.Yours r12.1.Next r12.1.Mask r12.1.Seq r12.1.Last r12.1.Part x41 x42 x43
    else
      spec_DrawEndTake_l16 k x0 x1 x2 x3 x4 x5 x6 x7 x8 x9 x10 x11 x12 x13 x14 x15 x16 x17 x20 x21 x22 x23 x24 x25 x26 x27 x28 x29 x30 x31 x32 x33 x34 x35 x36 x37 x38 x39 x40 x41 x42 x43
noncomputable def spec_DrawEndTake_l16 : Nat → Int → Bool → Int → Int → Int → Bool → Int → Int → ByteArray → Int → Int → Int → Int → Int → Int → Int → Bool → ByteArray → Int → Bool → Int → Int → Int → Bool → Int → List DItem → Int → List DHeld → ByteArray → List ByteArray → Int → Int → Int → Int → Int → Int → Int → Bool → ByteArray → List DItem → List DHeld → List ByteArray → Option (DEnd × DPacket)
  | 0, _, _, _, _, _, _, _, _, _, _, _, _, _, _, _, _, _, _, _, _, _, _, _, _, _, _, _, _, _, _, _, _, _, _, _, _, _, _, _, _, _, _ => none
  | k + 1, x0, x1, x2, x3, x4, x5, x6, x7, x8, x9, x10, x11, x12, x13, x14, x15, x16, x17, x18, x19, x20, x21, x22, x23, x24, x25, x26, x27, x28, x29, x30, x31, x32, x33, x34, x35, x36, x37, x38, x39, x40, x41 =>
    some ((⟨x18, x19, x20, x21, x22, x23, (⟨x24, x25⟩ : DSend), (⟨x26, x27, x28, x29⟩ : DTake)⟩ : DEnd), (⟨x30, x31, x32, x33, x34, x35, x36, x37, x38⟩ : DPacket))
end
noncomputable def spec_DrawEndTake (k : Nat) (a0 : List Int) : Option (DEnd × DPacket) :=
  (spec_l1Open k a0).bind fun r1 =>
  (spec_l6Any k r1).bind fun r2 =>
  (spec_l2Draw k r2.2).bind fun r3 =>
  (spec_l1Rd_pick k r3.2 5).bind fun r4 =>
  bif (decide (r4.1 > 0)) then
    (spec_l1Rd_pick k r4.2 5).bind fun r5 =>
    (idx ([0, 0, 0, 1, (-1)] : List Int) r5.1).bind fun y6 =>
    (spec_l1Rd_pick k r5.2 6).bind fun r7 =>
    bif (r7.1 == 0) then
      spec_DrawEndTake_l10 k 0 false 0 0 0 false 0 0 (⟨#[]⟩ : ByteArray) 0 0 0 0 0 0 0 false (⟨#[]⟩ : ByteArray) r7.2.b r7.2.p r2.1.Number r2.1.Up r2.1.Life r2.1.Peer r2.1.Since r2.1.Owes r2.1.Send.Base r2.1.Send.Items r2.1.Take.Next r2.1.Take.Held r2.1.Take.Open r2.1.Take.Ready r3.1.Kind (IntKind.wrap .i64 (3 - r2.1.Number)) (IntKind.wrap .i64 (r2.1.Peer + y6)) (IntKind.wrap .i64 (r2.1.Life - 1)) r3.1.Next r3.1.Mask r3.1.Seq r3.1.Last r3.1.Part ([] : List DItem) ([] : List DHeld) ([] : List ByteArray)
    else
      spec_DrawEndTake_l10 k 0 false 0 0 0 false 0 0 (⟨#[]⟩ : ByteArray) 0 0 0 0 0 0 0 false (⟨#[]⟩ : ByteArray) r7.2.b r7.2.p r2.1.Number r2.1.Up r2.1.Life r2.1.Peer r2.1.Since r2.1.Owes r2.1.Send.Base r2.1.Send.Items r2.1.Take.Next r2.1.Take.Held r2.1.Take.Open r2.1.Take.Ready r3.1.Kind (IntKind.wrap .i64 (3 - r2.1.Number)) (IntKind.wrap .i64 (r2.1.Peer + y6)) r2.1.Life r3.1.Next r3.1.Mask r3.1.Seq r3.1.Last r3.1.Part ([] : List DItem) ([] : List DHeld) ([] : List ByteArray)
  else
    spec_DrawEndTake_l14 k 0 false 0 0 0 false 0 0 (⟨#[]⟩ : ByteArray) 0 0 0 0 0 0 0 false (⟨#[]⟩ : ByteArray) r4.2.b r4.2.p r2.1.Number r2.1.Up r2.1.Life r2.1.Peer r2.1.Since r2.1.Owes r2.1.Send.Base r2.1.Send.Items r2.1.Take.Next r2.1.Take.Held r2.1.Take.Open r2.1.Take.Ready r3.1.Kind r3.1.From r3.1.Mine r3.1.Yours r3.1.Next r3.1.Mask r3.1.Seq r3.1.Last r3.1.Part ([] : List DItem) ([] : List DHeld) ([] : List ByteArray)
noncomputable def spec_DrawEndPush (k : Nat) (a0 : List Int) : Option (DEnd × ByteArray) :=
  (spec_l1Open k a0).bind fun r1 =>
  (spec_l6Any k r1).bind fun r2 =>
  (spec_l1Rd_pick k r2.2 10).bind fun r3 =>
  bif (r3.1 == 0) then
    (spec_l1Rd_pick k r3.2 2).bind fun r4 =>
    (spec_l1Many k (⟨#[109]⟩ : ByteArray) (IntKind.wrap .i64 (200 + r4.1))).bind fun r5 =>
    some (r2.1, r5)
  else
    (spec_l1Message k r3.2).bind fun r6 =>
    some (r2.1, r6.1)
end Km.X
namespace Km.X
open Go Km
set_option linter.unusedVariables false
set_option maxRecDepth 100000
end Km.X
namespace Km.X
open Go Km
set_option linter.unusedVariables false
set_option maxRecDepth 100000
end Km.X
namespace Km.X
open Go Km
set_option linter.unusedVariables false
set_option maxRecDepth 100000
noncomputable def laws_FnEnds_l16 : Nat → Int → Int → Bool → Int → Int → Int → Bool → Int → List DItem → Int → List DHeld → ByteArray → List ByteArray → Int → Int → Bool → Int → Int → Int → Bool → Int → Int → ByteArray → ByteArray → List DItem → List DHeld → List ByteArray → List DPacket → Option (Bool)
  | 0, _, _, _, _, _, _, _, _, _, _, _, _, _, _, _, _, _, _, _, _, _, _, _, _, _, _, _, _ => none
  | k + 1, x0, x1, x2, x3, x4, x5, x6, x7, x8, x9, x10, x11, x12, x13, x14, x15, x16, x17, x18, x19, x20, x21, x22, x23, x24, x25, x26, x27 =>
    bif (decide (x0 < (x27.length : Int))) then
      (idx x27 x0).bind fun _ =>
      (x27[(Int.toNat x0)]?).bind fun y22 =>
      (impl_FormPacket k y22 (⟨#[107, 101, 121]⟩ : ByteArray) 8).bind fun r23 =>
      bif (r23.toList == (⟨#[]⟩ : ByteArray).toList) then
        some false
      else
        (idx x27 x0).bind fun _ =>
        (x27[(Int.toNat x0)]?).bind fun y24 =>
        bif (y24.From != x1) then
          some false
        else
          (idx x27 x0).bind fun _ =>
          (x27[(Int.toNat x0)]?).bind fun y25 =>
          bif (y25.Mine != x3) then
            some false
          else
            (idx x27 x0).bind fun _ =>
            (x27[(Int.toNat x0)]?).bind fun y26 =>
            bif (y26.Yours != x4) then
              some false
            else
              laws_FnEnds_l16 k (IntKind.wrap .i64 (x0 + 1)) x1 x2 x3 x4 x5 x6 x7 x8 x9 x10 x11 x12 x13 x14 x15 x16 x17 x18 x19 x20 x21 x22 x23 x24 x25 x26 x27
    else
      (impl_EndFall k (⟨x1, x2, x3, x4, x5, x6, (⟨x7, x8⟩ : DSend), (⟨x9, x10, x11, x12⟩ : DTake)⟩ : DEnd)).bind fun r27 =>
      (impl_EndRise k r27).bind fun r28 =>
      bif (r28.Life == x3) then
        some true
      else
        bif r28.Up then
          bif (r28.Life == (IntKind.wrap .i64 (x3 + 1))) then
            bif (r28.Peer == 0) then
              (impl_ValidEnd k r28).bind fun r29 =>
              some r29
            else
              some false
          else
            some false
        else
          some false
noncomputable def laws_FnEnds (k : Nat) (a0 : List Int) : Option (Bool) :=
  bif (decide ((a0.length : Int) > 1048576)) then
    some true
  else
    (spec_DrawEndTake k a0).bind fun r1 =>
    (spec_DrawEndPush k a0).bind fun r2 =>
    (impl_EndTick k r1.1).bind fun r3 =>
    (impl_EndTake k r1.1 r1.2).bind fun r4 =>
    (impl_EndPush k r1.1 r2.2).bind fun r5 =>
    (impl_EndPull k r1.1).bind fun r6 =>
    (spec_EndTick k r1.1).bind fun r7 =>
    (laws_wActed k r3 r7).bind fun r8 =>
    bif (!r8) then
      some false
    else
      (spec_EndTake k r1.1 r1.2).bind fun r9 =>
      (laws_wActed k r4 r9).bind fun r10 =>
      bif (!r10) then
        some false
      else
        (spec_EndPush k r1.1 r2.2).bind fun r11 =>
        (laws_wActed k r5 r11).bind fun r12 =>
        bif (!r12) then
          some false
        else
          (spec_EndPull k r1.1).bind fun r13 =>
          (laws_wActed k r6 r13).bind fun r14 =>
          bif (!r14) then
            some false
          else
            (spec_ValidEnd k r1.1).bind fun r15 =>
            bif (!r15) then
              (impl_ValidEnd k r1.1).bind fun r16 =>
              bif (!r16) then
                bif (r3.Code == 1) then
                  bif (r4.Code == 1) then
                    bif (r5.Code == 1) then
                      some (r6.Code == 1)
                    else
                      some false
                  else
                    some false
                else
                  some false
              else
                some false
            else
              (impl_ValidEnd k r3.End).bind fun r17 =>
              bif (!r17) then
                some false
              else
                (impl_ValidEnd k r4.End).bind fun r18 =>
                bif (!r18) then
                  some false
                else
                  bif (r5.Code == 0) then
                    (impl_ValidEnd k r5.End).bind fun r19 =>
                    bif (!r19) then
                      some false
                    else
                      bif (r6.Code == 0) then
                        (impl_ValidEnd k r6.End).bind fun r20 =>
                        bif (!r20) then
                          some false
                        else
                          laws_FnEnds_l16 k 0 r1.1.Number r1.1.Up r1.1.Life r1.1.Peer r1.1.Since r1.1.Owes r1.1.Send.Base r1.1.Send.Items r1.1.Take.Next r1.1.Take.Held r1.1.Take.Open r1.1.Take.Ready r3.Code r3.End.Number r3.End.Up r3.End.Life r3.End.Peer r3.End.Since r3.End.Owes r3.End.Send.Base r3.End.Take.Next r3.End.Take.Open r3.Text r3.End.Send.Items r3.End.Take.Held r3.End.Take.Ready r3.Out
                      else
                        laws_FnEnds_l16 k 0 r1.1.Number r1.1.Up r1.1.Life r1.1.Peer r1.1.Since r1.1.Owes r1.1.Send.Base r1.1.Send.Items r1.1.Take.Next r1.1.Take.Held r1.1.Take.Open r1.1.Take.Ready r3.Code r3.End.Number r3.End.Up r3.End.Life r3.End.Peer r3.End.Since r3.End.Owes r3.End.Send.Base r3.End.Take.Next r3.End.Take.Open r3.Text r3.End.Send.Items r3.End.Take.Held r3.End.Take.Ready r3.Out
                  else
                    bif (r6.Code == 0) then
                      (impl_ValidEnd k r6.End).bind fun r21 =>
                      bif (!r21) then
                        some false
                      else
                        laws_FnEnds_l16 k 0 r1.1.Number r1.1.Up r1.1.Life r1.1.Peer r1.1.Since r1.1.Owes r1.1.Send.Base r1.1.Send.Items r1.1.Take.Next r1.1.Take.Held r1.1.Take.Open r1.1.Take.Ready r3.Code r3.End.Number r3.End.Up r3.End.Life r3.End.Peer r3.End.Since r3.End.Owes r3.End.Send.Base r3.End.Take.Next r3.End.Take.Open r3.Text r3.End.Send.Items r3.End.Take.Held r3.End.Take.Ready r3.Out
                    else
                      laws_FnEnds_l16 k 0 r1.1.Number r1.1.Up r1.1.Life r1.1.Peer r1.1.Since r1.1.Owes r1.1.Send.Base r1.1.Send.Items r1.1.Take.Next r1.1.Take.Held r1.1.Take.Open r1.1.Take.Ready r3.Code r3.End.Number r3.End.Up r3.End.Life r3.End.Peer r3.End.Since r3.End.Owes r3.End.Send.Base r3.End.Take.Next r3.End.Take.Open r3.Text r3.End.Send.Items r3.End.Take.Held r3.End.Take.Ready r3.Out
end Km.X
