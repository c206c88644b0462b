/- A part of the proof of FnCalm: the functions that it reads off the program. There is no condition. -/
import Derived.Test.YtnhnpggoknepfaaGreatKxDef1
namespace Km.X
open Go Km
set_option linter.unusedVariables false
set_option maxRecDepth 100000
noncomputable def spec_NewWorld (k : Nat) (a0 : ByteArray) (a1 : Int) : Option (DWorld) :=
  (spec_l1In k a1 1 8).bind fun r1 =>
  bif (!r1) then
    some (⟨(⟨#[]⟩ : ByteArray), 0, ([] : List DEnd), ([] : List DParcel), (⟨#[]⟩ : ByteArray), ([] : List DRecord), ([] : List DRecord)⟩ : DWorld)
  else
    bif (decide ((a0.size : Int) > 30)) then
      some (⟨(⟨#[]⟩ : ByteArray), 0, ([] : List DEnd), ([] : List DParcel), (⟨#[]⟩ : ByteArray), ([] : List DRecord), ([] : List DRecord)⟩ : DWorld)
    else
      (spec_NewEnd k 1).bind fun r2 =>
      (spec_NewEnd k 2).bind fun r3 =>
      some (⟨a0, a1, ([r2, r3] : List DEnd), ([] : List DParcel), (⟨#[]⟩ : ByteArray), ([] : List DRecord), ([] : List DRecord)⟩ : DWorld)
mutual
noncomputable def impl_ValidWorld_l4 : Nat → List DEnd → Int → Int → ByteArray → Int → List DEnd → List DParcel → ByteArray → List DRecord → List DRecord → Option (Bool)
  | 0, _, _, _, _, _, _, _, _, _, _ => none
  | k + 1, x0, x1, x2, x3, x4, x5, x6, x7, x8, x9 =>
    bif (decide (x2 < x1)) then
      (idx x0 x2).bind fun y1 =>
      (impl_ValidEnd k y1).bind fun r2 =>
      bif (!r2) then
        some false
      else
        bif (y1.Number != (IntKind.wrap .i64 (x2 + 1))) then
          some false
        else
          impl_ValidWorld_l4 k x0 x1 (IntKind.wrap .i64 (x2 + 1)) x3 x4 x5 x6 x7 x8 x9
    else
      impl_ValidWorld_l10 k x6 (x6.length : Int) 0 x3 x4 x5 x6 x7 x8 x9
noncomputable def impl_ValidWorld_l10 : Nat → List DParcel → Int → Int → ByteArray → Int → List DEnd → List DParcel → ByteArray → List DRecord → List DRecord → Option (Bool)
  | 0, _, _, _, _, _, _, _, _, _, _ => none
  | k + 1, x0, x1, x2, x3, x4, x5, x6, x7, x8, x9 =>
    bif (decide (x2 < x1)) then
      (idx x0 x2).bind fun y3 =>
      bif (y3.To != 1) then
        bif (y3.To != 2) then
          some false
        else
          bif (decide ((y3.Sent.size : Int) > 100)) then
            some false
          else
            bif (decide ((y3.Bytes.size : Int) > 100)) then
              some false
            else
              impl_ValidWorld_l10 k x0 x1 (IntKind.wrap .i64 (x2 + 1)) x3 x4 x5 x6 x7 x8 x9
      else
        bif (decide ((y3.Sent.size : Int) > 100)) then
          some false
        else
          bif (decide ((y3.Bytes.size : Int) > 100)) then
            some false
          else
            impl_ValidWorld_l10 k x0 x1 (IntKind.wrap .i64 (x2 + 1)) x3 x4 x5 x6 x7 x8 x9
    else
      impl_ValidWorld_l16 k (([x8, x9] : List (List DRecord)).length : Int) 0 ([x8, x9] : List (List DRecord))
noncomputable def impl_ValidWorld_l16 : Nat → Int → Int → List (List DRecord) → Option (Bool)
  | 0, _, _, _ => none
  | k + 1, x0, x1, x2 =>
    bif (decide (x1 < x0)) then
      (idx x2 x1).bind fun _ =>
      (x2[(Int.toNat x1)]?).bind fun y4 =>
      impl_ValidWorld_l19 k x0 x1 y4 (y4.length : Int) 0 x2
    else
      some true
noncomputable def impl_ValidWorld_l19 : Nat → Int → Int → List DRecord → Int → Int → List (List DRecord) → Option (Bool)
  | 0, _, _, _, _, _, _ => none
  | k + 1, x0, x1, x2, x3, x4, x5 =>
    bif (decide (x4 < x3)) then
      (idx x2 x4).bind fun y5 =>
      bif (y5.From != 1) then
        bif (y5.From != 2) then
          some false
        else
          (impl_in k y5.A 1 1000).bind fun r6 =>
          bif (!r6) then
            some false
          else
            (impl_in k y5.B 1 1000).bind fun r7 =>
            bif (!r7) then
              some false
            else
              bif (decide ((y5.Text.size : Int) > 200)) then
                some false
              else
                impl_ValidWorld_l19 k x0 x1 x2 x3 (IntKind.wrap .i64 (x4 + 1)) x5
      else
        (impl_in k y5.A 1 1000).bind fun r8 =>
        bif (!r8) then
          some false
        else
          (impl_in k y5.B 1 1000).bind fun r9 =>
          bif (!r9) then
            some false
          else
            bif (decide ((y5.Text.size : Int) > 200)) then
              some false
            else
              impl_ValidWorld_l19 k x0 x1 x2 x3 (IntKind.wrap .i64 (x4 + 1)) x5
    else
      impl_ValidWorld_l16 k x0 (IntKind.wrap .i64 (x1 + 1)) x5
end
noncomputable def impl_ValidWorld (k : Nat) (a0 : DWorld) : Option (Bool) :=
  bif (decide (a0.Width < 1)) then
    some false
  else
    bif (decide (a0.Width > 8)) then
      some false
    else
      bif (decide ((a0.Key.size : Int) > 30)) then
        some false
      else
        bif ((a0.Ends.length : Int) != 2) then
          some false
        else
          bif (decide ((a0.Flight.length : Int) > 1000)) then
            some false
          else
            bif (decide ((IntKind.wrap .i64 ((a0.Given.length : Int) + (a0.Taken.length : Int))) > 400)) then
              some false
            else
              impl_ValidWorld_l4 k a0.Ends (a0.Ends.length : Int) 0 a0.Key a0.Width a0.Ends a0.Flight a0.Forged a0.Given a0.Taken
noncomputable def impl_copyWorld_l3 : Nat → Int → Int → ByteArray → Int → List DParcel → ByteArray → List DRecord → List DRecord → ByteArray → Int → ByteArray → List DEnd → List DEnd → List DParcel → List DRecord → List DRecord → Option (DWorld)
  | 0, _, _, _, _, _, _, _, _, _, _, _, _, _, _, _, _ => none
  | k + 1, x0, x1, x2, x3, x4, x5, x6, x7, x8, x9, x10, x11, x12, x13, x14, x15 =>
    bif (decide (x1 < x0)) then
      (idx x11 x1).bind fun _ =>
      (x11[(Int.toNat x1)]?).bind fun y2 =>
      (impl_copyEnd k y2).bind fun r3 =>
      (idx x11 x1).bind fun _ =>
      (x11[(Int.toNat x1)]?).bind fun y4 =>
      impl_copyWorld_l3 k x0 (IntKind.wrap .i64 (x1 + 1)) x2 x3 x4 x5 x6 x7 x8 x9 x10 (x11.set (Int.toNat x1) r3) x12 x13 x14 x15
    else
      (app 40 ([] : List DParcel) x4).bind fun l5 =>
      (app 40 ([] : List DRecord) x6).bind fun l6 =>
      (app 40 ([] : List DRecord) x7).bind fun l7 =>
      some (⟨x2, x3, x11, l5, x5, l6, l7⟩ : DWorld)
noncomputable def impl_copyWorld (k : Nat) (a0 : DWorld) : Option (DWorld) :=
  (app 152 ([] : List DEnd) a0.Ends).bind fun l1 =>
  impl_copyWorld_l3 k (l1.length : Int) 0 a0.Key a0.Width a0.Flight a0.Forged a0.Given a0.Taken (⟨#[]⟩ : ByteArray) 0 (⟨#[]⟩ : ByteArray) l1 ([] : List DEnd) ([] : List DParcel) ([] : List DRecord) ([] : List DRecord)
mutual
noncomputable def impl_World_tick_l1 : Nat → Int → Int → ByteArray → Int → ByteArray → List DEnd → List DParcel → List DRecord → List DRecord → Option (DWorld)
  | 0, _, _, _, _, _, _, _, _, _ => none
  | k + 1, x0, x1, x2, x3, x4, x5, x6, x7, x8 =>
    bif (decide (x1 < x0)) then
      (idx x5 x1).bind fun _ =>
      (x5[(Int.toNat x1)]?).bind fun y1 =>
      (impl_EndTick k y1).bind fun r2 =>
      (idx x5 x1).bind fun _ =>
      (x5[(Int.toNat x1)]?).bind fun y3 =>
      impl_World_tick_l6 k x1 x0 x1 (r2.Out.length : Int) 0 x2 x3 x4 r2.Out (x5.set (Int.toNat x1) r2.End) x6 x7 x8
    else
      some (⟨x2, x3, x5, x6, x4, x7, x8⟩ : DWorld)
noncomputable def impl_World_tick_l6 : Nat → Int → Int → Int → Int → Int → ByteArray → Int → ByteArray → List DPacket → List DEnd → List DParcel → List DRecord → List DRecord → Option (DWorld)
  | 0, _, _, _, _, _, _, _, _, _, _, _, _, _ => none
  | k + 1, x0, x1, x2, x3, x4, x5, x6, x7, x8, x9, x10, x11, x12 =>
    bif (decide (x4 < x3)) then
      (idx x8 x4).bind fun _ =>
      (x8[(Int.toNat x4)]?).bind fun y4 =>
      bif (decide ((x10.length : Int) < 1000)) then
        (impl_FormPacket k y4 x5 x6).bind fun r5 =>
        (app 40 x10 ([(⟨(IntKind.wrap .i64 (2 - x0)), r5, r5⟩ : DParcel)] : List DParcel)).bind fun l6 =>
        impl_World_tick_l11 k x0 x1 x2 x3 x4 x5 x6 x7 x8 x9 l6 x11 x12
      else
        impl_World_tick_l11 k x0 x1 x2 x3 x4 x5 x6 x7 x8 x9 x10 x11 x12
    else
      impl_World_tick_l1 k x1 (IntKind.wrap .i64 (x2 + 1)) x5 x6 x7 x9 x10 x11 x12
noncomputable def impl_World_tick_l11 : Nat → Int → Int → Int → Int → Int → ByteArray → Int → ByteArray → List DPacket → List DEnd → List DParcel → List DRecord → List DRecord → Option (DWorld)
  | 0, _, _, _, _, _, _, _, _, _, _, _, _, _ => none
  | k + 1, x0, x1, x2, x3, x4, x5, x6, x7, x8, x9, x10, x11, x12 =>
    impl_World_tick_l6 k x0 x1 x2 x3 (IntKind.wrap .i64 (x4 + 1)) x5 x6 x7 x8 x9 x10 x11 x12
end
noncomputable def impl_World_tick (k : Nat) (a0 : DWorld) : Option (DWorld) :=
  impl_World_tick_l1 k (a0.Ends.length : Int) 0 a0.Key a0.Width a0.Forged a0.Ends a0.Flight a0.Given a0.Taken
noncomputable def impl_World_bring_l5 : Nat → ByteArray → Int → ByteArray → Int → ByteArray → ByteArray → Int → Int → Int → Int → Int → Int → Int → Bool → ByteArray → List DEnd → List DParcel → List DRecord → List DRecord → Option (DWorld)
  | 0, _, _, _, _, _, _, _, _, _, _, _, _, _, _, _, _, _, _, _ => none
  | k + 1, x0, x1, x2, x3, x4, x5, x6, x7, x8, x9, x10, x11, x12, x13, x14, x15, x16, x17, x18 =>
    (idx x15 (IntKind.wrap .i64 (x3 - 1))).bind fun _ =>
    (x15[(Int.toNat (IntKind.wrap .i64 (x3 - 1)))]?).bind fun y2 =>
    (impl_EndTake k y2 (⟨x6, x7, x8, x9, x10, x11, x12, x13, x14⟩ : DPacket)).bind fun r3 =>
    (idx x15 (IntKind.wrap .i64 (x3 - 1))).bind fun _ =>
    (x15[(Int.toNat (IntKind.wrap .i64 (x3 - 1)))]?).bind fun y4 =>
    some (⟨x0, x1, (x15.set (Int.toNat (IntKind.wrap .i64 (x3 - 1))) r3.End), x16, x2, x17, x18⟩ : DWorld)
noncomputable def impl_World_bring (k : Nat) (a0 : DWorld) (a1 : DParcel) : Option (DWorld) :=
  (impl_ReadPacket k a1.Bytes a0.Key a0.Width).bind fun r1 =>
  bif (!r1.2) then
    some a0
  else
    bif (!(a1.Bytes.toList == a1.Sent.toList)) then
      bif (a0.Forged.toList == (⟨#[]⟩ : ByteArray).toList) then
        impl_World_bring_l5 k a0.Key a0.Width a1.Bytes a1.To a1.Sent a1.Bytes r1.1.Kind r1.1.From r1.1.Mine r1.1.Yours r1.1.Next r1.1.Mask r1.1.Seq r1.1.Last r1.1.Part a0.Ends a0.Flight a0.Given a0.Taken
      else
        impl_World_bring_l5 k a0.Key a0.Width a0.Forged a1.To a1.Sent a1.Bytes r1.1.Kind r1.1.From r1.1.Mine r1.1.Yours r1.1.Next r1.1.Mask r1.1.Seq r1.1.Last r1.1.Part a0.Ends a0.Flight a0.Given a0.Taken
    else
      impl_World_bring_l5 k a0.Key a0.Width a0.Forged a1.To a1.Sent a1.Bytes r1.1.Kind r1.1.From r1.1.Mine r1.1.Yours r1.1.Next r1.1.Mask r1.1.Seq r1.1.Last r1.1.Part a0.Ends a0.Flight a0.Given a0.Taken
noncomputable def impl_World_full (k : Nat) (a0 : DWorld) : Option (Bool × DWorld) :=
  some ((decide ((IntKind.wrap .i64 ((a0.Given.length : Int) + (a0.Taken.length : Int))) ≥ 400)), a0)
noncomputable def impl_World_pull (k : Nat) (a0 : DWorld) (a1 : Int) : Option (DWorld) :=
  (impl_World_full k a0).bind fun r1 =>
  bif r1.1 then
    some r1.2
  else
    (idx r1.2.Ends (IntKind.wrap .i64 (a1 - 1))).bind fun _ =>
    (r1.2.Ends[(Int.toNat (IntKind.wrap .i64 (a1 - 1)))]?).bind fun y2 =>
    (impl_EndPull k y2).bind fun r3 =>
    bif (r3.Code == 0) then
      (idx r1.2.Ends (IntKind.wrap .i64 (a1 - 1))).bind fun _ =>
      (r1.2.Ends[(Int.toNat (IntKind.wrap .i64 (a1 - 1)))]?).bind fun y4 =>
      (idx r1.2.Ends (IntKind.wrap .i64 (a1 - 1))).bind fun _ =>
      (r1.2.Ends[(Int.toNat (IntKind.wrap .i64 (a1 - 1)))]?).bind fun y5 =>
      (app 40 r1.2.Taken ([(⟨(IntKind.wrap .i64 (3 - a1)), y4.Peer, y4.Life, r3.Text⟩ : DRecord)] : List DRecord)).bind fun l6 =>
      some (⟨r1.2.Key, r1.2.Width, (r1.2.Ends.set (Int.toNat (IntKind.wrap .i64 (a1 - 1))) r3.End), r1.2.Flight, r1.2.Forged, r1.2.Given, l6⟩ : DWorld)
    else
      some r1.2
noncomputable def spec_l7RecordsOk_l2 : Nat → List DRecord → Int → Option (Bool)
  | 0, _, _ => none
  | k + 1, x0, x1 =>
    bif (decide (x1 < (x0.length : Int))) then
      (idx x0 x1).bind fun y1 =>
      (spec_l1In k y1.From 1 2).bind fun r2 =>
      bif (!r2) then
        some false
      else
        (spec_l1In k y1.A 1 1000).bind fun r3 =>
        bif (!r3) then
          some false
        else
          (spec_l1In k y1.B 1 1000).bind fun r4 =>
          bif (!r4) then
            some false
          else
            bif (decide ((y1.Text.size : Int) > 200)) then
              some false
            else
              spec_l7RecordsOk_l2 k x0 (IntKind.wrap .i64 (x1 + 1))
    else
      some true
noncomputable def spec_l7RecordsOk (k : Nat) (a0 : List DRecord) : Option (Bool) :=
  spec_l7RecordsOk_l2 k a0 0
mutual
noncomputable def spec_ValidWorld_l4 : Nat → Int → ByteArray → Int → List DEnd → List DParcel → ByteArray → List DRecord → List DRecord → Option (Bool)
  | 0, _, _, _, _, _, _, _, _ => none
  | k + 1, x0, x1, x2, x3, x4, x5, x6, x7 =>
    bif (decide (x0 < 2)) then
      (idx x3 x0).bind fun y2 =>
      (spec_ValidEnd k y2).bind fun r3 =>
      bif (!r3) then
        some false
      else
        (idx x3 x0).bind fun y4 =>
        bif (y4.Number != (IntKind.wrap .i64 (x0 + 1))) then
          some false
        else
          spec_ValidWorld_l4 k (IntKind.wrap .i64 (x0 + 1)) x1 x2 x3 x4 x5 x6 x7
    else
      spec_ValidWorld_l9 k 0 x1 x2 x3 x4 x5 x6 x7
noncomputable def spec_ValidWorld_l9 : Nat → Int → ByteArray → Int → List DEnd → List DParcel → ByteArray → List DRecord → List DRecord → Option (Bool)
  | 0, _, _, _, _, _, _, _, _ => none
  | k + 1, x0, x1, x2, x3, x4, x5, x6, x7 =>
    bif (decide (x0 < (x4.length : Int))) then
      (idx x4 x0).bind fun y5 =>
      (spec_l1In k y5.To 1 2).bind fun r6 =>
      bif (!r6) then
        some false
      else
        bif (decide ((y5.Sent.size : Int) > 100)) then
          some false
        else
          bif (decide ((y5.Bytes.size : Int) > 100)) then
            some false
          else
            spec_ValidWorld_l9 k (IntKind.wrap .i64 (x0 + 1)) x1 x2 x3 x4 x5 x6 x7
    else
      (spec_l7RecordsOk k x6).bind fun r7 =>
      bif r7 then
        (spec_l7RecordsOk k x7).bind fun r8 =>
        some r8
      else
        some false
end
noncomputable def spec_ValidWorld (k : Nat) (a0 : DWorld) : Option (Bool) :=
  (spec_l1In k a0.Width 1 8).bind fun r1 =>
  bif (!r1) then
    some false
  else
    bif (decide ((a0.Key.size : Int) > 30)) then
      some false
    else
      bif ((a0.Ends.length : Int) != 2) then
        some false
      else
        bif (decide ((a0.Flight.length : Int) > 1000)) then
          some false
        else
          bif (decide ((IntKind.wrap .i64 ((a0.Given.length : Int) + (a0.Taken.length : Int))) > 400)) then
            some false
          else
            spec_ValidWorld_l4 k 0 a0.Key a0.Width a0.Ends a0.Flight a0.Forged a0.Given a0.Taken
noncomputable def spec_l7Copy_l4 : Nat → Int → ByteArray → Int → List DEnd → List DParcel → ByteArray → List DRecord → List DRecord → ByteArray → Int → ByteArray → ByteArray → Int → List DParcel → ByteArray → List DRecord → List DRecord → List DEnd → List DParcel → List DRecord → List DRecord → List DEnd → Option (DWorld)
  | 0, _, _, _, _, _, _, _, _, _, _, _, _, _, _, _, _, _, _, _, _, _, _ => none
  | k + 1, x0, x1, x2, x3, x4, x5, x6, x7, x8, x9, x10, x11, x12, x13, x14, x15, x16, x17, x18, x19, x20, x21 =>
    bif (decide (x0 < (x3.length : Int))) then
      (idx x3 x0).bind fun y1 =>
      (spec_l6Copy k y1).bind fun r2 =>
      (app 152 x21 ([r2] : List DEnd)).bind fun l3 =>
      spec_l7Copy_l4 k (IntKind.wrap .i64 (x0 + 1)) x1 x2 x3 x4 x5 x6 x7 x8 x9 x10 x11 x12 x13 x14 x15 x16 x17 x18 x19 x20 l3
    else
      (app 40 ([] : List DParcel) x4).bind fun l4 =>
      (app 40 ([] : List DRecord) x6).bind fun l5 =>
      (app 40 ([] : List DRecord) x7).bind fun l6 =>
      some (⟨x11, x12, x21, l4, x14, l5, l6⟩ : DWorld)
noncomputable def spec_l7Copy (k : Nat) (a0 : DWorld) : Option (DWorld) :=
  spec_l7Copy_l4 k 0 a0.Key a0.Width a0.Ends a0.Flight a0.Forged a0.Given a0.Taken (⟨#[]⟩ : ByteArray) 0 (⟨#[]⟩ : ByteArray) a0.Key a0.Width a0.Flight a0.Forged a0.Given a0.Taken ([] : List DEnd) ([] : List DParcel) ([] : List DRecord) ([] : List DRecord) ([] : List DEnd)
mutual
noncomputable def spec_l7Tick_l2 : Nat → Int → ByteArray → Int → ByteArray → ByteArray → Int → ByteArray → List DEnd → List DParcel → List DRecord → List DRecord → List DEnd → List DParcel → List DRecord → List DRecord → Option (DWorld)
  | 0, _, _, _, _, _, _, _, _, _, _, _, _, _, _, _ => none
  | k + 1, x0, x1, x2, x3, x4, x5, x6, x7, x8, x9, x10, x11, x12, x13, x14 =>
    bif (decide (x0 < 2)) then
      (idx x7 x0).bind fun _ =>
      (x7[(Int.toNat x0)]?).bind fun y1 =>
      (spec_EndTick k y1).bind fun r2 =>
      (idx x7 x0).bind fun _ =>
      (x7[(Int.toNat x0)]?).bind fun y3 =>
      spec_l7Tick_l7 k x0 0 x1 x2 x3 x4 x5 x6 r2.Code r2.End.Number r2.End.Up r2.End.Life r2.End.Peer r2.End.Since r2.End.Owes r2.End.Send.Base r2.End.Take.Next r2.End.Take.Open r2.Text (x7.set (Int.toNat x0) r2.End) x8 x9 x10 x11 x12 x13 x14 r2.Out
    else
      some (⟨x1, x2, x7, x8, x3, x9, x10⟩ : DWorld)
noncomputable def spec_l7Tick_l7 : Nat → Int → Int → ByteArray → Int → ByteArray → ByteArray → Int → ByteArray → Int → Int → Bool → Int → Int → Int → Bool → Int → Int → ByteArray → ByteArray → List DEnd → List DParcel → List DRecord → List DRecord → List DEnd → List DParcel → List DRecord → List DRecord → List DPacket → Option (DWorld)
  | 0, _, _, _, _, _, _, _, _, _, _, _, _, _, _, _, _, _, _, _, _, _, _, _, _, _, _, _, _ => none
  | k + 1, x0, x1, x2, x3, x4, x5, x6, x7, x8, x9, x10, x11, x12, x13, x14, x15, x16, x17, x18, x19, x20, x21, x22, x23, x24, x25, x26, x27 =>
    bif (decide (x1 < (x27.length : Int))) then
      bif (decide ((x20.length : Int) < 1000)) then
        (idx x27 x1).bind fun _ =>
        (x27[(Int.toNat x1)]?).bind fun y4 =>
        (spec_FormPacket k y4 x2 x3).bind fun r5 =>
        (app 40 x20 ([(⟨(IntKind.wrap .i64 (2 - x0)), r5, r5⟩ : DParcel)] : List DParcel)).bind fun l6 =>
        spec_l7Tick_l7 k x0 (IntKind.wrap .i64 (x1 + 1)) x2 x3 x4 x5 x6 x7 x8 x9 x10 x11 x12 x13 x14 x15 x16 x17 x18 x19 l6 x21 x22 x23 x24 x25 x26 x27
      else
        spec_l7Tick_l2 k (IntKind.wrap .i64 (x0 + 1)) x2 x3 x4 x5 x6 x7 x19 x20 x21 x22 x23 x24 x25 x26
    else
      spec_l7Tick_l2 k (IntKind.wrap .i64 (x0 + 1)) x2 x3 x4 x5 x6 x7 x19 x20 x21 x22 x23 x24 x25 x26
end
noncomputable def spec_l7Tick (k : Nat) (a0 : DWorld) : Option (DWorld) :=
  spec_l7Tick_l2 k 0 a0.Key a0.Width a0.Forged (⟨#[]⟩ : ByteArray) 0 (⟨#[]⟩ : ByteArray) a0.Ends a0.Flight a0.Given a0.Taken ([] : List DEnd) ([] : List DParcel) ([] : List DRecord) ([] : List DRecord)
noncomputable def spec_l7Without (k : Nat) (a0 : List DParcel) (a1 : Int) : Option (List DParcel) :=
  (wnd a0.length 0 a1).bind fun p1 =>
  (app 40 ([] : List DParcel) (dcut a0 p1.1 p1.2)).bind fun l2 =>
  (wnd a0.length (IntKind.wrap .i64 (a1 + 1)) (a0.length : Int)).bind fun p3 =>
  (app 40 l2 (dcut a0 p3.1 p3.2)).bind fun l4 =>
  some l4
noncomputable def spec_l7Bring_l8 : Nat → ByteArray → Int → ByteArray → ByteArray → Int → ByteArray → Int → ByteArray → ByteArray → Int → Int → Int → Int → Int → Int → Int → Bool → ByteArray → List DEnd → List DParcel → List DRecord → List DRecord → List DEnd → List DParcel → List DRecord → List DRecord → Option (DWorld)
  | 0, _, _, _, _, _, _, _, _, _, _, _, _, _, _, _, _, _, _, _, _, _, _, _, _, _, _ => none
  | k + 1, x0, x1, x2, x3, x4, x5, x6, x7, x8, x9, x10, x11, x12, x13, x14, x15, x16, x17, x18, x19, x20, x21, x22, x23, x24, x25 =>
    (idx x18 (IntKind.wrap .i64 (x6 - 1))).bind fun _ =>
    (x18[(Int.toNat (IntKind.wrap .i64 (x6 - 1)))]?).bind fun y4 =>
    (spec_EndTake k y4 (⟨x9, x10, x11, x12, x13, x14, x15, x16, x17⟩ : DPacket)).bind fun r5 =>
    (idx x18 (IntKind.wrap .i64 (x6 - 1))).bind fun _ =>
    (x18[(Int.toNat (IntKind.wrap .i64 (x6 - 1)))]?).bind fun y6 =>
    some (⟨x0, x1, (x18.set (Int.toNat (IntKind.wrap .i64 (x6 - 1))) r5.End), x19, x2, x20, x21⟩ : DWorld)
noncomputable def spec_l7Bring (k : Nat) (a0 : DWorld) (a1 : Int) : Option (DWorld) :=
  (idx a0.Flight a1).bind fun _ =>
  (a0.Flight[(Int.toNat a1)]?).bind fun y1 =>
  (spec_l7Without k a0.Flight a1).bind fun r2 =>
  (spec_ReadPacket k y1.Bytes a0.Key a0.Width).bind fun r3 =>
  bif (!r3.2) then
    some (⟨a0.Key, a0.Width, a0.Ends, r2, a0.Forged, a0.Given, a0.Taken⟩ : DWorld)
  else
    bif (!(y1.Bytes.toList == y1.Sent.toList)) then
      bif (a0.Forged.toList == (⟨#[]⟩ : ByteArray).toList) then
        spec_l7Bring_l8 k a0.Key a0.Width y1.Bytes (⟨#[]⟩ : ByteArray) 0 (⟨#[]⟩ : ByteArray) y1.To y1.Sent y1.Bytes r3.1.Kind r3.1.From r3.1.Mine r3.1.Yours r3.1.Next r3.1.Mask r3.1.Seq r3.1.Last r3.1.Part a0.Ends r2 a0.Given a0.Taken ([] : List DEnd) ([] : List DParcel) ([] : List DRecord) ([] : List DRecord)
      else
        spec_l7Bring_l8 k a0.Key a0.Width a0.Forged (⟨#[]⟩ : ByteArray) 0 (⟨#[]⟩ : ByteArray) y1.To y1.Sent y1.Bytes r3.1.Kind r3.1.From r3.1.Mine r3.1.Yours r3.1.Next r3.1.Mask r3.1.Seq r3.1.Last r3.1.Part a0.Ends r2 a0.Given a0.Taken ([] : List DEnd) ([] : List DParcel) ([] : List DRecord) ([] : List DRecord)
    else
      spec_l7Bring_l8 k a0.Key a0.Width a0.Forged (⟨#[]⟩ : ByteArray) 0 (⟨#[]⟩ : ByteArray) y1.To y1.Sent y1.Bytes r3.1.Kind r3.1.From r3.1.Mine r3.1.Yours r3.1.Next r3.1.Mask r3.1.Seq r3.1.Last r3.1.Part a0.Ends r2 a0.Given a0.Taken ([] : List DEnd) ([] : List DParcel) ([] : List DRecord) ([] : List DRecord)
mutual
noncomputable def spec_l7Parcel_l11 : Nat → ByteArray → Int → ByteArray → ByteArray → Int → ByteArray → List DEnd → List DParcel → List DRecord → List DRecord → List DEnd → List DParcel → List DRecord → List DRecord → Option (DWorld)
  | 0, _, _, _, _, _, _, _, _, _, _, _, _, _, _ => none
  | k + 1, x0, x1, x2, x3, x4, x5, x6, x7, x8, x9, x10, x11, x12, x13 =>
    some (⟨x0, x1, x6, x7, x2, x8, x9⟩ : DWorld)
noncomputable def spec_l7Parcel_l22 : Nat → ByteArray → Int → ByteArray → Int → Int → Int → Int → ByteArray → ByteArray → Int → ByteArray → Int → ByteArray → ByteArray → List DEnd → List DParcel → List DRecord → List DRecord → List DEnd → List DParcel → List DRecord → List DRecord → Option (DWorld)
  | 0, _, _, _, _, _, _, _, _, _, _, _, _, _, _, _, _, _, _, _, _, _, _ => none
  | k + 1, x0, x1, x2, x3, x4, x5, x6, x7, x8, x9, x10, x11, x12, x13, x14, x15, x16, x17, x18, x19, x20, x21 =>
    (idx x15 x4).bind fun _ =>
    (x15[(Int.toNat x4)]?).bind fun y9 =>
    some (⟨x0, x1, x14, (x15.set (Int.toNat x4) (⟨x11, x12, x13⟩ : DParcel)), x2, x16, x17⟩ : DWorld)
end
noncomputable def spec_l7Parcel (k : Nat) (a0 : DWorld) (a1 : DEvent) : Option (DWorld) :=
  (idx a0.Flight a1.A).bind fun _ =>
  (a0.Flight[(Int.toNat a1.A)]?).bind fun y1 =>
  bif (a1.Kind == 2) then
    (spec_l7Bring k a0 a1.A).bind fun r2 =>
    some r2
  else
    bif (a1.Kind == 4) then
      (spec_l7Without k a0.Flight a1.A).bind fun r3 =>
      some (⟨a0.Key, a0.Width, a0.Ends, r3, a0.Forged, a0.Given, a0.Taken⟩ : DWorld)
    else
      bif (a1.Kind == 3) then
        bif (decide ((a0.Flight.length : Int) < 1000)) then
          (app 40 a0.Flight ([y1] : List DParcel)).bind fun l4 =>
          spec_l7Parcel_l11 k a0.Key a0.Width a0.Forged (⟨#[]⟩ : ByteArray) 0 (⟨#[]⟩ : ByteArray) a0.Ends l4 a0.Given a0.Taken ([] : List DEnd) ([] : List DParcel) ([] : List DRecord) ([] : List DRecord)
        else
          spec_l7Parcel_l11 k a0.Key a0.Width a0.Forged (⟨#[]⟩ : ByteArray) 0 (⟨#[]⟩ : ByteArray) a0.Ends a0.Flight a0.Given a0.Taken ([] : List DEnd) ([] : List DParcel) ([] : List DRecord) ([] : List DRecord)
      else
        bif (a1.Kind == 5) then
          bif (decide (a1.B ≥ 0)) then
            bif (decide (a1.B < (y1.Bytes.size : Int))) then
              bif (decide (a1.C ≥ 0)) then
                (idx (bytesOf y1.Bytes) a1.B).bind fun _ =>
                ((bytesOf y1.Bytes)[(Int.toNat a1.B)]?).bind fun y5 =>
                (qrem a1.C 256).bind fun q6 =>
                (idx (bytesOf y1.Bytes) a1.B).bind fun _ =>
                ((bytesOf y1.Bytes)[(Int.toNat a1.B)]?).bind fun y7 =>
                spec_l7Parcel_l22 k a0.Key a0.Width a0.Forged a1.Kind a1.A a1.B a1.C a1.Text (⟨#[]⟩ : ByteArray) 0 (⟨#[]⟩ : ByteArray) y1.To y1.Sent (bstr ((bytesOf y1.Bytes).set (Int.toNat a1.B) (bitsXor .u8 y5 (IntKind.wrap .u8 q6)))) a0.Ends a0.Flight a0.Given a0.Taken ([] : List DEnd) ([] : List DParcel) ([] : List DRecord) ([] : List DRecord)
              else
                spec_l7Parcel_l22 k a0.Key a0.Width a0.Forged a1.Kind a1.A a1.B a1.C a1.Text (⟨#[]⟩ : ByteArray) 0 (⟨#[]⟩ : ByteArray) y1.To y1.Sent y1.Bytes a0.Ends a0.Flight a0.Given a0.Taken ([] : List DEnd) ([] : List DParcel) ([] : List DRecord) ([] : List DRecord)
            else
              spec_l7Parcel_l22 k a0.Key a0.Width a0.Forged a1.Kind a1.A a1.B a1.C a1.Text (⟨#[]⟩ : ByteArray) 0 (⟨#[]⟩ : ByteArray) y1.To y1.Sent y1.Bytes a0.Ends a0.Flight a0.Given a0.Taken ([] : List DEnd) ([] : List DParcel) ([] : List DRecord) ([] : List DRecord)
          else
            spec_l7Parcel_l22 k a0.Key a0.Width a0.Forged a1.Kind a1.A a1.B a1.C a1.Text (⟨#[]⟩ : ByteArray) 0 (⟨#[]⟩ : ByteArray) y1.To y1.Sent y1.Bytes a0.Ends a0.Flight a0.Given a0.Taken ([] : List DEnd) ([] : List DParcel) ([] : List DRecord) ([] : List DRecord)
        else
          bif (a1.Kind == 6) then
            bif (decide (a1.B ≥ 0)) then
              bif (decide (a1.B ≤ (y1.Bytes.size : Int))) then
                (wnd y1.Bytes.size 0 a1.B).bind fun p8 =>
                spec_l7Parcel_l22 k a0.Key a0.Width a0.Forged a1.Kind a1.A a1.B a1.C a1.Text (⟨#[]⟩ : ByteArray) 0 (⟨#[]⟩ : ByteArray) y1.To y1.Sent (y1.Bytes.extract p8.1 p8.2) a0.Ends a0.Flight a0.Given a0.Taken ([] : List DEnd) ([] : List DParcel) ([] : List DRecord) ([] : List DRecord)
              else
                spec_l7Parcel_l22 k a0.Key a0.Width a0.Forged a1.Kind a1.A a1.B a1.C a1.Text (⟨#[]⟩ : ByteArray) 0 (⟨#[]⟩ : ByteArray) y1.To y1.Sent y1.Bytes a0.Ends a0.Flight a0.Given a0.Taken ([] : List DEnd) ([] : List DParcel) ([] : List DRecord) ([] : List DRecord)
            else
              spec_l7Parcel_l22 k a0.Key a0.Width a0.Forged a1.Kind a1.A a1.B a1.C a1.Text (⟨#[]⟩ : ByteArray) 0 (⟨#[]⟩ : ByteArray) y1.To y1.Sent y1.Bytes a0.Ends a0.Flight a0.Given a0.Taken ([] : List DEnd) ([] : List DParcel) ([] : List DRecord) ([] : List DRecord)
          else
            bif (a1.Kind == 7) then
              spec_l7Parcel_l22 k a0.Key a0.Width a0.Forged a1.Kind a1.A a1.B a1.C a1.Text (⟨#[]⟩ : ByteArray) 0 (⟨#[]⟩ : ByteArray) (IntKind.wrap .i64 (3 - y1.To)) y1.Sent y1.Bytes a0.Ends a0.Flight a0.Given a0.Taken ([] : List DEnd) ([] : List DParcel) ([] : List DRecord) ([] : List DRecord)
            else
              spec_l7Parcel_l22 k a0.Key a0.Width a0.Forged a1.Kind a1.A a1.B a1.C a1.Text (⟨#[]⟩ : ByteArray) 0 (⟨#[]⟩ : ByteArray) y1.To y1.Sent y1.Bytes a0.Ends a0.Flight a0.Given a0.Taken ([] : List DEnd) ([] : List DParcel) ([] : List DRecord) ([] : List DRecord)
noncomputable def spec_l7End_l18 : Nat → ByteArray → Int → ByteArray → ByteArray → Int → ByteArray → List DEnd → List DParcel → List DRecord → List DRecord → List DEnd → List DParcel → List DRecord → List DRecord → Option (DWorld)
  | 0, _, _, _, _, _, _, _, _, _, _, _, _, _, _ => none
  | k + 1, x0, x1, x2, x3, x4, x5, x6, x7, x8, x9, x10, x11, x12, x13 =>
    some (⟨x0, x1, x6, x7, x2, x8, x9⟩ : DWorld)
noncomputable def spec_l7End (k : Nat) (a0 : DWorld) (a1 : DEvent) : Option (DWorld) :=
  (idx a0.Ends (IntKind.wrap .i64 (a1.A - 1))).bind fun _ =>
  (a0.Ends[(Int.toNat (IntKind.wrap .i64 (a1.A - 1)))]?).bind fun y1 =>
  bif (a1.Kind == 8) then
    (spec_EndFall k y1).bind fun r2 =>
    (idx a0.Ends (IntKind.wrap .i64 (a1.A - 1))).bind fun _ =>
    (a0.Ends[(Int.toNat (IntKind.wrap .i64 (a1.A - 1)))]?).bind fun y3 =>
    spec_l7End_l18 k a0.Key a0.Width a0.Forged (⟨#[]⟩ : ByteArray) 0 (⟨#[]⟩ : ByteArray) (a0.Ends.set (Int.toNat (IntKind.wrap .i64 (a1.A - 1))) r2) a0.Flight a0.Given a0.Taken ([] : List DEnd) ([] : List DParcel) ([] : List DRecord) ([] : List DRecord)
  else
    bif (a1.Kind == 9) then
      (spec_EndRise k y1).bind fun r4 =>
      (idx a0.Ends (IntKind.wrap .i64 (a1.A - 1))).bind fun _ =>
      (a0.Ends[(Int.toNat (IntKind.wrap .i64 (a1.A - 1)))]?).bind fun y5 =>
      spec_l7End_l18 k a0.Key a0.Width a0.Forged (⟨#[]⟩ : ByteArray) 0 (⟨#[]⟩ : ByteArray) (a0.Ends.set (Int.toNat (IntKind.wrap .i64 (a1.A - 1))) r4) a0.Flight a0.Given a0.Taken ([] : List DEnd) ([] : List DParcel) ([] : List DRecord) ([] : List DRecord)
    else
      bif (a1.Kind == 10) then
        (spec_EndPush k y1 a1.Text).bind fun r6 =>
        bif (r6.Code == 0) then
          bif (decide ((IntKind.wrap .i64 ((a0.Given.length : Int) + (a0.Taken.length : Int))) < 400)) then
            (idx a0.Ends (IntKind.wrap .i64 (a1.A - 1))).bind fun _ =>
            (a0.Ends[(Int.toNat (IntKind.wrap .i64 (a1.A - 1)))]?).bind fun y7 =>
            (app 40 a0.Given ([(⟨a1.A, y1.Life, y1.Peer, a1.Text⟩ : DRecord)] : List DRecord)).bind fun l8 =>
            spec_l7End_l18 k a0.Key a0.Width a0.Forged (⟨#[]⟩ : ByteArray) 0 (⟨#[]⟩ : ByteArray) (a0.Ends.set (Int.toNat (IntKind.wrap .i64 (a1.A - 1))) r6.End) a0.Flight l8 a0.Taken ([] : List DEnd) ([] : List DParcel) ([] : List DRecord) ([] : List DRecord)
          else
            spec_l7End_l18 k a0.Key a0.Width a0.Forged (⟨#[]⟩ : ByteArray) 0 (⟨#[]⟩ : ByteArray) a0.Ends a0.Flight a0.Given a0.Taken ([] : List DEnd) ([] : List DParcel) ([] : List DRecord) ([] : List DRecord)
        else
          spec_l7End_l18 k a0.Key a0.Width a0.Forged (⟨#[]⟩ : ByteArray) 0 (⟨#[]⟩ : ByteArray) a0.Ends a0.Flight a0.Given a0.Taken ([] : List DEnd) ([] : List DParcel) ([] : List DRecord) ([] : List DRecord)
      else
        bif (a1.Kind == 11) then
          (spec_EndPull k y1).bind fun r9 =>
          bif (r9.Code == 0) then
            bif (decide ((IntKind.wrap .i64 ((a0.Given.length : Int) + (a0.Taken.length : Int))) < 400)) then
              (idx a0.Ends (IntKind.wrap .i64 (a1.A - 1))).bind fun _ =>
              (a0.Ends[(Int.toNat (IntKind.wrap .i64 (a1.A - 1)))]?).bind fun y10 =>
              (app 40 a0.Taken ([(⟨(IntKind.wrap .i64 (3 - a1.A)), y1.Peer, y1.Life, r9.Text⟩ : DRecord)] : List DRecord)).bind fun l11 =>
              spec_l7End_l18 k a0.Key a0.Width a0.Forged (⟨#[]⟩ : ByteArray) 0 (⟨#[]⟩ : ByteArray) (a0.Ends.set (Int.toNat (IntKind.wrap .i64 (a1.A - 1))) r9.End) a0.Flight a0.Given l11 ([] : List DEnd) ([] : List DParcel) ([] : List DRecord) ([] : List DRecord)
            else
              spec_l7End_l18 k a0.Key a0.Width a0.Forged (⟨#[]⟩ : ByteArray) 0 (⟨#[]⟩ : ByteArray) a0.Ends a0.Flight a0.Given a0.Taken ([] : List DEnd) ([] : List DParcel) ([] : List DRecord) ([] : List DRecord)
          else
            spec_l7End_l18 k a0.Key a0.Width a0.Forged (⟨#[]⟩ : ByteArray) 0 (⟨#[]⟩ : ByteArray) a0.Ends a0.Flight a0.Given a0.Taken ([] : List DEnd) ([] : List DParcel) ([] : List DRecord) ([] : List DRecord)
        else
          spec_l7End_l18 k a0.Key a0.Width a0.Forged (⟨#[]⟩ : ByteArray) 0 (⟨#[]⟩ : ByteArray) a0.Ends a0.Flight a0.Given a0.Taken ([] : List DEnd) ([] : List DParcel) ([] : List DRecord) ([] : List DRecord)
noncomputable def spec_l7Do (k : Nat) (a0 : DWorld) (a1 : DEvent) : Option (DWorld) :=
  bif (a1.Kind == 1) then
    (spec_l7Tick k a0).bind fun r1 =>
    some r1
  else
    (spec_l1In k a1.Kind 2 7).bind fun r2 =>
    bif r2 then
      (spec_l1In k a1.A 0 (IntKind.wrap .i64 ((a0.Flight.length : Int) - 1))).bind fun r3 =>
      bif r3 then
        (spec_l7Parcel k a0 a1).bind fun r4 =>
        some r4
      else
        (spec_l1In k a1.Kind 8 11).bind fun r5 =>
        bif r5 then
          (spec_l1In k a1.A 1 2).bind fun r6 =>
          bif r6 then
            (spec_l7End k a0 a1).bind fun r7 =>
            some r7
          else
            some a0
        else
          some a0
    else
      (spec_l1In k a1.Kind 8 11).bind fun r8 =>
      bif r8 then
        (spec_l1In k a1.A 1 2).bind fun r9 =>
        bif r9 then
          (spec_l7End k a0 a1).bind fun r10 =>
          some r10
        else
          some a0
      else
        some a0
noncomputable def laws_wRecords_l4 : Nat → List DRecord → List DRecord → Int → Option (Bool)
  | 0, _, _, _ => none
  | k + 1, x0, x1, x2 =>
    bif (decide (x2 < (x0.length : Int))) then
      (idx x0 x2).bind fun y1 =>
      (idx x1 x2).bind fun y2 =>
      bif (!(((y1.From : Int) == y2.From) && (((y1.A : Int) == y2.A) && (((y1.B : Int) == y2.B) && ((y1.Text.toList == y2.Text.toList) && true))))) then
        some false
      else
        laws_wRecords_l4 k x0 x1 (IntKind.wrap .i64 (x2 + 1))
    else
      some true
noncomputable def laws_wRecords (k : Nat) (a0 : List DRecord) (a1 : List DRecord) : Option (Bool) :=
  bif ((a0.length : Int) != (a1.length : Int)) then
    some false
  else
    laws_wRecords_l4 k a0 a1 0
mutual
noncomputable def laws_wWorld_l4 : Nat → Int → ByteArray → Int → List DEnd → List DParcel → ByteArray → List DRecord → List DRecord → ByteArray → Int → List DEnd → List DParcel → ByteArray → List DRecord → List DRecord → Option (Bool)
  | 0, _, _, _, _, _, _, _, _, _, _, _, _, _, _, _ => none
  | k + 1, x0, x1, x2, x3, x4, x5, x6, x7, x8, x9, x10, x11, x12, x13, x14 =>
    bif (decide (x0 < (x3.length : Int))) then
      (idx x3 x0).bind fun y3 =>
      (idx x10 x0).bind fun y4 =>
      (laws_wEnd k y3 y4).bind fun r5 =>
      bif (!r5) then
        some false
      else
        laws_wWorld_l4 k (IntKind.wrap .i64 (x0 + 1)) x1 x2 x3 x4 x5 x6 x7 x8 x9 x10 x11 x12 x13 x14
    else
      laws_wWorld_l9 k 0 x1 x2 x3 x4 x5 x6 x7 x8 x9 x10 x11 x12 x13 x14
noncomputable def laws_wWorld_l9 : Nat → Int → ByteArray → Int → List DEnd → List DParcel → ByteArray → List DRecord → List DRecord → ByteArray → Int → List DEnd → List DParcel → ByteArray → List DRecord → List DRecord → Option (Bool)
  | 0, _, _, _, _, _, _, _, _, _, _, _, _, _, _, _ => none
  | k + 1, x0, x1, x2, x3, x4, x5, x6, x7, x8, x9, x10, x11, x12, x13, x14 =>
    bif (decide (x0 < (x4.length : Int))) then
      (idx x4 x0).bind fun y6 =>
      (idx x11 x0).bind fun y7 =>
      bif (!(((y6.To : Int) == y7.To) && ((y6.Sent.toList == y7.Sent.toList) && ((y6.Bytes.toList == y7.Bytes.toList) && true)))) then
        some false
      else
        laws_wWorld_l9 k (IntKind.wrap .i64 (x0 + 1)) x1 x2 x3 x4 x5 x6 x7 x8 x9 x10 x11 x12 x13 x14
    else
      some true
end
noncomputable def laws_wWorld (k : Nat) (a0 : DWorld) (a1 : DWorld) : Option (Bool) :=
  bif (!(a0.Key.toList == a1.Key.toList)) then
    some false
  else
    bif (a0.Width != a1.Width) then
      some false
    else
      bif (!(a0.Forged.toList == a1.Forged.toList)) then
        some false
      else
        bif ((a0.Ends.length : Int) != (a1.Ends.length : Int)) then
          some false
        else
          bif ((a0.Flight.length : Int) != (a1.Flight.length : Int)) then
            some false
          else
            (laws_wRecords k a0.Given a1.Given).bind fun r1 =>
            bif (!r1) then
              some false
            else
              (laws_wRecords k a0.Taken a1.Taken).bind fun r2 =>
              bif (!r2) then
                some false
              else
                laws_wWorld_l4 k 0 a0.Key a0.Width a0.Ends a0.Flight a0.Forged a0.Given a0.Taken a1.Key a1.Width a1.Ends a1.Flight a1.Forged a1.Given a1.Taken
mutual
noncomputable def impl_Calm_l7 : Nat → Int → Int → ByteArray → Int → ByteArray → ByteArray → Int → ByteArray → List (DKey × Int) → List DEnd → List DParcel → List DRecord → List DRecord → List DEnd → List DParcel → List DRecord → List DRecord → Option (DWorld)
  | 0, _, _, _, _, _, _, _, _, _, _, _, _, _, _, _, _, _ => none
  | k + 1, x0, x1, x2, x3, x4, x5, x6, x7, x8, x9, x10, x11, x12, x13, x14, x15, x16 =>
    bif (decide (x0 > 0)) then
      (impl_World_tick k (⟨x5, x6, x13, x14, x7, x15, x16⟩ : DWorld)).bind fun r3 =>
      impl_Calm_l13 k x0 x1 (r3.Flight.length : Int) 0 x2 x3 x4 r3.Key r3.Width r3.Forged x8 r3.Flight x9 x10 x11 x12 r3.Ends ([] : List DParcel) r3.Given r3.Taken
    else
      some (⟨x5, x6, x13, x14, x7, x15, x16⟩ : DWorld)
noncomputable def impl_Calm_l13 : Nat → Int → Int → Int → Int → ByteArray → Int → ByteArray → ByteArray → Int → ByteArray → List (DKey × Int) → List DParcel → List DEnd → List DParcel → List DRecord → List DRecord → List DEnd → List DParcel → List DRecord → List DRecord → Option (DWorld)
  | 0, _, _, _, _, _, _, _, _, _, _, _, _, _, _, _, _, _, _, _, _ => none
  | k + 1, x0, x1, x2, x3, x4, x5, x6, x7, x8, x9, x10, x11, x12, x13, x14, x15, x16, x17, x18, x19 =>
    bif (decide (x3 < x2)) then
      (idx x11 x3).bind fun _ =>
      (x11[(Int.toNat x3)]?).bind fun y4 =>
      both (
        optK (mfind (eq_key (⟨y4.To, y4.Bytes⟩ : DKey)) x10 0) (
          optK (mfind (eq_key (⟨y4.To, y4.Bytes⟩ : DKey)) x10 0) (
            (idx (x10 ++ [((⟨y4.To, y4.Bytes⟩ : DKey), 0)]) (x10.length : Int)).bind fun e7 =>
            impl_Calm_l17 k x0 x1 x2 x3 x4 x5 x6 x7 x8 x9 ((x10 ++ [((⟨y4.To, y4.Bytes⟩ : DKey), 0)]).set (Int.toNat (x10.length : Int)) (e7.1, (IntKind.wrap .i64 (0 + 1)))) y4.To y4.Sent y4.Bytes y4.To y4.Bytes x11 x12 x13 x14 x15 x16 x17 x18 x19
          ) (fun p6 =>
            (idx x10 (p6.1 : Int)).bind fun e8 =>
            impl_Calm_l17 k x0 x1 x2 x3 x4 x5 x6 x7 x8 x9 (x10.set (Int.toNat (p6.1 : Int)) (e8.1, (IntKind.wrap .i64 (0 + 1)))) y4.To y4.Sent y4.Bytes y4.To y4.Bytes x11 x12 x13 x14 x15 x16 x17 x18 x19
          )
        ) (fun p5 =>
          optK (mfind (eq_key (⟨y4.To, y4.Bytes⟩ : DKey)) x10 0) (
            (idx (x10 ++ [((⟨y4.To, y4.Bytes⟩ : DKey), 0)]) (x10.length : Int)).bind fun e10 =>
            impl_Calm_l17 k x0 x1 x2 x3 x4 x5 x6 x7 x8 x9 ((x10 ++ [((⟨y4.To, y4.Bytes⟩ : DKey), 0)]).set (Int.toNat (x10.length : Int)) (e10.1, (IntKind.wrap .i64 (p5.2 + 1)))) y4.To y4.Sent y4.Bytes y4.To y4.Bytes x11 x12 x13 x14 x15 x16 x17 x18 x19
          ) (fun p9 =>
            (idx x10 (p9.1 : Int)).bind fun e11 =>
            impl_Calm_l17 k x0 x1 x2 x3 x4 x5 x6 x7 x8 x9 (x10.set (Int.toNat (p9.1 : Int)) (e11.1, (IntKind.wrap .i64 (p5.2 + 1)))) y4.To y4.Sent y4.Bytes y4.To y4.Bytes x11 x12 x13 x14 x15 x16 x17 x18 x19
          )
        )
      ) (
        optK (mfind (eq_key (⟨y4.To, y4.Bytes⟩ : DKey)) x10 0) (
          optK (mfind (eq_key (⟨y4.To, y4.Bytes⟩ : DKey)) (x10 ++ [((⟨y4.To, y4.Bytes⟩ : DKey), 0)]) 0) (
            (idx (x10 ++ [((⟨y4.To, y4.Bytes⟩ : DKey), 0)]) (x10.length : Int)).bind fun e14 =>
            impl_Calm_l17 k x0 x1 x2 x3 x4 x5 x6 x7 x8 x9 ((x10 ++ [((⟨y4.To, y4.Bytes⟩ : DKey), 0)]).set (Int.toNat (x10.length : Int)) (e14.1, (IntKind.wrap .i64 (0 + 1)))) y4.To y4.Sent y4.Bytes y4.To y4.Bytes x11 x12 x13 x14 x15 x16 x17 x18 x19
          ) (fun p13 =>
            (idx (x10 ++ [((⟨y4.To, y4.Bytes⟩ : DKey), 0)]) (x10.length : Int)).bind fun e15 =>
            impl_Calm_l17 k x0 x1 x2 x3 x4 x5 x6 x7 x8 x9 ((x10 ++ [((⟨y4.To, y4.Bytes⟩ : DKey), 0)]).set (Int.toNat (x10.length : Int)) (e15.1, (IntKind.wrap .i64 (p13.2 + 1)))) y4.To y4.Sent y4.Bytes y4.To y4.Bytes x11 x12 x13 x14 x15 x16 x17 x18 x19
          )
        ) (fun p12 =>
          optK (mfind (eq_key (⟨y4.To, y4.Bytes⟩ : DKey)) x10 0) (
            (idx x10 (p12.1 : Int)).bind fun e17 =>
            impl_Calm_l17 k x0 x1 x2 x3 x4 x5 x6 x7 x8 x9 (x10.set (Int.toNat (p12.1 : Int)) (e17.1, (IntKind.wrap .i64 (0 + 1)))) y4.To y4.Sent y4.Bytes y4.To y4.Bytes x11 x12 x13 x14 x15 x16 x17 x18 x19
          ) (fun p16 =>
            (idx x10 (p12.1 : Int)).bind fun e18 =>
            impl_Calm_l17 k x0 x1 x2 x3 x4 x5 x6 x7 x8 x9 (x10.set (Int.toNat (p12.1 : Int)) (e18.1, (IntKind.wrap .i64 (p16.2 + 1)))) y4.To y4.Sent y4.Bytes y4.To y4.Bytes x11 x12 x13 x14 x15 x16 x17 x18 x19
          )
        )
      )
    else
      impl_Calm_l21 k x0 x1 1 x4 x5 x6 x7 x8 x9 x10 x12 x13 x14 x15 x16 x17 x18 x19
noncomputable def impl_Calm_l17 : Nat → Int → Int → Int → Int → ByteArray → Int → ByteArray → ByteArray → Int → ByteArray → List (DKey × Int) → Int → ByteArray → ByteArray → Int → ByteArray → List DParcel → List DEnd → List DParcel → List DRecord → List DRecord → List DEnd → List DParcel → List DRecord → List DRecord → Option (DWorld)
  | 0, _, _, _, _, _, _, _, _, _, _, _, _, _, _, _, _, _, _, _, _, _, _, _, _, _ => none
  | k + 1, x0, x1, x2, x3, x4, x5, x6, x7, x8, x9, x10, x11, x12, x13, x14, x15, x16, x17, x18, x19, x20, x21, x22, x23, x24 =>
    optK (mfind (eq_key (⟨x14, x15⟩ : DKey)) x10 0) (
      (qrem 0 x1).bind fun q20 =>
      bif (q20 == 0) then
        (impl_World_bring k (⟨x7, x8, x21, x22, x9, x23, x24⟩ : DWorld) (⟨x11, x12, x13⟩ : DParcel)).bind fun r21 =>
        impl_Calm_l19 k x0 x1 x2 x3 x4 x5 x6 r21.Key r21.Width r21.Forged x10 x16 x17 x18 x19 x20 r21.Ends r21.Flight r21.Given r21.Taken
      else
        impl_Calm_l19 k x0 x1 x2 x3 x4 x5 x6 x7 x8 x9 x10 x16 x17 x18 x19 x20 x21 x22 x23 x24
    ) (fun p19 =>
      (qrem p19.2 x1).bind fun q22 =>
      bif (q22 == 0) then
        (impl_World_bring k (⟨x7, x8, x21, x22, x9, x23, x24⟩ : DWorld) (⟨x11, x12, x13⟩ : DParcel)).bind fun r23 =>
        impl_Calm_l19 k x0 x1 x2 x3 x4 x5 x6 r23.Key r23.Width r23.Forged x10 x16 x17 x18 x19 x20 r23.Ends r23.Flight r23.Given r23.Taken
      else
        impl_Calm_l19 k x0 x1 x2 x3 x4 x5 x6 x7 x8 x9 x10 x16 x17 x18 x19 x20 x21 x22 x23 x24
    )
noncomputable def impl_Calm_l21 : Nat → Int → Int → Int → ByteArray → Int → ByteArray → ByteArray → Int → ByteArray → List (DKey × Int) → List DEnd → List DParcel → List DRecord → List DRecord → List DEnd → List DParcel → List DRecord → List DRecord → Option (DWorld)
  | 0, _, _, _, _, _, _, _, _, _, _, _, _, _, _, _, _, _, _ => none
  | k + 1, x0, x1, x2, x3, x4, x5, x6, x7, x8, x9, x10, x11, x12, x13, x14, x15, x16, x17 =>
    bif (decide (x2 ≤ 2)) then
      impl_Calm_l24 k x0 x1 x2 0 x3 x4 x5 x6 x7 x8 x9 x10 x11 x12 x13 x14 x15 x16 x17
    else
      impl_Calm_l7 k (IntKind.wrap .i64 (x0 - 1)) x1 x3 x4 x5 x6 x7 x8 x9 x10 x11 x12 x13 x14 x15 x16 x17
noncomputable def impl_Calm_l19 : Nat → Int → Int → Int → Int → ByteArray → Int → ByteArray → ByteArray → Int → ByteArray → List (DKey × Int) → List DParcel → List DEnd → List DParcel → List DRecord → List DRecord → List DEnd → List DParcel → List DRecord → List DRecord → Option (DWorld)
  | 0, _, _, _, _, _, _, _, _, _, _, _, _, _, _, _, _, _, _, _, _ => none
  | k + 1, x0, x1, x2, x3, x4, x5, x6, x7, x8, x9, x10, x11, x12, x13, x14, x15, x16, x17, x18, x19 =>
    impl_Calm_l13 k x0 x1 x2 (IntKind.wrap .i64 (x3 + 1)) x4 x5 x6 x7 x8 x9 x10 x11 x12 x13 x14 x15 x16 x17 x18 x19
noncomputable def impl_Calm_l24 : Nat → Int → Int → Int → Int → ByteArray → Int → ByteArray → ByteArray → Int → ByteArray → List (DKey × Int) → List DEnd → List DParcel → List DRecord → List DRecord → List DEnd → List DParcel → List DRecord → List DRecord → Option (DWorld)
  | 0, _, _, _, _, _, _, _, _, _, _, _, _, _, _, _, _, _, _, _ => none
  | k + 1, x0, x1, x2, x3, x4, x5, x6, x7, x8, x9, x10, x11, x12, x13, x14, x15, x16, x17, x18 =>
    bif (decide (x3 < 4)) then
      (idx x15 (IntKind.wrap .i64 (x2 - 1))).bind fun _ =>
      (x15[(Int.toNat (IntKind.wrap .i64 (x2 - 1)))]?).bind fun y24 =>
      bif (decide ((y24.Take.Ready.length : Int) > 0)) then
        (impl_World_pull k (⟨x7, x8, x15, x16, x9, x17, x18⟩ : DWorld) x2).bind fun r25 =>
        impl_Calm_l24 k x0 x1 x2 (IntKind.wrap .i64 (x3 + 1)) x4 x5 x6 r25.Key r25.Width r25.Forged x10 x11 x12 x13 x14 r25.Ends r25.Flight r25.Given r25.Taken
      else
        impl_Calm_l21 k x0 x1 (IntKind.wrap .i64 (x2 + 1)) x4 x5 x6 x7 x8 x9 x10 x11 x12 x13 x14 x15 x16 x17 x18
    else
      impl_Calm_l21 k x0 x1 (IntKind.wrap .i64 (x2 + 1)) x4 x5 x6 x7 x8 x9 x10 x11 x12 x13 x14 x15 x16 x17 x18
end
noncomputable def impl_Calm (k : Nat) (a0 : DWorld) (a1 : Int) (a2 : Int) : Option (DWorld) :=
  (impl_ValidWorld k a0).bind fun r1 =>
  bif (!r1) then
    some (⟨(⟨#[]⟩ : ByteArray), 0, ([] : List DEnd), ([] : List DParcel), (⟨#[]⟩ : ByteArray), ([] : List DRecord), ([] : List DRecord)⟩ : DWorld)
  else
    bif (decide (a2 < 1)) then
      some (⟨(⟨#[]⟩ : ByteArray), 0, ([] : List DEnd), ([] : List DParcel), (⟨#[]⟩ : ByteArray), ([] : List DRecord), ([] : List DRecord)⟩ : DWorld)
    else
      bif (decide (a2 > 10)) then
        some (⟨(⟨#[]⟩ : ByteArray), 0, ([] : List DEnd), ([] : List DParcel), (⟨#[]⟩ : ByteArray), ([] : List DRecord), ([] : List DRecord)⟩ : DWorld)
      else
        (impl_copyWorld k a0).bind fun r2 =>
        bif (decide (a1 > 5000)) then
          impl_Calm_l7 k 5000 a2 (⟨#[]⟩ : ByteArray) 0 (⟨#[]⟩ : ByteArray) r2.Key r2.Width r2.Forged ([] : List (DKey × Int)) ([] : List DEnd) ([] : List DParcel) ([] : List DRecord) ([] : List DRecord) r2.Ends r2.Flight r2.Given r2.Taken
        else
          impl_Calm_l7 k a1 a2 (⟨#[]⟩ : ByteArray) 0 (⟨#[]⟩ : ByteArray) r2.Key r2.Width r2.Forged ([] : List (DKey × Int)) ([] : List DEnd) ([] : List DParcel) ([] : List DRecord) ([] : List DRecord) r2.Ends r2.Flight r2.Given r2.Taken
noncomputable def spec_l7Passes_l2 : Nat → Int → Int → List DL7Count → Int → ByteArray → ByteArray → Option (List DL7Count × Bool)
  | 0, _, _, _, _, _, _ => none
  | k + 1, x0, x1, x2, x3, x4, x5 =>
    bif (decide (x1 < (x2.length : Int))) then
      (idx x2 x1).bind fun _ =>
      (x2[(Int.toNat x1)]?).bind fun y1 =>
      bif (y1.to == x3) then
        (idx x2 x1).bind fun _ =>
        (x2[(Int.toNat x1)]?).bind fun y2 =>
        bif (y2.bytes.toList == x5.toList) then
          (idx x2 x1).bind fun _ =>
          (x2[(Int.toNat x1)]?).bind fun y3 =>
          (idx x2 x1).bind fun _ =>
          (x2[(Int.toNat x1)]?).bind fun y4 =>
          (idx (x2.set (Int.toNat x1) (⟨y4.to, y4.bytes, (IntKind.wrap .i64 (y3.n + 1))⟩ : DL7Count)) x1).bind fun _ =>
          ((x2.set (Int.toNat x1) (⟨y4.to, y4.bytes, (IntKind.wrap .i64 (y3.n + 1))⟩ : DL7Count))[(Int.toNat x1)]?).bind fun y5 =>
          (qrem y5.n x0).bind fun q6 =>
          some ((x2.set (Int.toNat x1) (⟨y4.to, y4.bytes, (IntKind.wrap .i64 (y3.n + 1))⟩ : DL7Count)), (q6 == 0))
        else
          spec_l7Passes_l2 k x0 (IntKind.wrap .i64 (x1 + 1)) x2 x3 x4 x5
      else
        spec_l7Passes_l2 k x0 (IntKind.wrap .i64 (x1 + 1)) x2 x3 x4 x5
    else
      (app 32 x2 ([(⟨x3, x5, 1⟩ : DL7Count)] : List DL7Count)).bind fun l7 =>
      some (l7, (x0 == 1))
noncomputable def spec_l7Passes (k : Nat) (a0 : List DL7Count) (a1 : DParcel) (a2 : Int) : Option (List DL7Count × Bool) :=
  spec_l7Passes_l2 k a2 0 a0 a1.To a1.Sent a1.Bytes
mutual
noncomputable def spec_Calm_l6 : Nat → Int → Int → Int → ByteArray → Int → ByteArray → ByteArray → Int → ByteArray → List DL7Count → List DEnd → List DParcel → List DRecord → List DRecord → List DEnd → List DParcel → List DRecord → List DRecord → Option (DWorld)
  | 0, _, _, _, _, _, _, _, _, _, _, _, _, _, _, _, _, _, _ => none
  | k + 1, x0, x1, x2, x3, x4, x5, x6, x7, x8, x9, x10, x11, x12, x13, x14, x15, x16, x17 =>
    bif (decide (x2 < x0)) then
      bif (decide (x2 < 5000)) then
        (spec_l7Tick k (⟨x6, x7, x14, x15, x8, x16, x17⟩ : DWorld)).bind fun r4 =>
        spec_Calm_l9 k x0 x1 x2 x3 x4 x5 r4.Key r4.Width r4.Forged x9 x10 x11 x12 x13 r4.Ends r4.Flight r4.Given r4.Taken
      else
        (spec_l7Copy k (⟨x6, x7, x14, x15, x8, x16, x17⟩ : DWorld)).bind fun r5 =>
        some r5
    else
      (spec_l7Copy k (⟨x6, x7, x14, x15, x8, x16, x17⟩ : DWorld)).bind fun r6 =>
      some r6
noncomputable def spec_Calm_l9 : Nat → Int → Int → Int → ByteArray → Int → ByteArray → ByteArray → Int → ByteArray → List DL7Count → List DEnd → List DParcel → List DRecord → List DRecord → List DEnd → List DParcel → List DRecord → List DRecord → Option (DWorld)
  | 0, _, _, _, _, _, _, _, _, _, _, _, _, _, _, _, _, _, _ => none
  | k + 1, x0, x1, x2, x3, x4, x5, x6, x7, x8, x9, x10, x11, x12, x13, x14, x15, x16, x17 =>
    bif (decide ((x15.length : Int) > 0)) then
      (idx x15 0).bind fun _ =>
      (x15[(Int.toNat 0)]?).bind fun y7 =>
      (spec_l7Passes k x9 y7 x1).bind fun r8 =>
      bif r8.2 then
        (spec_l7Bring k (⟨x6, x7, x14, x15, x8, x16, x17⟩ : DWorld) 0).bind fun r9 =>
        spec_Calm_l9 k x0 x1 x2 x3 x4 x5 r9.Key r9.Width r9.Forged r8.1 x10 x11 x12 x13 r9.Ends r9.Flight r9.Given r9.Taken
      else
        (spec_l7Without k x15 0).bind fun r10 =>
        spec_Calm_l9 k x0 x1 x2 x3 x4 x5 x6 x7 x8 r8.1 x10 x11 x12 x13 x14 r10 x16 x17
    else
      spec_Calm_l16 k x0 x1 x2 1 x3 x4 x5 x6 x7 x8 x9 x10 x11 x12 x13 x14 x15 x16 x17
noncomputable def spec_Calm_l16 : Nat → Int → Int → Int → Int → ByteArray → Int → ByteArray → ByteArray → Int → ByteArray → List DL7Count → List DEnd → List DParcel → List DRecord → List DRecord → List DEnd → List DParcel → List DRecord → List DRecord → Option (DWorld)
  | 0, _, _, _, _, _, _, _, _, _, _, _, _, _, _, _, _, _, _, _ => none
  | k + 1, x0, x1, x2, x3, x4, x5, x6, x7, x8, x9, x10, x11, x12, x13, x14, x15, x16, x17, x18 =>
    bif (decide (x3 ≤ 2)) then
      spec_Calm_l19 k x0 x1 x2 x3 0 x4 x5 x6 x7 x8 x9 x10 x11 x12 x13 x14 x15 x16 x17 x18
    else
      spec_Calm_l6 k x0 x1 (IntKind.wrap .i64 (x2 + 1)) x4 x5 x6 x7 x8 x9 x10 x11 x12 x13 x14 x15 x16 x17 x18
noncomputable def spec_Calm_l19 : Nat → Int → Int → Int → Int → Int → ByteArray → Int → ByteArray → ByteArray → Int → ByteArray → List DL7Count → List DEnd → List DParcel → List DRecord → List DRecord → List DEnd → List DParcel → List DRecord → List DRecord → Option (DWorld)
  | 0, _, _, _, _, _, _, _, _, _, _, _, _, _, _, _, _, _, _, _, _ => none
  | k + 1, x0, x1, x2, x3, x4, x5, x6, x7, x8, x9, x10, x11, x12, x13, x14, x15, x16, x17, x18, x19 =>
    bif (decide (x4 < 4)) then
      (idx x16 (IntKind.wrap .i64 (x3 - 1))).bind fun _ =>
      (x16[(Int.toNat (IntKind.wrap .i64 (x3 - 1)))]?).bind fun y11 =>
      bif (decide ((y11.Take.Ready.length : Int) > 0)) then
        (spec_l7End k (⟨x8, x9, x16, x17, x10, x18, x19⟩ : DWorld) (⟨11, x3, 0, 0, (⟨#[]⟩ : ByteArray)⟩ : DEvent)).bind fun r12 =>
        spec_Calm_l19 k x0 x1 x2 x3 (IntKind.wrap .i64 (x4 + 1)) x5 x6 x7 r12.Key r12.Width r12.Forged x11 x12 x13 x14 x15 r12.Ends r12.Flight r12.Given r12.Taken
      else
        spec_Calm_l16 k x0 x1 x2 (IntKind.wrap .i64 (x3 + 1)) x5 x6 x7 x8 x9 x10 x11 x12 x13 x14 x15 x16 x17 x18 x19
    else
      spec_Calm_l16 k x0 x1 x2 (IntKind.wrap .i64 (x3 + 1)) x5 x6 x7 x8 x9 x10 x11 x12 x13 x14 x15 x16 x17 x18 x19
end
noncomputable def spec_Calm (k : Nat) (a0 : DWorld) (a1 : Int) (a2 : Int) : Option (DWorld) :=
  (spec_ValidWorld k a0).bind fun r1 =>
  bif (!r1) then
    some (⟨(⟨#[]⟩ : ByteArray), 0, ([] : List DEnd), ([] : List DParcel), (⟨#[]⟩ : ByteArray), ([] : List DRecord), ([] : List DRecord)⟩ : DWorld)
  else
    (spec_l1In k a2 1 10).bind fun r2 =>
    bif (!r2) then
      some (⟨(⟨#[]⟩ : ByteArray), 0, ([] : List DEnd), ([] : List DParcel), (⟨#[]⟩ : ByteArray), ([] : List DRecord), ([] : List DRecord)⟩ : DWorld)
    else
      (spec_l7Copy k a0).bind fun r3 =>
      spec_Calm_l6 k a1 a2 0 (⟨#[]⟩ : ByteArray) 0 (⟨#[]⟩ : ByteArray) r3.Key r3.Width r3.Forged ([] : List DL7Count) ([] : List DEnd) ([] : List DParcel) ([] : List DRecord) ([] : List DRecord) r3.Ends r3.Flight r3.Given r3.Taken
end Km.X
namespace Km.X
open Go Km
set_option linter.unusedVariables false
set_option maxRecDepth 100000
end Km.X
namespace Km.X
open Go Km
set_option linter.unusedVariables false
set_option maxRecDepth 100000
end Km.X
namespace Km.X
open Go Km
set_option linter.unusedVariables false
set_option maxRecDepth 100000
end Km.X
namespace Km.X
open Go Km
set_option linter.unusedVariables false
set_option maxRecDepth 100000
noncomputable def spec_l1Open_l3 : Nat → List Int → Option (DL1Rd)
  | 0, _ => none
  | k + 1, x0 =>
    some (⟨x0, 0⟩ : DL1Rd)
noncomputable def spec_l1Open (k : Nat) (a0 : List Int) : Option (DL1Rd) :=
  bif (decide ((a0.length : Int) > 2000)) then
    (wnd a0.length 0 2000).bind fun p1 =>
    spec_l1Open_l3 k (dcut a0 p1.1 p1.2)
  else
    spec_l1Open_l3 k a0
noncomputable def spec_l1Rd_pick (k : Nat) (a0 : DL1Rd) (a1 : Int) : Option (Int × DL1Rd) :=
  bif (decide (a1 < 1)) then
    some (0, (⟨a0.b, (IntKind.wrap .i64 (a0.p + 1))⟩ : DL1Rd))
  else
    bif ((a0.b.length : Int) == 0) then
      some (0, (⟨a0.b, (IntKind.wrap .i64 (a0.p + 1))⟩ : DL1Rd))
    else
      bif (decide ((IntKind.wrap .i64 ((IntKind.wrap .i64 (a0.p + 1)) - 1)) < (a0.b.length : Int))) then
        (idx a0.b (IntKind.wrap .i64 ((IntKind.wrap .i64 (a0.p + 1)) - 1))).bind fun y1 =>
        (qrem (IntKind.wrap .i64 y1) a1).bind fun q2 =>
        some (q2, (⟨a0.b, (IntKind.wrap .i64 (a0.p + 1))⟩ : DL1Rd))
      else
        (qrem (IntKind.wrap .i64 ((IntKind.wrap .i64 (a0.p + 1)) - 1)) (a0.b.length : Int)).bind fun q3 =>
        (idx a0.b q3).bind fun y4 =>
        (qrem (IntKind.wrap .i64 ((IntKind.wrap .i64 ((IntKind.wrap .i64 ((IntKind.wrap .i64 (a0.p + 1)) - 1)) * 7)) + 3)) (a0.b.length : Int)).bind fun q5 =>
        (idx a0.b q5).bind fun y6 =>
        (qdiv (IntKind.wrap .i64 ((IntKind.wrap .i64 (a0.p + 1)) - 1)) (a0.b.length : Int)).bind fun q7 =>
        (qdiv (IntKind.wrap .i64 ((IntKind.wrap .i64 ((IntKind.wrap .i64 ((IntKind.wrap .i64 ((IntKind.wrap .i64 y4) * 131)) + (IntKind.wrap .i64 ((IntKind.wrap .i64 y6) * 1117)))) + (IntKind.wrap .i64 ((IntKind.wrap .i64 ((IntKind.wrap .i64 (a0.p + 1)) - 1)) * 29)))) + (IntKind.wrap .i64 ((IntKind.wrap .i64 (q7)) * 53)))) 64).bind fun q8 =>
        (qrem (bitsXor .i64 (IntKind.wrap .i64 ((IntKind.wrap .i64 ((IntKind.wrap .i64 ((IntKind.wrap .i64 ((IntKind.wrap .i64 y4) * 131)) + (IntKind.wrap .i64 ((IntKind.wrap .i64 y6) * 1117)))) + (IntKind.wrap .i64 ((IntKind.wrap .i64 ((IntKind.wrap .i64 (a0.p + 1)) - 1)) * 29)))) + (IntKind.wrap .i64 ((IntKind.wrap .i64 (q7)) * 53)))) (IntKind.wrap .i64 (q8))) a1).bind fun q9 =>
        some (q9, (⟨a0.b, (IntKind.wrap .i64 (a0.p + 1))⟩ : DL1Rd))
mutual
noncomputable def spec_l1Many_l2 : Nat → ByteArray → Int → ByteArray → Option (ByteArray)
  | 0, _, _, _ => none
  | k + 1, x0, x1, x2 =>
    bif (decide (x1 > 0)) then
      (qrem x1 2).bind fun q1 =>
      bif (q1 == 1) then
        (sadd x2 x0).bind fun t2 =>
        spec_l1Many_l5 k x0 x1 t2
      else
        spec_l1Many_l5 k x0 x1 x2
    else
      some x2
noncomputable def spec_l1Many_l5 : Nat → ByteArray → Int → ByteArray → Option (ByteArray)
  | 0, _, _, _ => none
  | k + 1, x0, x1, x2 =>
    (sadd x0 x0).bind fun t3 =>
    (qdiv x1 2).bind fun q4 =>
    spec_l1Many_l2 k t3 (IntKind.wrap .i64 (q4)) x2
end
noncomputable def spec_l1Many (k : Nat) (a0 : ByteArray) (a1 : Int) : Option (ByteArray) :=
  spec_l1Many_l2 k a0 a1 (⟨#[]⟩ : ByteArray)
noncomputable def spec_l1Message_l12 : Nat → ByteArray → Int → List Int → Int → Option (ByteArray × DL1Rd)
  | 0, _, _, _, _ => none
  | k + 1, x0, x1, x2, x3 =>
    bif (decide (x1 > 0)) then
      (spec_l1Rd_pick k (⟨x2, x3⟩ : DL1Rd) 5).bind fun r10 =>
      (wnd (⟨#[97, 98, 99, 100, 32]⟩ : ByteArray).size r10.1 ((⟨#[97, 98, 99, 100, 32]⟩ : ByteArray).size : Int)).bind fun p11 =>
      (wnd ((⟨#[97, 98, 99, 100, 32]⟩ : ByteArray).extract p11.1 p11.2).size 0 1).bind fun p12 =>
      (sadd x0 (((⟨#[97, 98, 99, 100, 32]⟩ : ByteArray).extract p11.1 p11.2).extract p12.1 p12.2)).bind fun t13 =>
      spec_l1Message_l12 k t13 (IntKind.wrap .i64 (x1 - 1)) r10.2.b r10.2.p
    else
      some (x0, (⟨x2, x3⟩ : DL1Rd))
noncomputable def spec_l1Message (k : Nat) (a0 : DL1Rd) : Option (ByteArray × DL1Rd) :=
  (spec_l1Rd_pick k a0 8).bind fun r1 =>
  bif (r1.1 == 0) then
    some ((⟨#[]⟩ : ByteArray), r1.2)
  else
    bif (r1.1 == 1) then
      (spec_l1Rd_pick k r1.2 5).bind fun r2 =>
      (spec_l1Rd_pick k r2.2 3).bind fun r3 =>
      (spec_l1Rd_pick k r3.2 2).bind fun r4 =>
      (spec_l1Rd_pick k r4.2 2).bind fun r5 =>
      (spec_l1Many k (⟨#[109]⟩ : ByteArray) (IntKind.wrap .i64 ((IntKind.wrap .i64 ((IntKind.wrap .i64 (20 * r2.1)) + r3.1)) - (IntKind.wrap .i64 (r4.1 * r5.1))))).bind fun r6 =>
      some (r6, r5.2)
    else
      bif (r1.1 == 2) then
        (spec_l1Rd_pick k r1.2 19).bind fun r7 =>
        (spec_l1Many k (⟨#[48, 49, 50, 51, 52, 53, 54, 55, 56, 57]⟩ : ByteArray) (IntKind.wrap .i64 (1 + r7.1))).bind fun r8 =>
        some (r8, r7.2)
      else
        bif (r1.1 == 3) then
          some ((⟨#[0, 255]⟩ : ByteArray), r1.2)
        else
          (spec_l1Rd_pick k r1.2 30).bind fun r9 =>
          spec_l1Message_l12 k (⟨#[]⟩ : ByteArray) (IntKind.wrap .i64 (1 + r9.1)) r9.2.b r9.2.p
noncomputable def spec_l1Key (k : Nat) (a0 : DL1Rd) : Option (ByteArray × DL1Rd) :=
  (spec_l1Many k (⟨#[107]⟩ : ByteArray) 30).bind fun r1 =>
  (spec_l1Rd_pick k a0 4).bind fun r2 =>
  (idx ([(⟨#[107, 101, 121]⟩ : ByteArray), (⟨#[107]⟩ : ByteArray), (⟨#[]⟩ : ByteArray), r1] : List ByteArray) r2.1).bind fun _ =>
  (([(⟨#[107, 101, 121]⟩ : ByteArray), (⟨#[107]⟩ : ByteArray), (⟨#[]⟩ : ByteArray), r1] : List ByteArray)[(Int.toNat r2.1)]?).bind fun y3 =>
  some (y3, r2.2)
noncomputable def spec_l1Width (k : Nat) (a0 : DL1Rd) : Option (Int × DL1Rd) :=
  (spec_l1Rd_pick k a0 5).bind fun r1 =>
  (idx ([8, 8, 4, 2, 1] : List Int) r1.1).bind fun y2 =>
  some (y2, r1.2)
mutual
noncomputable def spec_l7Event_l5 : Nat → Int → Int → List Int → Int → Int → Int → Int → Int → ByteArray → Option (DEvent × DL1Rd)
  | 0, _, _, _, _, _, _, _, _, _ => none
  | k + 1, x0, x1, x2, x3, x4, x5, x6, x7, x8 =>
    (spec_l1Rd_pick k (⟨x2, x3⟩ : DL1Rd) 2).bind fun r5 =>
    bif (decide (x0 < 9)) then
      some ((⟨1, 0, 0, 0, (⟨#[]⟩ : ByteArray)⟩ : DEvent), r5.2)
    else
      bif (decide (x0 < 19)) then
        some ((⟨2, x1, 0, 0, (⟨#[]⟩ : ByteArray)⟩ : DEvent), r5.2)
      else
        bif (decide (x0 < 26)) then
          (spec_l1Message k r5.2).bind fun r6 =>
          some ((⟨10, (IntKind.wrap .i64 (1 + r5.1)), 0, 0, r6.1⟩ : DEvent), r6.2)
        else
          bif (decide (x0 < 30)) then
            some ((⟨11, (IntKind.wrap .i64 (1 + r5.1)), 0, 0, (⟨#[]⟩ : ByteArray)⟩ : DEvent), r5.2)
          else
            bif (x0 == 30) then
              spec_l7Event_l17 k x1 r5.2.b r5.2.p x4 x5 x6 x7 x8
            else
              bif (x0 == 31) then
                spec_l7Event_l17 k x1 r5.2.b r5.2.p x4 x5 x6 x7 x8
              else
                spec_l7Event_l18 k x1 (IntKind.wrap .i64 (1 + r5.1)) x0 r5.2.b r5.2.p x4 x5 x6 x7 x8
noncomputable def spec_l7Event_l17 : Nat → Int → List Int → Int → Int → Int → Int → Int → ByteArray → Option (DEvent × DL1Rd)
  | 0, _, _, _, _, _, _, _, _ => none
  | k + 1, x0, x1, x2, x3, x4, x5, x6, x7 =>
    some ((⟨3, x0, 0, 0, (⟨#[]⟩ : ByteArray)⟩ : DEvent), (⟨x1, x2⟩ : DL1Rd))
noncomputable def spec_l7Event_l18 : Nat → Int → Int → Int → List Int → Int → Int → Int → Int → Int → ByteArray → Option (DEvent × DL1Rd)
  | 0, _, _, _, _, _, _, _, _, _, _ => none
  | k + 1, x0, x1, x2, x3, x4, x5, x6, x7, x8, x9 =>
    bif (x2 == 32) then
      spec_l7Event_l20 k x0 x3 x4 x5 x6 x7 x8 x9
    else
      bif (x2 == 33) then
        spec_l7Event_l20 k x0 x3 x4 x5 x6 x7 x8 x9
      else
        spec_l7Event_l21 k x0 x1 x2 x3 x4 x5 x6 x7 x8 x9
noncomputable def spec_l7Event_l20 : Nat → Int → List Int → Int → Int → Int → Int → Int → ByteArray → Option (DEvent × DL1Rd)
  | 0, _, _, _, _, _, _, _, _ => none
  | k + 1, x0, x1, x2, x3, x4, x5, x6, x7 =>
    some ((⟨4, x0, 0, 0, (⟨#[]⟩ : ByteArray)⟩ : DEvent), (⟨x1, x2⟩ : DL1Rd))
noncomputable def spec_l7Event_l21 : Nat → Int → Int → Int → List Int → Int → Int → Int → Int → Int → ByteArray → Option (DEvent × DL1Rd)
  | 0, _, _, _, _, _, _, _, _, _, _ => none
  | k + 1, x0, x1, x2, x3, x4, x5, x6, x7, x8, x9 =>
    bif (x2 == 34) then
      (spec_l1Rd_pick k (⟨x3, x4⟩ : DL1Rd) 40).bind fun r7 =>
      (spec_l1Rd_pick k r7.2 300).bind fun r8 =>
      some ((⟨5, x0, r7.1, r8.1, (⟨#[]⟩ : ByteArray)⟩ : DEvent), r8.2)
    else
      bif (x2 == 35) then
        (spec_l1Rd_pick k (⟨x3, x4⟩ : DL1Rd) 40).bind fun r9 =>
        some ((⟨6, x0, r9.1, 0, (⟨#[]⟩ : ByteArray)⟩ : DEvent), r9.2)
      else
        bif (x2 == 36) then
          some ((⟨7, x0, 0, 0, (⟨#[]⟩ : ByteArray)⟩ : DEvent), (⟨x3, x4⟩ : DL1Rd))
        else
          bif (x2 == 37) then
            some ((⟨8, x1, 0, 0, (⟨#[]⟩ : ByteArray)⟩ : DEvent), (⟨x3, x4⟩ : DL1Rd))
          else
            some ((⟨9, x1, 0, 0, (⟨#[]⟩ : ByteArray)⟩ : DEvent), (⟨x3, x4⟩ : DL1Rd))
end
noncomputable def spec_l7Event (k : Nat) (a0 : DL1Rd) : Option (DEvent × DL1Rd) :=
  (spec_l1Rd_pick k a0 40).bind fun r1 =>
  (spec_l1Rd_pick k r1.2 24).bind fun r2 =>
  (spec_l1Rd_pick k r2.2 2).bind fun r3 =>
  bif (r3.1 == 0) then
    (spec_l1Rd_pick k r3.2 3).bind fun r4 =>
    spec_l7Event_l5 k r1.1 r4.1 r4.2.b r4.2.p 0 0 0 0 (⟨#[]⟩ : ByteArray)
  else
    spec_l7Event_l5 k r1.1 r2.1 r3.2.b r3.2.p 0 0 0 0 (⟨#[]⟩ : ByteArray)
mutual
noncomputable def spec_l4Draw_l3 : Nat → Int → List Int → Int → Int → Int → List DItem → List DItem → Option (DSend × DL1Rd)
  | 0, _, _, _, _, _, _, _ => none
  | k + 1, x0, x1, x2, x3, x4, x5, x6 =>
    bif (decide (x0 > 0)) then
      both (
        (spec_l1Message k (⟨x1, x2⟩ : DL1Rd)).bind fun r4 =>
        (spec_SendPush k (⟨x4, x6⟩ : DSend) r4.1).bind fun r5 =>
        bif (r5.2 == 0) then
          spec_l4Draw_l8 k x0 r4.2.b r4.2.p x3 r5.1.Base x5 r5.1.Items
        else
          spec_l4Draw_l8 k x0 r4.2.b r4.2.p x3 x4 x5 x6
      ) (
        both (
          (spec_l1Message k (⟨x1, x2⟩ : DL1Rd)).bind fun r6 =>
          (spec_SendPush k (⟨x4, x6⟩ : DSend) r6.1).bind fun r7 =>
          bif (r7.2 == 0) then
            spec_l4Draw_l8 k x0 r6.2.b r6.2.p x3 r7.1.Base x5 r7.1.Items
          else
            spec_l4Draw_l8 k x0 r6.2.b r6.2.p x3 x4 x5 x6
        ) (
          (spec_l1Message k (⟨x1, x2⟩ : DL1Rd)).bind fun r8 =>
          (spec_SendPush k (⟨x4, x6⟩ : DSend) r8.1).bind fun r9 =>
          bif (r9.2 == 0) then
            spec_l4Draw_l8 k x0 r8.2.b r8.2.p x3 r9.1.Base x5 r9.1.Items
          else
            spec_l4Draw_l8 k x0 r8.2.b r8.2.p x3 x4 x5 x6
        )
      )
    else
      (spec_l1Rd_pick k (⟨x1, x2⟩ : DL1Rd) 12).bind fun r10 =>
      bif (r10.1 == 0) then
        (spec_l1Rd_pick k r10.2 3).bind fun r11 =>
        spec_l4Draw_l16 k (IntKind.wrap .i64 (60 - r11.1)) r11.2.b r11.2.p x3 x4 x5 x6
      else
        spec_l4Draw_l18 k r10.2.b r10.2.p x3 x4 x5 x6
noncomputable def spec_l4Draw_l8 : Nat → Int → List Int → Int → Int → Int → List DItem → List DItem → Option (DSend × DL1Rd)
  | 0, _, _, _, _, _, _, _ => none
  | k + 1, x0, x1, x2, x3, x4, x5, x6 =>
    (spec_l1Rd_pick k (⟨x1, x2⟩ : DL1Rd) 6).bind fun r12 =>
    spec_l4Draw_l9 k x0 r12.1 r12.2.b r12.2.p x3 x4 x5 x6
noncomputable def spec_l4Draw_l16 : Nat → Int → List Int → Int → Int → Int → List DItem → List DItem → Option (DSend × DL1Rd)
  | 0, _, _, _, _, _, _, _ => none
  | k + 1, x0, x1, x2, x3, x4, x5, x6 =>
    bif (decide ((x6.length : Int) < x0)) then
      bif (decide ((IntKind.wrap .i64 (x4 + (x6.length : Int))) < 1000000)) then
        (app 40 x6 ([(⟨(⟨(⟨#[102]⟩ : ByteArray), true⟩ : DPart), false, (-1)⟩ : DItem)] : List DItem)).bind fun l13 =>
        spec_l4Draw_l16 k x0 x1 x2 x3 x4 x5 l13
      else
        spec_l4Draw_l18 k x1 x2 x3 x4 x5 x6
    else
      spec_l4Draw_l18 k x1 x2 x3 x4 x5 x6
noncomputable def spec_l4Draw_l18 : Nat → List Int → Int → Int → Int → List DItem → List DItem → Option (DSend × DL1Rd)
  | 0, _, _, _, _, _, _ => none
  | k + 1, x0, x1, x2, x3, x4, x5 =>
    (spec_l4Copy k (⟨x3, x5⟩ : DSend)).bind fun r14 =>
    some (r14, (⟨x0, x1⟩ : DL1Rd))
noncomputable def spec_l4Draw_l9 : Nat → Int → Int → List Int → Int → Int → Int → List DItem → List DItem → Option (DSend × DL1Rd)
  | 0, _, _, _, _, _, _, _, _ => none
  | k + 1, x0, x1, x2, x3, x4, x5, x6, x7 =>
    bif (decide (x1 > 0)) then
      (spec_SendTick k (⟨x5, x7⟩ : DSend)).bind fun r15 =>
      spec_l4Draw_l9 k x0 (IntKind.wrap .i64 (x1 - 1)) x2 x3 x4 r15.1.Base x6 r15.1.Items
    else
      (spec_l1Rd_pick k (⟨x2, x3⟩ : DL1Rd) 3).bind fun r16 =>
      bif (r16.1 == 0) then
        (spec_l1Rd_pick k r16.2 4).bind fun r17 =>
        (spec_l1Rd_pick k r17.2 256).bind fun r18 =>
        (spec_SendWord k (⟨x5, x7⟩ : DSend) (IntKind.wrap .i64 (x5 + r17.1)) r18.1).bind fun r19 =>
        spec_l4Draw_l4 k x0 r18.2.b r18.2.p x4 r19.Base x6 r19.Items
      else
        spec_l4Draw_l4 k x0 r16.2.b r16.2.p x4 x5 x6 x7
noncomputable def spec_l4Draw_l4 : Nat → Int → List Int → Int → Int → Int → List DItem → List DItem → Option (DSend × DL1Rd)
  | 0, _, _, _, _, _, _, _ => none
  | k + 1, x0, x1, x2, x3, x4, x5, x6 =>
    spec_l4Draw_l3 k (IntKind.wrap .i64 (x0 - 1)) x1 x2 x3 x4 x5 x6
end
noncomputable def spec_l4Draw (k : Nat) (a0 : DL1Rd) : Option (DSend × DL1Rd) :=
  (spec_l1Rd_pick k a0 5).bind fun r1 =>
  (idx ([0, 0, 3, 1000, 999940] : List Int) r1.1).bind fun y2 =>
  (spec_l1Rd_pick k r1.2 5).bind fun r3 =>
  spec_l4Draw_l3 k r3.1 r3.2.b r3.2.p 0 y2 ([] : List DItem) ([] : List DItem)
mutual
noncomputable def spec_l4Spoil_l4 : Nat → List Int → Int → Int → Int → List DItem → List DItem → Option (DSend × DL1Rd)
  | 0, _, _, _, _, _, _ => none
  | k + 1, x0, x1, x2, x3, x4, x5 =>
    (spec_l1Rd_pick k (⟨x0, x1⟩ : DL1Rd) (x5.length : Int)).bind fun r2 =>
    (spec_l1Rd_pick k r2.2 6).bind fun r3 =>
    bif (r3.1 == 0) then
      (spec_l1Rd_pick k r3.2 3).bind fun r4 =>
      (idx ([(-1), 1000000, 1000001] : List Int) r4.1).bind fun y5 =>
      spec_l4Spoil_l21 k r4.2.b r4.2.p x2 y5 x4 x5
    else
      bif (r3.1 == 1) then
        (spec_l1Rd_pick k r3.2 5).bind fun r6 =>
        (idx ([(-2), (-1), 0, 3, 4] : List Int) r6.1).bind fun y7 =>
        (idx x5 r2.1).bind fun _ =>
        (x5[(Int.toNat r2.1)]?).bind fun y8 =>
        spec_l4Spoil_l21 k r6.2.b r6.2.p x2 x3 x4 (x5.set (Int.toNat r2.1) (⟨y8.Part, y8.Has, y7⟩ : DItem))
      else
        bif (r3.1 == 2) then
          (idx x5 r2.1).bind fun _ =>
          (x5[(Int.toNat r2.1)]?).bind fun y9 =>
          (idx x5 r2.1).bind fun _ =>
          (x5[(Int.toNat r2.1)]?).bind fun y10 =>
          spec_l4Spoil_l21 k r3.2.b r3.2.p x2 x3 x4 (x5.set (Int.toNat r2.1) (⟨y10.Part, (!y9.Has), y10.Since⟩ : DItem))
        else
          bif (r3.1 == 3) then
            (spec_l1Rd_pick k r3.2 2).bind fun r11 =>
            (spec_l1Many k (⟨#[115]⟩ : ByteArray) (IntKind.wrap .i64 (20 + r11.1))).bind fun r12 =>
            (idx x5 r2.1).bind fun _ =>
            (x5[(Int.toNat r2.1)]?).bind fun y13 =>
            spec_l4Spoil_l21 k r11.2.b r11.2.p x2 x3 x4 (x5.set (Int.toNat r2.1) (⟨(⟨r12, y13.Part.Last⟩ : DPart), y13.Has, y13.Since⟩ : DItem))
          else
            bif (r3.1 == 4) then
              (spec_l1Rd_pick k r3.2 2).bind fun r14 =>
              spec_l4Spoil_l19 k (IntKind.wrap .i64 (60 + r14.1)) r14.2.b r14.2.p x2 x3 x4 x5
            else
              spec_l4Spoil_l6 k r3.2.b r3.2.p x2 x3 x4 x5
noncomputable def spec_l4Spoil_l21 : Nat → List Int → Int → Int → Int → List DItem → List DItem → Option (DSend × DL1Rd)
  | 0, _, _, _, _, _, _ => none
  | k + 1, x0, x1, x2, x3, x4, x5 =>
    some ((⟨x3, x5⟩ : DSend), (⟨x0, x1⟩ : DL1Rd))
noncomputable def spec_l4Spoil_l19 : Nat → Int → List Int → Int → Int → Int → List DItem → List DItem → Option (DSend × DL1Rd)
  | 0, _, _, _, _, _, _, _ => none
  | k + 1, x0, x1, x2, x3, x4, x5, x6 =>
    bif (decide ((x6.length : Int) < x0)) then
      (app 40 x6 ([(⟨(⟨(⟨#[]⟩ : ByteArray), false⟩ : DPart), false, (-1)⟩ : DItem)] : List DItem)).bind fun l15 =>
      spec_l4Spoil_l19 k x0 x1 x2 x3 x4 x5 l15
    else
      spec_l4Spoil_l21 k x1 x2 x3 x4 x5 x6
noncomputable def spec_l4Spoil_l6 : Nat → List Int → Int → Int → Int → List DItem → List DItem → Option (DSend × DL1Rd)
  | 0, _, _, _, _, _, _ => none
  | k + 1, x0, x1, x2, x3, x4, x5 =>
    bif (decide ((x5.length : Int) ≤ 8)) then
      (app 40 x5 ([(⟨(⟨(⟨#[]⟩ : ByteArray), false⟩ : DPart), false, (-1)⟩ : DItem)] : List DItem)).bind fun l16 =>
      spec_l4Spoil_l6 k x0 x1 x2 x3 x4 l16
    else
      (spec_l1Rd_pick k (⟨x0, x1⟩ : DL1Rd) 2).bind fun r17 =>
      (idx x5 8).bind fun _ =>
      (x5[(Int.toNat 8)]?).bind fun y18 =>
      spec_l4Spoil_l21 k r17.2.b r17.2.p x2 x3 x4 (x5.set (Int.toNat 8) (⟨y18.Part, y18.Has, (IntKind.wrap .i64 (r17.1 - 1))⟩ : DItem))
end
noncomputable def spec_l4Spoil (k : Nat) (a0 : DL1Rd) (a1 : DSend) : Option (DSend × DL1Rd) :=
  (spec_l4Copy k a1).bind fun r1 =>
  bif ((r1.Items.length : Int) == 0) then
    spec_l4Spoil_l4 k a0.b a0.p 0 r1.Base ([] : List DItem) ([(⟨(⟨(⟨#[]⟩ : ByteArray), false⟩ : DPart), false, (-1)⟩ : DItem)] : List DItem)
  else
    spec_l4Spoil_l4 k a0.b a0.p 0 r1.Base ([] : List DItem) r1.Items
noncomputable def spec_l4Any (k : Nat) (a0 : DL1Rd) : Option (DSend × DL1Rd) :=
  (spec_l4Draw k a0).bind fun r1 =>
  (spec_l1Rd_pick k r1.2 8).bind fun r2 =>
  bif (r2.1 == 0) then
    (spec_l4Spoil k r2.2 r1.1).bind fun r3 =>
    some (r3.1, r3.2)
  else
    some (r1.1, r2.2)
mutual
noncomputable def spec_l7Reached_l4 : Nat → List Int → Int → ByteArray → Int → ByteArray → ByteArray → Int → ByteArray → List DEnd → List DParcel → List DRecord → List DRecord → List DEnd → List DParcel → List DRecord → List DRecord → Option (DWorld × DL1Rd)
  | 0, _, _, _, _, _, _, _, _, _, _, _, _, _, _, _, _ => none
  | k + 1, x0, x1, x2, x3, x4, x5, x6, x7, x8, x9, x10, x11, x12, x13, x14, x15 =>
    (spec_l1Rd_pick k (⟨x0, x1⟩ : DL1Rd) 50).bind fun r7 =>
    spec_l7Reached_l6 k r7.1 0 r7.2.b r7.2.p x2 x3 x4 x5 x6 x7 x8 x9 x10 x11 x12 x13 x14 x15
noncomputable def spec_l7Reached_l6 : Nat → Int → Int → List Int → Int → ByteArray → Int → ByteArray → ByteArray → Int → ByteArray → List DEnd → List DParcel → List DRecord → List DRecord → List DEnd → List DParcel → List DRecord → List DRecord → Option (DWorld × DL1Rd)
  | 0, _, _, _, _, _, _, _, _, _, _, _, _, _, _, _, _, _, _ => none
  | k + 1, x0, x1, x2, x3, x4, x5, x6, x7, x8, x9, x10, x11, x12, x13, x14, x15, x16, x17 =>
    bif (decide (x1 < x0)) then
      (spec_l7Event k (⟨x2, x3⟩ : DL1Rd)).bind fun r8 =>
      (spec_l7Do k (⟨x7, x8, x14, x15, x9, x16, x17⟩ : DWorld) r8.1).bind fun r9 =>
      (spec_l1Rd_pick k r8.2 5).bind fun r10 =>
      bif (r10.1 == 0) then
        (spec_l7Tick k r9).bind fun r11 =>
        (spec_l1Rd_pick k r10.2 6).bind fun r12 =>
        spec_l7Reached_l12 k x0 x1 r12.1 r12.2.b r12.2.p x4 x5 x6 r11.Key r11.Width r11.Forged x10 x11 x12 x13 r11.Ends r11.Flight r11.Given r11.Taken
      else
        spec_l7Reached_l15 k x0 x1 r10.2.b r10.2.p x4 x5 x6 r9.Key r9.Width r9.Forged x10 x11 x12 x13 r9.Ends r9.Flight r9.Given r9.Taken
    else
      (spec_l7Copy k (⟨x7, x8, x14, x15, x9, x16, x17⟩ : DWorld)).bind fun r13 =>
      some (r13, (⟨x2, x3⟩ : DL1Rd))
noncomputable def spec_l7Reached_l12 : Nat → Int → Int → Int → List Int → Int → ByteArray → Int → ByteArray → ByteArray → Int → ByteArray → List DEnd → List DParcel → List DRecord → List DRecord → List DEnd → List DParcel → List DRecord → List DRecord → Option (DWorld × DL1Rd)
  | 0, _, _, _, _, _, _, _, _, _, _, _, _, _, _, _, _, _, _, _ => none
  | k + 1, x0, x1, x2, x3, x4, x5, x6, x7, x8, x9, x10, x11, x12, x13, x14, x15, x16, x17, x18 =>
    bif (decide (x2 > 0)) then
      bif (decide ((x16.length : Int) > 0)) then
        (spec_l7Bring k (⟨x8, x9, x15, x16, x10, x17, x18⟩ : DWorld) 0).bind fun r14 =>
        spec_l7Reached_l12 k x0 x1 (IntKind.wrap .i64 (x2 - 1)) x3 x4 x5 x6 x7 r14.Key r14.Width r14.Forged x11 x12 x13 x14 r14.Ends r14.Flight r14.Given r14.Taken
      else
        spec_l7Reached_l15 k x0 x1 x3 x4 x5 x6 x7 x8 x9 x10 x11 x12 x13 x14 x15 x16 x17 x18
    else
      spec_l7Reached_l15 k x0 x1 x3 x4 x5 x6 x7 x8 x9 x10 x11 x12 x13 x14 x15 x16 x17 x18
noncomputable def spec_l7Reached_l15 : Nat → Int → Int → List Int → Int → ByteArray → Int → ByteArray → ByteArray → Int → ByteArray → List DEnd → List DParcel → List DRecord → List DRecord → List DEnd → List DParcel → List DRecord → List DRecord → Option (DWorld × DL1Rd)
  | 0, _, _, _, _, _, _, _, _, _, _, _, _, _, _, _, _, _, _ => none
  | k + 1, x0, x1, x2, x3, x4, x5, x6, x7, x8, x9, x10, x11, x12, x13, x14, x15, x16, x17 =>
    (spec_l1Rd_pick k (⟨x2, x3⟩ : DL1Rd) 16).bind fun r15 =>
    bif (r15.1 == 0) then
      (spec_l7Do k (⟨x7, x8, x14, x15, x9, x16, x17⟩ : DWorld) (⟨9, 1, 0, 0, (⟨#[]⟩ : ByteArray)⟩ : DEvent)).bind fun r16 =>
      (spec_l7Do k r16 (⟨9, 2, 0, 0, (⟨#[]⟩ : ByteArray)⟩ : DEvent)).bind fun r17 =>
      spec_l7Reached_l7 k x0 x1 r15.2.b r15.2.p x4 x5 x6 r17.Key r17.Width r17.Forged x10 x11 x12 x13 r17.Ends r17.Flight r17.Given r17.Taken
    else
      spec_l7Reached_l7 k x0 x1 r15.2.b r15.2.p x4 x5 x6 x7 x8 x9 x10 x11 x12 x13 x14 x15 x16 x17
noncomputable def spec_l7Reached_l7 : Nat → Int → Int → List Int → Int → ByteArray → Int → ByteArray → ByteArray → Int → ByteArray → List DEnd → List DParcel → List DRecord → List DRecord → List DEnd → List DParcel → List DRecord → List DRecord → Option (DWorld × DL1Rd)
  | 0, _, _, _, _, _, _, _, _, _, _, _, _, _, _, _, _, _, _ => none
  | k + 1, x0, x1, x2, x3, x4, x5, x6, x7, x8, x9, x10, x11, x12, x13, x14, x15, x16, x17 =>
    spec_l7Reached_l6 k x0 (IntKind.wrap .i64 (x1 + 1)) x2 x3 x4 x5 x6 x7 x8 x9 x10 x11 x12 x13 x14 x15 x16 x17
end
noncomputable def spec_l7Reached (k : Nat) (a0 : DL1Rd) : Option (DWorld × DL1Rd) :=
  (spec_l1Key k a0).bind fun r1 =>
  (spec_l1Width k r1.2).bind fun r2 =>
  (spec_NewWorld k r1.1 r2.1).bind fun r3 =>
  (spec_l1Rd_pick k r2.2 3).bind fun r4 =>
  bif (decide (r4.1 > 0)) then
    (spec_l1Rd_pick k r4.2 4).bind fun r5 =>
    (spec_Calm k r3 (IntKind.wrap .i64 (7 + r5.1)) 1).bind fun r6 =>
    spec_l7Reached_l4 k r5.2.b r5.2.p (⟨#[]⟩ : ByteArray) 0 (⟨#[]⟩ : ByteArray) r6.Key r6.Width r6.Forged ([] : List DEnd) ([] : List DParcel) ([] : List DRecord) ([] : List DRecord) r6.Ends r6.Flight r6.Given r6.Taken
  else
    spec_l7Reached_l4 k r4.2.b r4.2.p (⟨#[]⟩ : ByteArray) 0 (⟨#[]⟩ : ByteArray) r3.Key r3.Width r3.Forged ([] : List DEnd) ([] : List DParcel) ([] : List DRecord) ([] : List DRecord) r3.Ends r3.Flight r3.Given r3.Taken
mutual
noncomputable def spec_l5Draw_l3 : Nat → Int → List Int → Int → Int → ByteArray → Int → ByteArray → List DHeld → List ByteArray → List DHeld → List ByteArray → Option (DTake × DL1Rd)
  | 0, _, _, _, _, _, _, _, _, _, _, _ => none
  | k + 1, x0, x1, x2, x3, x4, x5, x6, x7, x8, x9, x10 =>
    bif (decide (x0 > 0)) then
      (spec_l1Rd_pick k (⟨x1, x2⟩ : DL1Rd) 8).bind fun r4 =>
      bif (r4.1 == 0) then
        (spec_TakePull k (⟨x5, x9, x6, x10⟩ : DTake)).bind fun r5 =>
        spec_l5Draw_l4 k x0 r4.2.b r4.2.p x3 x4 r5.1.Next r5.1.Open x7 x8 r5.1.Held r5.1.Ready
      else
        (spec_l1Rd_pick k r4.2 3).bind fun r6 =>
        bif (r6.1 == 0) then
          (spec_l1Rd_pick k r6.2 9).bind fun r7 =>
          spec_l5Draw_l9 k x0 (IntKind.wrap .i64 (x5 + r7.1)) r7.2.b r7.2.p x3 x4 x5 x6 x7 x8 x9 x10
        else
          spec_l5Draw_l9 k x0 x5 r6.2.b r6.2.p x3 x4 x5 x6 x7 x8 x9 x10
    else
      (spec_l5Copy k (⟨x5, x9, x6, x10⟩ : DTake)).bind fun r8 =>
      some (r8, (⟨x1, x2⟩ : DL1Rd))
noncomputable def spec_l5Draw_l4 : Nat → Int → List Int → Int → Int → ByteArray → Int → ByteArray → List DHeld → List ByteArray → List DHeld → List ByteArray → Option (DTake × DL1Rd)
  | 0, _, _, _, _, _, _, _, _, _, _, _ => none
  | k + 1, x0, x1, x2, x3, x4, x5, x6, x7, x8, x9, x10 =>
    spec_l5Draw_l3 k (IntKind.wrap .i64 (x0 - 1)) x1 x2 x3 x4 x5 x6 x7 x8 x9 x10
noncomputable def spec_l5Draw_l9 : Nat → Int → Int → List Int → Int → Int → ByteArray → Int → ByteArray → List DHeld → List ByteArray → List DHeld → List ByteArray → Option (DTake × DL1Rd)
  | 0, _, _, _, _, _, _, _, _, _, _, _, _ => none
  | k + 1, x0, x1, x2, x3, x4, x5, x6, x7, x8, x9, x10, x11 =>
    (spec_l1Rd_pick k (⟨x2, x3⟩ : DL1Rd) 3).bind fun r9 =>
    (idx ([1, 5, 20] : List Int) r9.1).bind fun y10 =>
    (spec_l1Many k (⟨#[116]⟩ : ByteArray) y10).bind fun r11 =>
    (spec_l1Rd_pick k r9.2 3).bind fun r12 =>
    (spec_TakePart k (⟨x6, x10, x7, x11⟩ : DTake) x1 (⟨r11, (r12.1 == 0)⟩ : DPart)).bind fun r13 =>
    spec_l5Draw_l4 k x0 r12.2.b r12.2.p x4 x5 r13.Next r13.Open x8 x9 r13.Held r13.Ready
end
noncomputable def spec_l5Draw (k : Nat) (a0 : DL1Rd) : Option (DTake × DL1Rd) :=
  (spec_l1Rd_pick k a0 4).bind fun r1 =>
  (idx ([0, 0, 5, 999996] : List Int) r1.1).bind fun y2 =>
  (spec_l1Rd_pick k r1.2 24).bind fun r3 =>
  spec_l5Draw_l3 k r3.1 r3.2.b r3.2.p 0 (⟨#[]⟩ : ByteArray) y2 (⟨#[]⟩ : ByteArray) ([] : List DHeld) ([] : List ByteArray) ([] : List DHeld) ([] : List ByteArray)
mutual
noncomputable def spec_l5Spoil_l20 : Nat → List Int → Int → Int → ByteArray → Int → ByteArray → List DHeld → List ByteArray → List DHeld → List ByteArray → Option (DTake × DL1Rd)
  | 0, _, _, _, _, _, _, _, _, _, _ => none
  | k + 1, x0, x1, x2, x3, x4, x5, x6, x7, x8, x9 =>
    some ((⟨x4, x8, x5, x9⟩ : DTake), (⟨x0, x1⟩ : DL1Rd))
noncomputable def spec_l5Spoil_l15 : Nat → Int → List Int → Int → Int → ByteArray → Int → ByteArray → List DHeld → List ByteArray → List DHeld → List ByteArray → Option (DTake × DL1Rd)
  | 0, _, _, _, _, _, _, _, _, _, _, _ => none
  | k + 1, x0, x1, x2, x3, x4, x5, x6, x7, x8, x9, x10 =>
    bif (decide ((x10.length : Int) < x0)) then
      (app 16 x10 ([(⟨#[]⟩ : ByteArray)] : List ByteArray)).bind fun l20 =>
      spec_l5Spoil_l15 k x0 x1 x2 x3 x4 x5 x6 x7 x8 x9 l20
    else
      spec_l5Spoil_l20 k x1 x2 x3 x4 x5 x6 x7 x8 x9 x10
end
noncomputable def spec_l5Spoil (k : Nat) (a0 : DL1Rd) (a1 : DTake) : Option (DTake × DL1Rd) :=
  (spec_l5Copy k a1).bind fun r1 =>
  (spec_l1Rd_pick k a0 7).bind fun r2 =>
  bif (r2.1 == 0) then
    both (
      (spec_l1Rd_pick k r2.2 4).bind fun r3 =>
      (idx ([(-1), 1000000, 1000001, (IntKind.wrap .i64 (r1.Next + 1))] : List Int) r3.1).bind fun _ =>
      (([(-1), 1000000, 1000001, (IntKind.wrap .i64 (r1.Next + 1))] : List Int)[(Int.toNat r3.1)]?).bind fun y4 =>
      spec_l5Spoil_l20 k r3.2.b r3.2.p 0 (⟨#[]⟩ : ByteArray) y4 r1.Open ([] : List DHeld) ([] : List ByteArray) r1.Held r1.Ready
    ) (
      (spec_l1Rd_pick k r2.2 4).bind fun r5 =>
      (idx ([(-1), 1000000, 1000001, (IntKind.wrap .i64 (r1.Next + 1))] : List Int) r5.1).bind fun _ =>
      (([(-1), 1000000, 1000001, (IntKind.wrap .i64 (r1.Next + 1))] : List Int)[(Int.toNat r5.1)]?).bind fun y6 =>
      spec_l5Spoil_l20 k r5.2.b r5.2.p 0 (⟨#[]⟩ : ByteArray) y6 r1.Open ([] : List DHeld) ([] : List ByteArray) r1.Held r1.Ready
    )
  else
    bif (r2.1 == 1) then
      (spec_l1Rd_pick k r2.2 10).bind fun r7 =>
      (app 32 r1.Held ([(⟨(IntKind.wrap .i64 (r1.Next + r7.1)), (⟨(⟨#[]⟩ : ByteArray), false⟩ : DPart)⟩ : DHeld)] : List DHeld)).bind fun l8 =>
      spec_l5Spoil_l20 k r7.2.b r7.2.p 0 (⟨#[]⟩ : ByteArray) r1.Next r1.Open ([] : List DHeld) ([] : List ByteArray) l8 r1.Ready
    else
      bif (r2.1 == 2) then
        (spec_l1Rd_pick k r2.2 2).bind fun r9 =>
        (spec_l1Many k (⟨#[111]⟩ : ByteArray) (IntKind.wrap .i64 (200 + r9.1))).bind fun r10 =>
        spec_l5Spoil_l20 k r9.2.b r9.2.p 0 (⟨#[]⟩ : ByteArray) r1.Next r10 ([] : List DHeld) ([] : List ByteArray) r1.Held r1.Ready
      else
        bif (r2.1 == 3) then
          (spec_l1Rd_pick k r2.2 2).bind fun r11 =>
          (spec_l1Many k (⟨#[114]⟩ : ByteArray) (IntKind.wrap .i64 (200 + r11.1))).bind fun r12 =>
          (app 16 r1.Ready ([r12] : List ByteArray)).bind fun l13 =>
          spec_l5Spoil_l20 k r11.2.b r11.2.p 0 (⟨#[]⟩ : ByteArray) r1.Next r1.Open ([] : List DHeld) ([] : List ByteArray) r1.Held l13
        else
          bif (r2.1 == 4) then
            (spec_l1Rd_pick k r2.2 2).bind fun r14 =>
            spec_l5Spoil_l15 k (IntKind.wrap .i64 (4 + r14.1)) r14.2.b r14.2.p 0 (⟨#[]⟩ : ByteArray) r1.Next r1.Open ([] : List DHeld) ([] : List ByteArray) r1.Held r1.Ready
          else
            bif (r2.1 == 5) then
              bif (decide ((r1.Held.length : Int) > 0)) then
                (spec_l1Rd_pick k r2.2 2).bind fun r15 =>
                (spec_l1Many k (⟨#[104]⟩ : ByteArray) (IntKind.wrap .i64 (20 + r15.1))).bind fun r16 =>
                (idx r1.Held 0).bind fun _ =>
                (r1.Held[(Int.toNat 0)]?).bind fun y17 =>
                spec_l5Spoil_l20 k r15.2.b r15.2.p 0 (⟨#[]⟩ : ByteArray) r1.Next r1.Open ([] : List DHeld) ([] : List ByteArray) (r1.Held.set (Int.toNat 0) (⟨y17.Seq, (⟨r16, y17.Part.Last⟩ : DPart)⟩ : DHeld)) r1.Ready
              else
                spec_l5Spoil_l20 k r2.2.b r2.2.p 0 (⟨#[]⟩ : ByteArray) r1.Next r1.Open ([] : List DHeld) ([] : List ByteArray) r1.Held r1.Ready
            else
              bif (decide ((r1.Held.length : Int) > 0)) then
                (idx r1.Held 0).bind fun _ =>
                (r1.Held[(Int.toNat 0)]?).bind fun y18 =>
                (app 32 r1.Held ([y18] : List DHeld)).bind fun l19 =>
                spec_l5Spoil_l20 k r2.2.b r2.2.p 0 (⟨#[]⟩ : ByteArray) r1.Next r1.Open ([] : List DHeld) ([] : List ByteArray) l19 r1.Ready
              else
                spec_l5Spoil_l20 k r2.2.b r2.2.p 0 (⟨#[]⟩ : ByteArray) r1.Next r1.Open ([] : List DHeld) ([] : List ByteArray) r1.Held r1.Ready
noncomputable def spec_l5Any (k : Nat) (a0 : DL1Rd) : Option (DTake × DL1Rd) :=
  (spec_l5Draw k a0).bind fun r1 =>
  (spec_l1Rd_pick k r1.2 8).bind fun r2 =>
  bif (r2.1 == 0) then
    (spec_l5Spoil k r2.2 r1.1).bind fun r3 =>
    some (r3.1, r3.2)
  else
    some (r1.1, r2.2)
noncomputable def spec_l6Spoil_l20 : Nat → List Int → Int → Int → Bool → Int → Int → Int → Bool → Int → Int → ByteArray → Int → Bool → Int → Int → Int → Bool → Int → Int → ByteArray → List DItem → List DHeld → List ByteArray → List DItem → List DHeld → List ByteArray → Option (DEnd × DL1Rd)
  | 0, _, _, _, _, _, _, _, _, _, _, _, _, _, _, _, _, _, _, _, _, _, _, _, _, _, _ => none
  | k + 1, x0, x1, x2, x3, x4, x5, x6, x7, x8, x9, x10, x11, x12, x13, x14, x15, x16, x17, x18, x19, x20, x21, x22, x23, x24, x25 =>
    some ((⟨x11, x12, x13, x14, x15, x16, (⟨x17, x23⟩ : DSend), (⟨x18, x24, x19, x25⟩ : DTake)⟩ : DEnd), (⟨x0, x1⟩ : DL1Rd))
noncomputable def spec_l6Spoil (k : Nat) (a0 : DL1Rd) (a1 : DEnd) : Option (DEnd × DL1Rd) :=
  (spec_l6Copy k a1).bind fun r1 =>
  (spec_l1Rd_pick k a0 9).bind fun r2 =>
  bif (r2.1 == 0) then
    (spec_l1Rd_pick k r2.2 5).bind fun r3 =>
    spec_l6Spoil_l20 k r3.2.b r3.2.p 0 false 0 0 0 false 0 0 (⟨#[]⟩ : ByteArray) (IntKind.wrap .i64 (r3.1 - 1)) r1.Up r1.Life r1.Peer r1.Since r1.Owes r1.Send.Base r1.Take.Next r1.Take.Open ([] : List DItem) ([] : List DHeld) ([] : List ByteArray) r1.Send.Items r1.Take.Held r1.Take.Ready
  else
    bif (r2.1 == 1) then
      spec_l6Spoil_l20 k r2.2.b r2.2.p 0 false 0 0 0 false 0 0 (⟨#[]⟩ : ByteArray) r1.Number (!r1.Up) r1.Life r1.Peer r1.Since r1.Owes r1.Send.Base r1.Take.Next r1.Take.Open ([] : List DItem) ([] : List DHeld) ([] : List ByteArray) r1.Send.Items r1.Take.Held r1.Take.Ready
    else
      bif (r2.1 == 2) then
        (spec_l1Rd_pick k r2.2 3).bind fun r4 =>
        (idx ([0, 1000, 1001] : List Int) r4.1).bind fun y5 =>
        spec_l6Spoil_l20 k r4.2.b r4.2.p 0 false 0 0 0 false 0 0 (⟨#[]⟩ : ByteArray) r1.Number r1.Up y5 r1.Peer r1.Since r1.Owes r1.Send.Base r1.Take.Next r1.Take.Open ([] : List DItem) ([] : List DHeld) ([] : List ByteArray) r1.Send.Items r1.Take.Held r1.Take.Ready
      else
        bif (r2.1 == 3) then
          (spec_l1Rd_pick k r2.2 4).bind fun r6 =>
          (idx ([(-1), 0, 1000, 1001] : List Int) r6.1).bind fun y7 =>
          spec_l6Spoil_l20 k r6.2.b r6.2.p 0 false 0 0 0 false 0 0 (⟨#[]⟩ : ByteArray) r1.Number r1.Up r1.Life y7 r1.Since r1.Owes r1.Send.Base r1.Take.Next r1.Take.Open ([] : List DItem) ([] : List DHeld) ([] : List ByteArray) r1.Send.Items r1.Take.Held r1.Take.Ready
        else
          bif (r2.1 == 4) then
            (spec_l1Rd_pick k r2.2 3).bind fun r8 =>
            (idx ([(-1), 1000000, 1000001] : List Int) r8.1).bind fun y9 =>
            spec_l6Spoil_l20 k r8.2.b r8.2.p 0 false 0 0 0 false 0 0 (⟨#[]⟩ : ByteArray) r1.Number r1.Up r1.Life r1.Peer y9 r1.Owes r1.Send.Base r1.Take.Next r1.Take.Open ([] : List DItem) ([] : List DHeld) ([] : List ByteArray) r1.Send.Items r1.Take.Held r1.Take.Ready
          else
            bif (r2.1 == 5) then
              spec_l6Spoil_l20 k r2.2.b r2.2.p 0 false 0 0 0 false 0 0 (⟨#[]⟩ : ByteArray) r1.Number r1.Up r1.Life r1.Peer r1.Since (!r1.Owes) r1.Send.Base r1.Take.Next r1.Take.Open ([] : List DItem) ([] : List DHeld) ([] : List ByteArray) r1.Send.Items r1.Take.Held r1.Take.Ready
            else
              bif (r2.1 == 6) then
                (spec_l4Any k r2.2).bind fun r10 =>
                spec_l6Spoil_l20 k r10.2.b r10.2.p 0 false 0 0 0 false 0 0 (⟨#[]⟩ : ByteArray) r1.Number r1.Up r1.Life r1.Peer r1.Since r1.Owes r10.1.Base r1.Take.Next r1.Take.Open ([] : List DItem) ([] : List DHeld) ([] : List ByteArray) r10.1.Items r1.Take.Held r1.Take.Ready
              else
                bif (r2.1 == 7) then
                  (spec_l5Any k r2.2).bind fun r11 =>
                  spec_l6Spoil_l20 k r11.2.b r11.2.p 0 false 0 0 0 false 0 0 (⟨#[]⟩ : ByteArray) r1.Number r1.Up r1.Life r1.Peer r1.Since r1.Owes r1.Send.Base r11.1.Next r11.1.Open ([] : List DItem) ([] : List DHeld) ([] : List ByteArray) r1.Send.Items r11.1.Held r11.1.Ready
                else
                  (spec_l5Spoil k r2.2 r1.Take).bind fun r12 =>
                  spec_l6Spoil_l20 k r12.2.b r12.2.p 0 false 0 0 0 false 0 0 (⟨#[]⟩ : ByteArray) r1.Number r1.Up r1.Life r1.Peer r1.Since r1.Owes r1.Send.Base r12.1.Next r12.1.Open ([] : List DItem) ([] : List DHeld) ([] : List ByteArray) r1.Send.Items r12.1.Held r12.1.Ready
mutual
noncomputable def spec_l7Spoil_l20 : Nat → Int → List Int → Int → ByteArray → Int → ByteArray → ByteArray → Int → ByteArray → List DEnd → List DParcel → List DRecord → List DRecord → List DEnd → List DParcel → List DRecord → List DRecord → Option (DWorld × DL1Rd)
  | 0, _, _, _, _, _, _, _, _, _, _, _, _, _, _, _, _, _ => none
  | k + 1, x0, x1, x2, x3, x4, x5, x6, x7, x8, x9, x10, x11, x12, x13, x14, x15, x16 =>
    bif (decide ((x16.length : Int) < x0)) then
      (app 40 x16 ([(⟨1, 1, 1, (⟨#[]⟩ : ByteArray)⟩ : DRecord)] : List DRecord)).bind fun l24 =>
      spec_l7Spoil_l20 k x0 x1 x2 x3 x4 x5 x6 x7 x8 x9 x10 x11 x12 x13 x14 x15 l24
    else
      some ((⟨x6, x7, x13, x14, x8, x15, x16⟩ : DWorld), (⟨x1, x2⟩ : DL1Rd))
noncomputable def spec_l7Spoil_l4 : Nat → Int → List Int → Int → ByteArray → Int → ByteArray → ByteArray → Int → ByteArray → List DEnd → List DParcel → List DRecord → List DRecord → List DEnd → List DParcel → List DRecord → List DRecord → Option (DWorld × DL1Rd)
  | 0, _, _, _, _, _, _, _, _, _, _, _, _, _, _, _, _, _ => none
  | k + 1, x0, x1, x2, x3, x4, x5, x6, x7, x8, x9, x10, x11, x12, x13, x14, x15, x16 =>
    bif (decide ((x14.length : Int) < x0)) then
      (app 40 x14 ([(⟨1, (⟨#[]⟩ : ByteArray), (⟨#[]⟩ : ByteArray)⟩ : DParcel)] : List DParcel)).bind fun l25 =>
      spec_l7Spoil_l4 k x0 x1 x2 x3 x4 x5 x6 x7 x8 x9 x10 x11 x12 x13 l25 x15 x16
    else
      some ((⟨x6, x7, x13, x14, x8, x15, x16⟩ : DWorld), (⟨x1, x2⟩ : DL1Rd))
end
noncomputable def spec_l7Spoil (k : Nat) (a0 : DL1Rd) (a1 : DWorld) : Option (DWorld × DL1Rd) :=
  (spec_l7Copy k a1).bind fun r1 =>
  (spec_l1Rd_pick k a0 8).bind fun r2 =>
  bif (r2.1 == 0) then
    (spec_l1Rd_pick k r2.2 2).bind fun r3 =>
    (spec_l1Many k (⟨#[107]⟩ : ByteArray) (IntKind.wrap .i64 (30 + r3.1))).bind fun r4 =>
    some ((⟨r4, r1.Width, r1.Ends, r1.Flight, r1.Forged, r1.Given, r1.Taken⟩ : DWorld), r3.2)
  else
    bif (r2.1 == 1) then
      (spec_l1Rd_pick k r2.2 11).bind fun r5 =>
      some ((⟨r1.Key, (IntKind.wrap .i64 (r5.1 - 1)), r1.Ends, r1.Flight, r1.Forged, r1.Given, r1.Taken⟩ : DWorld), r5.2)
    else
      bif (r2.1 == 2) then
        (spec_l1Rd_pick k r2.2 2).bind fun r6 =>
        (idx r1.Ends 0).bind fun _ =>
        (r1.Ends[(Int.toNat 0)]?).bind fun y7 =>
        (spec_l6Spoil k r6.2 y7).bind fun r8 =>
        (idx r1.Ends r6.1).bind fun _ =>
        (r1.Ends[(Int.toNat r6.1)]?).bind fun y9 =>
        some ((⟨r1.Key, r1.Width, (r1.Ends.set (Int.toNat r6.1) r8.1), r1.Flight, r1.Forged, r1.Given, r1.Taken⟩ : DWorld), r8.2)
      else
        bif (r2.1 == 3) then
          (spec_l1Rd_pick k r2.2 2).bind fun r10 =>
          (wnd r1.Ends.length 0 r10.1).bind fun p11 =>
          some ((⟨r1.Key, r1.Width, (dcut r1.Ends p11.1 p11.2), r1.Flight, r1.Forged, r1.Given, r1.Taken⟩ : DWorld), r10.2)
        else
          bif (r2.1 == 4) then
            (spec_l1Rd_pick k r2.2 4).bind fun r12 =>
            (idx ([0, 1, 2, 3] : List Int) r12.1).bind fun y13 =>
            (spec_l1Rd_pick k r12.2 2).bind fun r14 =>
            (spec_l1Many k (⟨#[98]⟩ : ByteArray) (IntKind.wrap .i64 (100 + r14.1))).bind fun r15 =>
            (app 40 r1.Flight ([(⟨y13, (⟨#[]⟩ : ByteArray), r15⟩ : DParcel)] : List DParcel)).bind fun l16 =>
            some ((⟨r1.Key, r1.Width, r1.Ends, l16, r1.Forged, r1.Given, r1.Taken⟩ : DWorld), r14.2)
          else
            bif (r2.1 == 5) then
              (spec_l1Rd_pick k r2.2 4).bind fun r17 =>
              (spec_l1Rd_pick k r17.2 2).bind fun r18 =>
              (spec_l1Rd_pick k r18.2 2).bind fun r19 =>
              (spec_l1Many k (⟨#[103]⟩ : ByteArray) (IntKind.wrap .i64 (200 + r19.1))).bind fun r20 =>
              (app 40 r1.Given ([(⟨r17.1, 1, r18.1, r20⟩ : DRecord)] : List DRecord)).bind fun l21 =>
              some ((⟨r1.Key, r1.Width, r1.Ends, r1.Flight, r1.Forged, l21, r1.Taken⟩ : DWorld), r19.2)
            else
              bif (r2.1 == 6) then
                (spec_l1Rd_pick k r2.2 2).bind fun r22 =>
                spec_l7Spoil_l20 k (IntKind.wrap .i64 ((IntKind.wrap .i64 (400 + r22.1)) - (r1.Given.length : Int))) r22.2.b r22.2.p (⟨#[]⟩ : ByteArray) 0 (⟨#[]⟩ : ByteArray) r1.Key r1.Width r1.Forged ([] : List DEnd) ([] : List DParcel) ([] : List DRecord) ([] : List DRecord) r1.Ends r1.Flight r1.Given r1.Taken
              else
                (spec_l1Rd_pick k r2.2 2).bind fun r23 =>
                spec_l7Spoil_l4 k (IntKind.wrap .i64 (1000 + r23.1)) r23.2.b r23.2.p (⟨#[]⟩ : ByteArray) 0 (⟨#[]⟩ : ByteArray) r1.Key r1.Width r1.Forged ([] : List DEnd) ([] : List DParcel) ([] : List DRecord) ([] : List DRecord) r1.Ends r1.Flight r1.Given r1.Taken
mutual
noncomputable def spec_l7Any_l7 : Nat → Int → List Int → Int → ByteArray → Int → ByteArray → ByteArray → Int → ByteArray → List DEnd → List DParcel → List DRecord → List DRecord → List DEnd → List DParcel → List DRecord → List DRecord → Option (DWorld × DL1Rd)
  | 0, _, _, _, _, _, _, _, _, _, _, _, _, _, _, _, _, _ => none
  | k + 1, x0, x1, x2, x3, x4, x5, x6, x7, x8, x9, x10, x11, x12, x13, x14, x15, x16 =>
    bif (decide ((x14.length : Int) < x0)) then
      (spec_l1Rd_pick k (⟨x1, x2⟩ : DL1Rd) 2).bind fun r13 =>
      (app 40 x14 ([(⟨(IntKind.wrap .i64 (1 + r13.1)), (⟨#[120]⟩ : ByteArray), (⟨#[120]⟩ : ByteArray)⟩ : DParcel)] : List DParcel)).bind fun l14 =>
      spec_l7Any_l7 k x0 r13.2.b r13.2.p x3 x4 x5 x6 x7 x8 x9 x10 x11 x12 x13 l14 x15 x16
    else
      spec_l7Any_l20 k x1 x2 x3 x4 x5 x6 x7 x8 x9 x10 x11 x12 x13 x14 x15 x16
noncomputable def spec_l7Any_l11 : Nat → Int → List Int → Int → ByteArray → Int → ByteArray → ByteArray → Int → ByteArray → List DEnd → List DParcel → List DRecord → List DRecord → List DEnd → List DParcel → List DRecord → List DRecord → Option (DWorld × DL1Rd)
  | 0, _, _, _, _, _, _, _, _, _, _, _, _, _, _, _, _, _ => none
  | k + 1, x0, x1, x2, x3, x4, x5, x6, x7, x8, x9, x10, x11, x12, x13, x14, x15, x16 =>
    bif (decide ((x16.length : Int) < x0)) then
      (app 40 x16 ([(⟨1, 1, 1, (⟨#[]⟩ : ByteArray)⟩ : DRecord)] : List DRecord)).bind fun l15 =>
      spec_l7Any_l11 k x0 x1 x2 x3 x4 x5 x6 x7 x8 x9 x10 x11 x12 x13 x14 x15 l15
    else
      spec_l7Any_l20 k x1 x2 x3 x4 x5 x6 x7 x8 x9 x10 x11 x12 x13 x14 x15 x16
noncomputable def spec_l7Any_l18 : Nat → List Int → Int → ByteArray → Int → ByteArray → ByteArray → Int → ByteArray → List DEnd → List DParcel → List DRecord → List DRecord → List DEnd → List DParcel → List DRecord → List DRecord → Option (DWorld × DL1Rd)
  | 0, _, _, _, _, _, _, _, _, _, _, _, _, _, _, _, _ => none
  | k + 1, x0, x1, x2, x3, x4, x5, x6, x7, x8, x9, x10, x11, x12, x13, x14, x15 =>
    (spec_l1Rd_pick k (⟨x0, x1⟩ : DL1Rd) 2).bind fun r16 =>
    bif (r16.1 == 0) then
      spec_l7Any_l20 k r16.2.b r16.2.p x2 x3 x4 x5 x6 (⟨#[111, 110, 101, 32, 116, 104, 97, 116, 32, 99, 97, 109, 101, 32, 98, 101, 102, 111, 114, 101]⟩ : ByteArray) x8 x9 x10 x11 x12 x13 x14 x15
    else
      spec_l7Any_l20 k r16.2.b r16.2.p x2 x3 x4 x5 x6 x7 x8 x9 x10 x11 x12 x13 x14 x15
noncomputable def spec_l7Any_l20 : Nat → List Int → Int → ByteArray → Int → ByteArray → ByteArray → Int → ByteArray → List DEnd → List DParcel → List DRecord → List DRecord → List DEnd → List DParcel → List DRecord → List DRecord → Option (DWorld × DL1Rd)
  | 0, _, _, _, _, _, _, _, _, _, _, _, _, _, _, _, _ => none
  | k + 1, x0, x1, x2, x3, x4, x5, x6, x7, x8, x9, x10, x11, x12, x13, x14, x15 =>
    some ((⟨x5, x6, x12, x13, x7, x14, x15⟩ : DWorld), (⟨x0, x1⟩ : DL1Rd))
end
noncomputable def spec_l7Any (k : Nat) (a0 : DL1Rd) : Option (DWorld × DL1Rd) :=
  (spec_l7Reached k a0).bind fun r1 =>
  (spec_l1Rd_pick k r1.2 14).bind fun r2 =>
  bif (r2.1 == 0) then
    (spec_l7Spoil k r2.2 r1.1).bind fun r3 =>
    some (r3.1, r3.2)
  else
    bif (r2.1 == 1) then
      (spec_l1Rd_pick k r2.2 3).bind fun r4 =>
      spec_l7Any_l7 k (IntKind.wrap .i64 (1000 - r4.1)) r4.2.b r4.2.p (⟨#[]⟩ : ByteArray) 0 (⟨#[]⟩ : ByteArray) r1.1.Key r1.1.Width r1.1.Forged ([] : List DEnd) ([] : List DParcel) ([] : List DRecord) ([] : List DRecord) r1.1.Ends r1.1.Flight r1.1.Given r1.1.Taken
    else
      bif (r2.1 == 2) then
        (spec_l1Rd_pick k r2.2 2).bind fun r5 =>
        spec_l7Any_l11 k (IntKind.wrap .i64 ((IntKind.wrap .i64 (400 - r5.1)) - (r1.1.Given.length : Int))) r5.2.b r5.2.p (⟨#[]⟩ : ByteArray) 0 (⟨#[]⟩ : ByteArray) r1.1.Key r1.1.Width r1.1.Forged ([] : List DEnd) ([] : List DParcel) ([] : List DRecord) ([] : List DRecord) r1.1.Ends r1.1.Flight r1.1.Given r1.1.Taken
      else
        bif (r2.1 == 3) then
          (spec_l1Rd_pick k r2.2 2).bind fun r6 =>
          (idx r1.1.Ends (IntKind.wrap .i64 (2 - (IntKind.wrap .i64 (1 + r6.1))))).bind fun _ =>
          (r1.1.Ends[(Int.toNat (IntKind.wrap .i64 (2 - (IntKind.wrap .i64 (1 + r6.1)))))]?).bind fun y7 =>
          (idx r1.1.Ends (IntKind.wrap .i64 ((IntKind.wrap .i64 (1 + r6.1)) - 1))).bind fun _ =>
          (r1.1.Ends[(Int.toNat (IntKind.wrap .i64 ((IntKind.wrap .i64 (1 + r6.1)) - 1)))]?).bind fun y8 =>
          (idx r1.1.Ends (IntKind.wrap .i64 ((IntKind.wrap .i64 (1 + r6.1)) - 1))).bind fun _ =>
          (r1.1.Ends[(Int.toNat (IntKind.wrap .i64 ((IntKind.wrap .i64 (1 + r6.1)) - 1)))]?).bind fun y9 =>
          (idx r1.1.Ends (IntKind.wrap .i64 ((IntKind.wrap .i64 (1 + r6.1)) - 1))).bind fun _ =>
          (r1.1.Ends[(Int.toNat (IntKind.wrap .i64 ((IntKind.wrap .i64 (1 + r6.1)) - 1)))]?).bind fun y10 =>
          bif (decide (y10.Life > 0)) then
            (spec_FormPacket k (⟨2, (IntKind.wrap .i64 (3 - (IntKind.wrap .i64 (1 + r6.1)))), y7.Life, y8.Life, 0, 0, y9.Take.Next, true, (⟨#[109, 97, 100, 101, 32, 117, 112]⟩ : ByteArray)⟩ : DPacket) r1.1.Key r1.1.Width).bind fun r11 =>
            (app 40 ([(⟨(IntKind.wrap .i64 (1 + r6.1)), (⟨#[119, 97, 115]⟩ : ByteArray), r11⟩ : DParcel)] : List DParcel) r1.1.Flight).bind fun l12 =>
            spec_l7Any_l18 k r6.2.b r6.2.p (⟨#[]⟩ : ByteArray) 0 (⟨#[]⟩ : ByteArray) r1.1.Key r1.1.Width r1.1.Forged ([] : List DEnd) ([] : List DParcel) ([] : List DRecord) ([] : List DRecord) r1.1.Ends l12 r1.1.Given r1.1.Taken
          else
            spec_l7Any_l18 k r6.2.b r6.2.p (⟨#[]⟩ : ByteArray) 0 (⟨#[]⟩ : ByteArray) r1.1.Key r1.1.Width r1.1.Forged ([] : List DEnd) ([] : List DParcel) ([] : List DRecord) ([] : List DRecord) r1.1.Ends r1.1.Flight r1.1.Given r1.1.Taken
        else
          spec_l7Any_l20 k r2.2.b r2.2.p (⟨#[]⟩ : ByteArray) 0 (⟨#[]⟩ : ByteArray) r1.1.Key r1.1.Width r1.1.Forged ([] : List DEnd) ([] : List DParcel) ([] : List DRecord) ([] : List DRecord) r1.1.Ends r1.1.Flight r1.1.Given r1.1.Taken
noncomputable def spec_DrawCalm_l6 : Nat → Int → ByteArray → Int → ByteArray → List Int → Int → ByteArray → Int → ByteArray → List DEnd → List DParcel → List DRecord → List DRecord → List DEnd → List DParcel → List DRecord → List DRecord → Option (DWorld × Int × Int)
  | 0, _, _, _, _, _, _, _, _, _, _, _, _, _, _, _, _, _ => none
  | k + 1, x0, x1, x2, x3, x4, x5, x6, x7, x8, x9, x10, x11, x12, x13, x14, x15, x16 =>
    (spec_l1Rd_pick k (⟨x4, x5⟩ : DL1Rd) 40).bind fun r7 =>
    some ((⟨x6, x7, x13, x14, x8, x15, x16⟩ : DWorld), (IntKind.wrap .i64 (r7.1 - 1)), x0)
noncomputable def spec_DrawCalm (k : Nat) (a0 : List Int) : Option (DWorld × Int × Int) :=
  (spec_l1Open k a0).bind fun r1 =>
  (spec_l7Any k r1).bind fun r2 =>
  (spec_l1Rd_pick k r2.2 4).bind fun r3 =>
  (spec_l1Rd_pick k r3.2 12).bind fun r4 =>
  bif (r4.1 == 0) then
    (spec_l1Rd_pick k r4.2 4).bind fun r5 =>
    (idx ([0, 11, 10, (-1)] : List Int) r5.1).bind fun y6 =>
    spec_DrawCalm_l6 k y6 (⟨#[]⟩ : ByteArray) 0 (⟨#[]⟩ : ByteArray) r5.2.b r5.2.p r2.1.Key r2.1.Width r2.1.Forged ([] : List DEnd) ([] : List DParcel) ([] : List DRecord) ([] : List DRecord) r2.1.Ends r2.1.Flight r2.1.Given r2.1.Taken
  else
    spec_DrawCalm_l6 k (IntKind.wrap .i64 (1 + r3.1)) (⟨#[]⟩ : ByteArray) 0 (⟨#[]⟩ : ByteArray) r4.2.b r4.2.p r2.1.Key r2.1.Width r2.1.Forged ([] : List DEnd) ([] : List DParcel) ([] : List DRecord) ([] : List DRecord) r2.1.Ends r2.1.Flight r2.1.Given r2.1.Taken
end Km.X
namespace Km.X
open Go Km
set_option linter.unusedVariables false
set_option maxRecDepth 100000
end Km.X
namespace Km.X
open Go Km
set_option linter.unusedVariables false
set_option maxRecDepth 100000
end Km.X
namespace Km.X
open Go Km
set_option linter.unusedVariables false
set_option maxRecDepth 100000
noncomputable def laws_FnCalm_l8 : Nat → List Int → Int → ByteArray → Int → ByteArray → List DEnd → List DParcel → List DRecord → List DRecord → Option (Bool)
  | 0, _, _, _, _, _, _, _, _, _ => none
  | k + 1, x0, x1, x2, x3, x4, x5, x6, x7, x8 =>
    (qrem (x0.length : Int) 11).bind fun q5 =>
    (impl_Calm k (⟨x2, x3, x5, x6, x4, x7, x8⟩ : DWorld) x1 1).bind fun r6 =>
    (impl_Calm k r6 q5 1).bind fun r7 =>
    (impl_Calm k (⟨x2, x3, x5, x6, x4, x7, x8⟩ : DWorld) (IntKind.wrap .i64 (x1 + q5)) 1).bind fun r8 =>
    (laws_wWorld k r7 r8).bind fun r9 =>
    bif (!r9) then
      some false
    else
      (spec_ValidWorld k (⟨x2, x3, x5, x6, x4, x7, x8⟩ : DWorld)).bind fun r10 =>
      bif (!r10) then
        (laws_wWorld k r8 (⟨(⟨#[]⟩ : ByteArray), 0, ([] : List DEnd), ([] : List DParcel), (⟨#[]⟩ : ByteArray), ([] : List DRecord), ([] : List DRecord)⟩ : DWorld)).bind fun r11 =>
        some r11
      else
        bif ((IntKind.wrap .i64 (x1 + q5)) == 0) then
          (impl_Calm k (⟨x2, x3, x5, x6, x4, x7, x8⟩ : DWorld) 0 1).bind fun r12 =>
          (laws_wWorld k r12 (⟨x2, x3, x5, x6, x4, x7, x8⟩ : DWorld)).bind fun r13 =>
          some r13
        else
          bif ((r8.Flight.length : Int) == 0) then
            (impl_Calm k (⟨x2, x3, x5, x6, x4, x7, x8⟩ : DWorld) 0 1).bind fun r14 =>
            (laws_wWorld k r14 (⟨x2, x3, x5, x6, x4, x7, x8⟩ : DWorld)).bind fun r15 =>
            some r15
          else
            some false
noncomputable def laws_FnCalm (k : Nat) (a0 : List Int) (a1 : List Int) : Option (Bool) :=
  bif (decide ((a0.length : Int) > 1048576)) then
    some true
  else
    bif (decide ((a1.length : Int) > 1048576)) then
      some true
    else
      (spec_DrawCalm k a0).bind fun r1 =>
      (impl_Calm k r1.1 r1.2.1 r1.2.2).bind fun r2 =>
      (spec_Calm k r1.1 r1.2.1 r1.2.2).bind fun r3 =>
      (laws_wWorld k r2 r3).bind fun r4 =>
      bif (!r4) then
        some false
      else
        bif (decide (r1.2.1 < 0)) then
          laws_FnCalm_l8 k a1 0 r1.1.Key r1.1.Width r1.1.Forged r1.1.Ends r1.1.Flight r1.1.Given r1.1.Taken
        else
          laws_FnCalm_l8 k a1 r1.2.1 r1.1.Key r1.1.Width r1.1.Forged r1.1.Ends r1.1.Flight r1.1.Given r1.1.Taken
end Km.X
