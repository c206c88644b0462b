/- A part of the proof of FnPackets: the functions that it reads off the program. There is no condition. -/
import Derived.Test.YtlgdbdkjkjocjaaKxDef1
namespace Km.X
open Go Km
set_option linter.unusedVariables false
set_option maxRecDepth 100000
noncomputable def impl_NewWorld (k : Nat) (a0 : ByteArray) (a1 : Int) : Option (DWorld) :=
  bif (decide (a1 < 1)) then
    some (⟨(⟨#[]⟩ : ByteArray), 0, ([] : List DEnd), ([] : List DParcel), (⟨#[]⟩ : ByteArray), ([] : List DRecord), ([] : List DRecord)⟩ : DWorld)
  else
    bif (decide (a1 > 8)) then
      some (⟨(⟨#[]⟩ : ByteArray), 0, ([] : List DEnd), ([] : List DParcel), (⟨#[]⟩ : ByteArray), ([] : List DRecord), ([] : List DRecord)⟩ : DWorld)
    else
      bif (decide ((a0.size : Int) > 30)) then
        some (⟨(⟨#[]⟩ : ByteArray), 0, ([] : List DEnd), ([] : List DParcel), (⟨#[]⟩ : ByteArray), ([] : List DRecord), ([] : List DRecord)⟩ : DWorld)
      else
        (impl_NewEnd k 1).bind fun r1 =>
        (impl_NewEnd k 2).bind fun r2 =>
        some (⟨a0, a1, ([r1, r2] : List DEnd), ([] : List DParcel), (⟨#[]⟩ : ByteArray), ([] : List DRecord), ([] : List DRecord)⟩ : DWorld)
noncomputable def spec_NewWorld (k : Nat) (a0 : ByteArray) (a1 : Int) : Option (DWorld) :=
  (spec_l1In k a1 1 8).bind fun r1 =>
  bif (!r1) then
    some (⟨(⟨#[]⟩ : ByteArray), 0, ([] : List DEnd), ([] : List DParcel), (⟨#[]⟩ : ByteArray), ([] : List DRecord), ([] : List DRecord)⟩ : DWorld)
  else
    bif (decide ((a0.size : Int) > 30)) then
      some (⟨(⟨#[]⟩ : ByteArray), 0, ([] : List DEnd), ([] : List DParcel), (⟨#[]⟩ : ByteArray), ([] : List DRecord), ([] : List DRecord)⟩ : DWorld)
    else
      (spec_NewEnd k 1).bind fun r2 =>
      (spec_NewEnd k 2).bind fun r3 =>
      some (⟨a0, a1, ([r2, r3] : List DEnd), ([] : List DParcel), (⟨#[]⟩ : ByteArray), ([] : List DRecord), ([] : List DRecord)⟩ : DWorld)
noncomputable def laws_wForgery (k : Nat) (a0 : DWorld) (a1 : DEvent) : Option (Bool) :=
  bif (a1.Kind != 2) then
    some false
  else
    bif (decide (a1.A < 0)) then
      some false
    else
      bif (decide (a1.A ≥ (a0.Flight.length : Int))) then
        some false
      else
        (idx a0.Flight a1.A).bind fun y1 =>
        (idx a0.Flight a1.A).bind fun y2 =>
        bif (y1.Bytes.toList == y2.Sent.toList) then
          some false
        else
          (idx a0.Flight a1.A).bind fun y3 =>
          (spec_ReadPacket k y3.Bytes a0.Key a0.Width).bind fun r4 =>
          some r4.2
mutual
noncomputable def impl_ValidWorld_l4 : Nat → List DEnd → Int → Int → ByteArray → Int → List DEnd → List DParcel → ByteArray → List DRecord → List DRecord → Option (Bool)
  | 0, _, _, _, _, _, _, _, _, _, _ => none
  | k + 1, x0, x1, x2, x3, x4, x5, x6, x7, x8, x9 =>
    bif (decide (x2 < x1)) then
      (idx x0 x2).bind fun y1 =>
      (impl_ValidEnd k y1).bind fun r2 =>
      bif (!r2) then
        some false
      else
        bif (y1.Number != (IntKind.wrap .i64 (x2 + 1))) then
          some false
        else
          impl_ValidWorld_l4 k x0 x1 (IntKind.wrap .i64 (x2 + 1)) x3 x4 x5 x6 x7 x8 x9
    else
      impl_ValidWorld_l10 k x6 (x6.length : Int) 0 x3 x4 x5 x6 x7 x8 x9
noncomputable def impl_ValidWorld_l10 : Nat → List DParcel → Int → Int → ByteArray → Int → List DEnd → List DParcel → ByteArray → List DRecord → List DRecord → Option (Bool)
  | 0, _, _, _, _, _, _, _, _, _, _ => none
  | k + 1, x0, x1, x2, x3, x4, x5, x6, x7, x8, x9 =>
    bif (decide (x2 < x1)) then
      (idx x0 x2).bind fun y3 =>
      bif (y3.To != 1) then
        bif (y3.To != 2) then
          some false
        else
          bif (decide ((y3.Sent.size : Int) > 100)) then
            some false
          else
            bif (decide ((y3.Bytes.size : Int) > 100)) then
              some false
            else
              impl_ValidWorld_l10 k x0 x1 (IntKind.wrap .i64 (x2 + 1)) x3 x4 x5 x6 x7 x8 x9
      else
        bif (decide ((y3.Sent.size : Int) > 100)) then
          some false
        else
          bif (decide ((y3.Bytes.size : Int) > 100)) then
            some false
          else
            impl_ValidWorld_l10 k x0 x1 (IntKind.wrap .i64 (x2 + 1)) x3 x4 x5 x6 x7 x8 x9
    else
      impl_ValidWorld_l16 k (([x8, x9] : List (List DRecord)).length : Int) 0 ([x8, x9] : List (List DRecord))
noncomputable def impl_ValidWorld_l16 : Nat → Int → Int → List (List DRecord) → Option (Bool)
  | 0, _, _, _ => none
  | k + 1, x0, x1, x2 =>
    bif (decide (x1 < x0)) then
      (idx x2 x1).bind fun _ =>
      (x2[(Int.toNat x1)]?).bind fun y4 =>
      impl_ValidWorld_l19 k x0 x1 y4 (y4.length : Int) 0 x2
    else
      some true
noncomputable def impl_ValidWorld_l19 : Nat → Int → Int → List DRecord → Int → Int → List (List DRecord) → Option (Bool)
  | 0, _, _, _, _, _, _ => none
  | k + 1, x0, x1, x2, x3, x4, x5 =>
    bif (decide (x4 < x3)) then
      (idx x2 x4).bind fun y5 =>
      bif (y5.From != 1) then
        bif (y5.From != 2) then
          some false
        else
          (impl_in k y5.A 1 1000).bind fun r6 =>
          bif (!r6) then
            some false
          else
            (impl_in k y5.B 1 1000).bind fun r7 =>
            bif (!r7) then
              some false
            else
              bif (decide ((y5.Text.size : Int) > 200)) then
                some false
              else
                impl_ValidWorld_l19 k x0 x1 x2 x3 (IntKind.wrap .i64 (x4 + 1)) x5
      else
        (impl_in k y5.A 1 1000).bind fun r8 =>
        bif (!r8) then
          some false
        else
          (impl_in k y5.B 1 1000).bind fun r9 =>
          bif (!r9) then
            some false
          else
            bif (decide ((y5.Text.size : Int) > 200)) then
              some false
            else
              impl_ValidWorld_l19 k x0 x1 x2 x3 (IntKind.wrap .i64 (x4 + 1)) x5
    else
      impl_ValidWorld_l16 k x0 (IntKind.wrap .i64 (x1 + 1)) x5
end
noncomputable def impl_ValidWorld (k : Nat) (a0 : DWorld) : Option (Bool) :=
  bif (decide (a0.Width < 1)) then
    some false
  else
    bif (decide (a0.Width > 8)) then
      some false
    else
      bif (decide ((a0.Key.size : Int) > 30)) then
        some false
      else
        bif ((a0.Ends.length : Int) != 2) then
          some false
        else
          bif (decide ((a0.Flight.length : Int) > 1000)) then
            some false
          else
            bif (decide ((IntKind.wrap .i64 ((a0.Given.length : Int) + (a0.Taken.length : Int))) > 400)) then
              some false
            else
              impl_ValidWorld_l4 k a0.Ends (a0.Ends.length : Int) 0 a0.Key a0.Width a0.Ends a0.Flight a0.Forged a0.Given a0.Taken
noncomputable def impl_copyWorld_l3 : Nat → Int → Int → ByteArray → Int → List DParcel → ByteArray → List DRecord → List DRecord → ByteArray → Int → ByteArray → List DEnd → List DEnd → List DParcel → List DRecord → List DRecord → Option (DWorld)
  | 0, _, _, _, _, _, _, _, _, _, _, _, _, _, _, _, _ => none
  | k + 1, x0, x1, x2, x3, x4, x5, x6, x7, x8, x9, x10, x11, x12, x13, x14, x15 =>
    bif (decide (x1 < x0)) then
      (idx x11 x1).bind fun _ =>
      (x11[(Int.toNat x1)]?).bind fun y2 =>
      (impl_copyEnd k y2).bind fun r3 =>
      (idx x11 x1).bind fun _ =>
      (x11[(Int.toNat x1)]?).bind fun y4 =>
      impl_copyWorld_l3 k x0 (IntKind.wrap .i64 (x1 + 1)) x2 x3 x4 x5 x6 x7 x8 x9 x10 (x11.set (Int.toNat x1) r3) x12 x13 x14 x15
    else
      (app 40 ([] : List DParcel) x4).bind fun l5 =>
      (app 40 ([] : List DRecord) x6).bind fun l6 =>
      (app 40 ([] : List DRecord) x7).bind fun l7 =>
      some (⟨x2, x3, x11, l5, x5, l6, l7⟩ : DWorld)
noncomputable def impl_copyWorld (k : Nat) (a0 : DWorld) : Option (DWorld) :=
  (app 152 ([] : List DEnd) a0.Ends).bind fun l1 =>
  impl_copyWorld_l3 k (l1.length : Int) 0 a0.Key a0.Width a0.Flight a0.Forged a0.Given a0.Taken (⟨#[]⟩ : ByteArray) 0 (⟨#[]⟩ : ByteArray) l1 ([] : List DEnd) ([] : List DParcel) ([] : List DRecord) ([] : List DRecord)
mutual
noncomputable def impl_World_tick_l1 : Nat → Int → Int → ByteArray → Int → ByteArray → List DEnd → List DParcel → List DRecord → List DRecord → Option (DWorld)
  | 0, _, _, _, _, _, _, _, _, _ => none
  | k + 1, x0, x1, x2, x3, x4, x5, x6, x7, x8 =>
    bif (decide (x1 < x0)) then
      (idx x5 x1).bind fun _ =>
      (x5[(Int.toNat x1)]?).bind fun y1 =>
      (impl_EndTick k y1).bind fun r2 =>
      (idx x5 x1).bind fun _ =>
      (x5[(Int.toNat x1)]?).bind fun y3 =>
      impl_World_tick_l6 k x1 x0 x1 (r2.Out.length : Int) 0 x2 x3 x4 r2.Out (x5.set (Int.toNat x1) r2.End) x6 x7 x8
    else
      some (⟨x2, x3, x5, x6, x4, x7, x8⟩ : DWorld)
noncomputable def impl_World_tick_l6 : Nat → Int → Int → Int → Int → Int → ByteArray → Int → ByteArray → List DPacket → List DEnd → List DParcel → List DRecord → List DRecord → Option (DWorld)
  | 0, _, _, _, _, _, _, _, _, _, _, _, _, _ => none
  | k + 1, x0, x1, x2, x3, x4, x5, x6, x7, x8, x9, x10, x11, x12 =>
    bif (decide (x4 < x3)) then
      (idx x8 x4).bind fun _ =>
      (x8[(Int.toNat x4)]?).bind fun y4 =>
      bif (decide ((x10.length : Int) < 1000)) then
        (impl_FormPacket k y4 x5 x6).bind fun r5 =>
        (app 40 x10 ([(⟨(IntKind.wrap .i64 (2 - x0)), r5, r5⟩ : DParcel)] : List DParcel)).bind fun l6 =>
        impl_World_tick_l11 k x0 x1 x2 x3 x4 x5 x6 x7 x8 x9 l6 x11 x12
      else
        impl_World_tick_l11 k x0 x1 x2 x3 x4 x5 x6 x7 x8 x9 x10 x11 x12
    else
      impl_World_tick_l1 k x1 (IntKind.wrap .i64 (x2 + 1)) x5 x6 x7 x9 x10 x11 x12
noncomputable def impl_World_tick_l11 : Nat → Int → Int → Int → Int → Int → ByteArray → Int → ByteArray → List DPacket → List DEnd → List DParcel → List DRecord → List DRecord → Option (DWorld)
  | 0, _, _, _, _, _, _, _, _, _, _, _, _, _ => none
  | k + 1, x0, x1, x2, x3, x4, x5, x6, x7, x8, x9, x10, x11, x12 =>
    impl_World_tick_l6 k x0 x1 x2 x3 (IntKind.wrap .i64 (x4 + 1)) x5 x6 x7 x8 x9 x10 x11 x12
end
noncomputable def impl_World_tick (k : Nat) (a0 : DWorld) : Option (DWorld) :=
  impl_World_tick_l1 k (a0.Ends.length : Int) 0 a0.Key a0.Width a0.Forged a0.Ends a0.Flight a0.Given a0.Taken
noncomputable def impl_World_bring_l5 : Nat → ByteArray → Int → ByteArray → Int → ByteArray → ByteArray → Int → Int → Int → Int → Int → Int → Int → Bool → ByteArray → List DEnd → List DParcel → List DRecord → List DRecord → Option (DWorld)
  | 0, _, _, _, _, _, _, _, _, _, _, _, _, _, _, _, _, _, _, _ => none
  | k + 1, x0, x1, x2, x3, x4, x5, x6, x7, x8, x9, x10, x11, x12, x13, x14, x15, x16, x17, x18 =>
    (idx x15 (IntKind.wrap .i64 (x3 - 1))).bind fun _ =>
    (x15[(Int.toNat (IntKind.wrap .i64 (x3 - 1)))]?).bind fun y2 =>
    (impl_EndTake k y2 (⟨x6, x7, x8, x9, x10, x11, x12, x13, x14⟩ : DPacket)).bind fun r3 =>
    (idx x15 (IntKind.wrap .i64 (x3 - 1))).bind fun _ =>
    (x15[(Int.toNat (IntKind.wrap .i64 (x3 - 1)))]?).bind fun y4 =>
    some (⟨x0, x1, (x15.set (Int.toNat (IntKind.wrap .i64 (x3 - 1))) r3.End), x16, x2, x17, x18⟩ : DWorld)
noncomputable def impl_World_bring (k : Nat) (a0 : DWorld) (a1 : DParcel) : Option (DWorld) :=
  (impl_ReadPacket k a1.Bytes a0.Key a0.Width).bind fun r1 =>
  bif (!r1.2) then
    some a0
  else
    bif (!(a1.Bytes.toList == a1.Sent.toList)) then
      bif (a0.Forged.toList == (⟨#[]⟩ : ByteArray).toList) then
        impl_World_bring_l5 k a0.Key a0.Width a1.Bytes a1.To a1.Sent a1.Bytes r1.1.Kind r1.1.From r1.1.Mine r1.1.Yours r1.1.Next r1.1.Mask r1.1.Seq r1.1.Last r1.1.Part a0.Ends a0.Flight a0.Given a0.Taken
      else
        impl_World_bring_l5 k a0.Key a0.Width a0.Forged a1.To a1.Sent a1.Bytes r1.1.Kind r1.1.From r1.1.Mine r1.1.Yours r1.1.Next r1.1.Mask r1.1.Seq r1.1.Last r1.1.Part a0.Ends a0.Flight a0.Given a0.Taken
    else
      impl_World_bring_l5 k a0.Key a0.Width a0.Forged a1.To a1.Sent a1.Bytes r1.1.Kind r1.1.From r1.1.Mine r1.1.Yours r1.1.Next r1.1.Mask r1.1.Seq r1.1.Last r1.1.Part a0.Ends a0.Flight a0.Given a0.Taken
noncomputable def impl_World_full (k : Nat) (a0 : DWorld) : Option (Bool × DWorld) :=
  some ((decide ((IntKind.wrap .i64 ((a0.Given.length : Int) + (a0.Taken.length : Int))) ≥ 400)), a0)
noncomputable def impl_World_pull (k : Nat) (a0 : DWorld) (a1 : Int) : Option (DWorld) :=
  (impl_World_full k a0).bind fun r1 =>
  bif r1.1 then
    some r1.2
  else
    (idx r1.2.Ends (IntKind.wrap .i64 (a1 - 1))).bind fun _ =>
    (r1.2.Ends[(Int.toNat (IntKind.wrap .i64 (a1 - 1)))]?).bind fun y2 =>
    (impl_EndPull k y2).bind fun r3 =>
    bif (r3.Code == 0) then
      (idx r1.2.Ends (IntKind.wrap .i64 (a1 - 1))).bind fun _ =>
      (r1.2.Ends[(Int.toNat (IntKind.wrap .i64 (a1 - 1)))]?).bind fun y4 =>
      (idx r1.2.Ends (IntKind.wrap .i64 (a1 - 1))).bind fun _ =>
      (r1.2.Ends[(Int.toNat (IntKind.wrap .i64 (a1 - 1)))]?).bind fun y5 =>
      (app 40 r1.2.Taken ([(⟨(IntKind.wrap .i64 (3 - a1)), y4.Peer, y4.Life, r3.Text⟩ : DRecord)] : List DRecord)).bind fun l6 =>
      some (⟨r1.2.Key, r1.2.Width, (r1.2.Ends.set (Int.toNat (IntKind.wrap .i64 (a1 - 1))) r3.End), r1.2.Flight, r1.2.Forged, r1.2.Given, l6⟩ : DWorld)
    else
      some r1.2
mutual
noncomputable def impl_Do_l5 : Nat → Bool → Int → Int → Int → Int → ByteArray → ByteArray → Int → ByteArray → ByteArray → Int → ByteArray → List DEnd → List DParcel → List DRecord → List DRecord → List DEnd → List DParcel → List DRecord → List DRecord → Option (DWorld)
  | 0, _, _, _, _, _, _, _, _, _, _, _, _, _, _, _, _, _, _, _, _ => none
  | k + 1, x0, x1, x2, x3, x4, x5, x6, x7, x8, x9, x10, x11, x12, x13, x14, x15, x16, x17, x18, x19 =>
    bif (decide (x2 ≥ 0)) then
      impl_Do_l6 k x0 (decide (x2 < (x17.length : Int))) x1 x2 x3 x4 x5 x6 x7 x8 x9 x10 x11 x12 x13 x14 x15 x16 x17 x18 x19
    else
      impl_Do_l6 k x0 false x1 x2 x3 x4 x5 x6 x7 x8 x9 x10 x11 x12 x13 x14 x15 x16 x17 x18 x19
noncomputable def impl_Do_l6 : Nat → Bool → Bool → Int → Int → Int → Int → ByteArray → ByteArray → Int → ByteArray → ByteArray → Int → ByteArray → List DEnd → List DParcel → List DRecord → List DRecord → List DEnd → List DParcel → List DRecord → List DRecord → Option (DWorld)
  | 0, _, _, _, _, _, _, _, _, _, _, _, _, _, _, _, _, _, _, _, _, _ => none
  | k + 1, x0, x1, x2, x3, x4, x5, x6, x7, x8, x9, x10, x11, x12, x13, x14, x15, x16, x17, x18, x19, x20 =>
    bif (x2 == 1) then
      (impl_World_tick k (⟨x10, x11, x17, x18, x12, x19, x20⟩ : DWorld)).bind fun r3 =>
      impl_Do_l45 k x7 x8 x9 r3.Key r3.Width r3.Forged x13 x14 x15 x16 r3.Ends r3.Flight r3.Given r3.Taken
    else
      bif (x2 == 2) then
        impl_Do_l11 k x1 x2 x3 x4 x5 x6 x7 x8 x9 x10 x11 x12 x13 x14 x15 x16 x17 x18 x19 x20
      else
        bif (x2 == 4) then
          impl_Do_l11 k x1 x2 x3 x4 x5 x6 x7 x8 x9 x10 x11 x12 x13 x14 x15 x16 x17 x18 x19 x20
        else
          impl_Do_l16 k x0 x1 x2 x2 x3 x4 x5 x6 x7 x8 x9 x10 x11 x12 x13 x14 x15 x16 x17 x18 x19 x20
noncomputable def impl_Do_l45 : Nat → ByteArray → Int → ByteArray → ByteArray → Int → ByteArray → List DEnd → List DParcel → List DRecord → List DRecord → List DEnd → List DParcel → List DRecord → List DRecord → Option (DWorld)
  | 0, _, _, _, _, _, _, _, _, _, _, _, _, _, _ => none
  | k + 1, x0, x1, x2, x3, x4, x5, x6, x7, x8, x9, x10, x11, x12, x13 =>
    some (⟨x3, x4, x10, x11, x5, x12, x13⟩ : DWorld)
noncomputable def impl_Do_l11 : Nat → Bool → Int → Int → Int → Int → ByteArray → ByteArray → Int → ByteArray → ByteArray → Int → ByteArray → List DEnd → List DParcel → List DRecord → List DRecord → List DEnd → List DParcel → List DRecord → List DRecord → Option (DWorld)
  | 0, _, _, _, _, _, _, _, _, _, _, _, _, _, _, _, _, _, _, _, _ => none
  | k + 1, x0, x1, x2, x3, x4, x5, x6, x7, x8, x9, x10, x11, x12, x13, x14, x15, x16, x17, x18, x19 =>
    bif x0 then
      (idx x17 x2).bind fun _ =>
      (x17[(Int.toNat x2)]?).bind fun y4 =>
      (if (x2 : Int) = x2 then wnd x17.length 0 x2 else none).bind fun p5 =>
      (wnd x17.length (IntKind.wrap .i64 (x2 + 1)) (x17.length : Int)).bind fun p6 =>
      (app 40 (dcut x17 p5.1 p5.2) (dcut x17 p6.1 p6.2)).bind fun l7 =>
      bif (x1 == 2) then
        (impl_World_bring k (⟨x9, x10, x16, l7, x11, x18, x19⟩ : DWorld) y4).bind fun r8 =>
        impl_Do_l45 k x6 x7 x8 r8.Key r8.Width r8.Forged x12 x13 x14 x15 r8.Ends r8.Flight r8.Given r8.Taken
      else
        impl_Do_l45 k x6 x7 x8 x9 x10 x11 x12 x13 x14 x15 x16 l7 x18 x19
    else
      impl_Do_l45 k x6 x7 x8 x9 x10 x11 x12 x13 x14 x15 x16 x17 x18 x19
noncomputable def impl_Do_l16 : Nat → Bool → Bool → Int → Int → Int → Int → Int → ByteArray → ByteArray → Int → ByteArray → ByteArray → Int → ByteArray → List DEnd → List DParcel → List DRecord → List DRecord → List DEnd → List DParcel → List DRecord → List DRecord → Option (DWorld)
  | 0, _, _, _, _, _, _, _, _, _, _, _, _, _, _, _, _, _, _, _, _, _, _ => none
  | k + 1, x0, x1, x2, x3, x4, x5, x6, x7, x8, x9, x10, x11, x12, x13, x14, x15, x16, x17, x18, x19, x20, x21 =>
    bif (x2 == 3) then
      bif x1 then
        bif (decide ((x19.length : Int) < 1000)) then
          (idx x19 x4).bind fun _ =>
          (x19[(Int.toNat x4)]?).bind fun y9 =>
          (app 40 x19 ([y9] : List DParcel)).bind fun l10 =>
          impl_Do_l45 k x8 x9 x10 x11 x12 x13 x14 x15 x16 x17 x18 l10 x20 x21
        else
          impl_Do_l45 k x8 x9 x10 x11 x12 x13 x14 x15 x16 x17 x18 x19 x20 x21
      else
        impl_Do_l45 k x8 x9 x10 x11 x12 x13 x14 x15 x16 x17 x18 x19 x20 x21
    else
      bif (x2 == 5) then
        bif x1 then
          bif (decide (x6 ≥ 0)) then
            bif (decide (x5 ≥ 0)) then
              (idx x19 x4).bind fun _ =>
              (x19[(Int.toNat x4)]?).bind fun y11 =>
              bif (decide (x5 < (y11.Bytes.size : Int))) then
                (idx x19 x4).bind fun _ =>
                (x19[(Int.toNat x4)]?).bind fun y12 =>
                (idx (bytesOf y12.Bytes) x5).bind fun _ =>
                ((bytesOf y12.Bytes)[(Int.toNat x5)]?).bind fun y13 =>
                (qrem x6 256).bind fun q14 =>
                (idx (bytesOf y12.Bytes) x5).bind fun _ =>
                ((bytesOf y12.Bytes)[(Int.toNat x5)]?).bind fun y15 =>
                (idx x19 x4).bind fun _ =>
                (x19[(Int.toNat x4)]?).bind fun y16 =>
                impl_Do_l45 k x8 x9 x10 x11 x12 x13 x14 x15 x16 x17 x18 (x19.set (Int.toNat x4) (⟨y16.To, y16.Sent, (bstr ((bytesOf y12.Bytes).set (Int.toNat x5) (bitsXor .u8 y13 (IntKind.wrap .u8 q14))))⟩ : DParcel)) x20 x21
              else
                impl_Do_l45 k x8 x9 x10 x11 x12 x13 x14 x15 x16 x17 x18 x19 x20 x21
            else
              impl_Do_l45 k x8 x9 x10 x11 x12 x13 x14 x15 x16 x17 x18 x19 x20 x21
          else
            impl_Do_l45 k x8 x9 x10 x11 x12 x13 x14 x15 x16 x17 x18 x19 x20 x21
        else
          impl_Do_l45 k x8 x9 x10 x11 x12 x13 x14 x15 x16 x17 x18 x19 x20 x21
      else
        bif (x2 == 6) then
          bif x1 then
            bif (decide (x5 ≥ 0)) then
              (idx x19 x4).bind fun _ =>
              (x19[(Int.toNat x4)]?).bind fun y17 =>
              bif (decide (x5 ≤ (y17.Bytes.size : Int))) then
                (idx x19 x4).bind fun _ =>
                (x19[(Int.toNat x4)]?).bind fun y18 =>
                (wnd y18.Bytes.size 0 x5).bind fun p19 =>
                (idx x19 x4).bind fun _ =>
                (x19[(Int.toNat x4)]?).bind fun y20 =>
                impl_Do_l45 k x8 x9 x10 x11 x12 x13 x14 x15 x16 x17 x18 (x19.set (Int.toNat x4) (⟨y20.To, y20.Sent, (y18.Bytes.extract p19.1 p19.2)⟩ : DParcel)) x20 x21
              else
                impl_Do_l45 k x8 x9 x10 x11 x12 x13 x14 x15 x16 x17 x18 x19 x20 x21
            else
              impl_Do_l45 k x8 x9 x10 x11 x12 x13 x14 x15 x16 x17 x18 x19 x20 x21
          else
            impl_Do_l45 k x8 x9 x10 x11 x12 x13 x14 x15 x16 x17 x18 x19 x20 x21
        else
          bif (x2 == 7) then
            bif x1 then
              (idx x19 x4).bind fun _ =>
              (x19[(Int.toNat x4)]?).bind fun y21 =>
              (idx x19 x4).bind fun _ =>
              (x19[(Int.toNat x4)]?).bind fun y22 =>
              impl_Do_l45 k x8 x9 x10 x11 x12 x13 x14 x15 x16 x17 x18 (x19.set (Int.toNat x4) (⟨(IntKind.wrap .i64 (3 - y21.To)), y22.Sent, y22.Bytes⟩ : DParcel)) x20 x21
            else
              impl_Do_l45 k x8 x9 x10 x11 x12 x13 x14 x15 x16 x17 x18 x19 x20 x21
          else
            bif (x2 == 8) then
              bif x0 then
                (idx x18 (IntKind.wrap .i64 (x4 - 1))).bind fun _ =>
                (x18[(Int.toNat (IntKind.wrap .i64 (x4 - 1)))]?).bind fun y23 =>
                (impl_EndFall k y23).bind fun r24 =>
                (idx x18 (IntKind.wrap .i64 (x4 - 1))).bind fun _ =>
                (x18[(Int.toNat (IntKind.wrap .i64 (x4 - 1)))]?).bind fun y25 =>
                impl_Do_l45 k x8 x9 x10 x11 x12 x13 x14 x15 x16 x17 (x18.set (Int.toNat (IntKind.wrap .i64 (x4 - 1))) r24) x19 x20 x21
              else
                impl_Do_l45 k x8 x9 x10 x11 x12 x13 x14 x15 x16 x17 x18 x19 x20 x21
            else
              bif (x2 == 9) then
                bif x0 then
                  (idx x18 (IntKind.wrap .i64 (x4 - 1))).bind fun _ =>
                  (x18[(Int.toNat (IntKind.wrap .i64 (x4 - 1)))]?).bind fun y26 =>
                  (impl_EndRise k y26).bind fun r27 =>
                  (idx x18 (IntKind.wrap .i64 (x4 - 1))).bind fun _ =>
                  (x18[(Int.toNat (IntKind.wrap .i64 (x4 - 1)))]?).bind fun y28 =>
                  impl_Do_l45 k x8 x9 x10 x11 x12 x13 x14 x15 x16 x17 (x18.set (Int.toNat (IntKind.wrap .i64 (x4 - 1))) r27) x19 x20 x21
                else
                  impl_Do_l45 k x8 x9 x10 x11 x12 x13 x14 x15 x16 x17 x18 x19 x20 x21
              else
                bif (x2 == 10) then
                  bif x0 then
                    (impl_World_full k (⟨x11, x12, x18, x19, x13, x20, x21⟩ : DWorld)).bind fun r29 =>
                    bif (!r29.1) then
                      both (
                        (idx r29.2.Ends (IntKind.wrap .i64 (x4 - 1))).bind fun _ =>
                        (r29.2.Ends[(Int.toNat (IntKind.wrap .i64 (x4 - 1)))]?).bind fun y30 =>
                        (impl_EndPush k y30 x7).bind fun r31 =>
                        bif (r31.Code == 0) then
                          (idx r29.2.Ends (IntKind.wrap .i64 (x4 - 1))).bind fun _ =>
                          (r29.2.Ends[(Int.toNat (IntKind.wrap .i64 (x4 - 1)))]?).bind fun y32 =>
                          (app 40 r29.2.Given ([(⟨x4, r31.End.Life, r31.End.Peer, x7⟩ : DRecord)] : List DRecord)).bind fun l33 =>
                          impl_Do_l45 k x8 x9 x10 r29.2.Key r29.2.Width r29.2.Forged x14 x15 x16 x17 (r29.2.Ends.set (Int.toNat (IntKind.wrap .i64 (x4 - 1))) r31.End) r29.2.Flight l33 r29.2.Taken
                        else
                          impl_Do_l45 k x8 x9 x10 r29.2.Key r29.2.Width r29.2.Forged x14 x15 x16 x17 r29.2.Ends r29.2.Flight r29.2.Given r29.2.Taken
                      ) (
                        (idx r29.2.Ends (IntKind.wrap .i64 (x4 - 1))).bind fun _ =>
                        (r29.2.Ends[(Int.toNat (IntKind.wrap .i64 (x4 - 1)))]?).bind fun y34 =>
                        (impl_EndPush k y34 x7).bind fun r35 =>
                        bif (r35.Code == 0) then
                          (idx r29.2.Ends (IntKind.wrap .i64 (x4 - 1))).bind fun _ =>
                          (r29.2.Ends[(Int.toNat (IntKind.wrap .i64 (x4 - 1)))]?).bind fun y36 =>
                          (app 40 r29.2.Given ([(⟨x4, r35.End.Life, r35.End.Peer, x7⟩ : DRecord)] : List DRecord)).bind fun l37 =>
                          impl_Do_l45 k x8 x9 x10 r29.2.Key r29.2.Width r29.2.Forged x14 x15 x16 x17 (r29.2.Ends.set (Int.toNat (IntKind.wrap .i64 (x4 - 1))) r35.End) r29.2.Flight l37 r29.2.Taken
                        else
                          impl_Do_l45 k x8 x9 x10 r29.2.Key r29.2.Width r29.2.Forged x14 x15 x16 x17 r29.2.Ends r29.2.Flight r29.2.Given r29.2.Taken
                      )
                    else
                      impl_Do_l45 k x8 x9 x10 r29.2.Key r29.2.Width r29.2.Forged x14 x15 x16 x17 r29.2.Ends r29.2.Flight r29.2.Given r29.2.Taken
                  else
                    impl_Do_l45 k x8 x9 x10 x11 x12 x13 x14 x15 x16 x17 x18 x19 x20 x21
                else
                  bif (x2 == 11) then
                    bif x0 then
                      (impl_World_pull k (⟨x11, x12, x18, x19, x13, x20, x21⟩ : DWorld) x4).bind fun r38 =>
                      impl_Do_l45 k x8 x9 x10 r38.Key r38.Width r38.Forged x14 x15 x16 x17 r38.Ends r38.Flight r38.Given r38.Taken
                    else
                      impl_Do_l45 k x8 x9 x10 x11 x12 x13 x14 x15 x16 x17 x18 x19 x20 x21
                  else
                    impl_Do_l45 k x8 x9 x10 x11 x12 x13 x14 x15 x16 x17 x18 x19 x20 x21
end
noncomputable def impl_Do (k : Nat) (a0 : DWorld) (a1 : DEvent) : Option (DWorld) :=
  (impl_ValidWorld k a0).bind fun r1 =>
  bif (!r1) then
    some (⟨(⟨#[]⟩ : ByteArray), 0, ([] : List DEnd), ([] : List DParcel), (⟨#[]⟩ : ByteArray), ([] : List DRecord), ([] : List DRecord)⟩ : DWorld)
  else
    (impl_copyWorld k a0).bind fun r2 =>
    bif (a1.A == 1) then
      impl_Do_l5 k true a1.Kind a1.A a1.B a1.C a1.Text (⟨#[]⟩ : ByteArray) 0 (⟨#[]⟩ : ByteArray) r2.Key r2.Width r2.Forged ([] : List DEnd) ([] : List DParcel) ([] : List DRecord) ([] : List DRecord) r2.Ends r2.Flight r2.Given r2.Taken
    else
      impl_Do_l5 k (a1.A == 2) a1.Kind a1.A a1.B a1.C a1.Text (⟨#[]⟩ : ByteArray) 0 (⟨#[]⟩ : ByteArray) r2.Key r2.Width r2.Forged ([] : List DEnd) ([] : List DParcel) ([] : List DRecord) ([] : List DRecord) r2.Ends r2.Flight r2.Given r2.Taken
noncomputable def spec_l7RecordsOk_l2 : Nat → List DRecord → Int → Option (Bool)
  | 0, _, _ => none
  | k + 1, x0, x1 =>
    bif (decide (x1 < (x0.length : Int))) then
      (idx x0 x1).bind fun y1 =>
      (spec_l1In k y1.From 1 2).bind fun r2 =>
      bif (!r2) then
        some false
      else
        (spec_l1In k y1.A 1 1000).bind fun r3 =>
        bif (!r3) then
          some false
        else
          (spec_l1In k y1.B 1 1000).bind fun r4 =>
          bif (!r4) then
            some false
          else
            bif (decide ((y1.Text.size : Int) > 200)) then
              some false
            else
              spec_l7RecordsOk_l2 k x0 (IntKind.wrap .i64 (x1 + 1))
    else
      some true
noncomputable def spec_l7RecordsOk (k : Nat) (a0 : List DRecord) : Option (Bool) :=
  spec_l7RecordsOk_l2 k a0 0
mutual
noncomputable def spec_ValidWorld_l4 : Nat → Int → ByteArray → Int → List DEnd → List DParcel → ByteArray → List DRecord → List DRecord → Option (Bool)
  | 0, _, _, _, _, _, _, _, _ => none
  | k + 1, x0, x1, x2, x3, x4, x5, x6, x7 =>
    bif (decide (x0 < 2)) then
      (idx x3 x0).bind fun y2 =>
      (spec_ValidEnd k y2).bind fun r3 =>
      bif (!r3) then
        some false
      else
        (idx x3 x0).bind fun y4 =>
        bif (y4.Number != (IntKind.wrap .i64 (x0 + 1))) then
          some false
        else
          spec_ValidWorld_l4 k (IntKind.wrap .i64 (x0 + 1)) x1 x2 x3 x4 x5 x6 x7
    else
      spec_ValidWorld_l9 k 0 x1 x2 x3 x4 x5 x6 x7
noncomputable def spec_ValidWorld_l9 : Nat → Int → ByteArray → Int → List DEnd → List DParcel → ByteArray → List DRecord → List DRecord → Option (Bool)
  | 0, _, _, _, _, _, _, _, _ => none
  | k + 1, x0, x1, x2, x3, x4, x5, x6, x7 =>
    bif (decide (x0 < (x4.length : Int))) then
      (idx x4 x0).bind fun y5 =>
      (spec_l1In k y5.To 1 2).bind fun r6 =>
      bif (!r6) then
        some false
      else
        bif (decide ((y5.Sent.size : Int) > 100)) then
          some false
        else
          bif (decide ((y5.Bytes.size : Int) > 100)) then
            some false
          else
            spec_ValidWorld_l9 k (IntKind.wrap .i64 (x0 + 1)) x1 x2 x3 x4 x5 x6 x7
    else
      (spec_l7RecordsOk k x6).bind fun r7 =>
      bif r7 then
        (spec_l7RecordsOk k x7).bind fun r8 =>
        some r8
      else
        some false
end
noncomputable def spec_ValidWorld (k : Nat) (a0 : DWorld) : Option (Bool) :=
  (spec_l1In k a0.Width 1 8).bind fun r1 =>
  bif (!r1) then
    some false
  else
    bif (decide ((a0.Key.size : Int) > 30)) then
      some false
    else
      bif ((a0.Ends.length : Int) != 2) then
        some false
      else
        bif (decide ((a0.Flight.length : Int) > 1000)) then
          some false
        else
          bif (decide ((IntKind.wrap .i64 ((a0.Given.length : Int) + (a0.Taken.length : Int))) > 400)) then
            some false
          else
            spec_ValidWorld_l4 k 0 a0.Key a0.Width a0.Ends a0.Flight a0.Forged a0.Given a0.Taken
noncomputable def spec_l7Copy_l4 : Nat → Int → ByteArray → Int → List DEnd → List DParcel → ByteArray → List DRecord → List DRecord → ByteArray → Int → ByteArray → ByteArray → Int → List DParcel → ByteArray → List DRecord → List DRecord → List DEnd → List DParcel → List DRecord → List DRecord → List DEnd → Option (DWorld)
  | 0, _, _, _, _, _, _, _, _, _, _, _, _, _, _, _, _, _, _, _, _, _, _ => none
  | k + 1, x0, x1, x2, x3, x4, x5, x6, x7, x8, x9, x10, x11, x12, x13, x14, x15, x16, x17, x18, x19, x20, x21 =>
    bif (decide (x0 < (x3.length : Int))) then
      (idx x3 x0).bind fun y1 =>
      (spec_l6Copy k y1).bind fun r2 =>
      (app 152 x21 ([r2] : List DEnd)).bind fun l3 =>
      spec_l7Copy_l4 k (IntKind.wrap .i64 (x0 + 1)) x1 x2 x3 x4 x5 x6 x7 x8 x9 x10 x11 x12 x13 x14 x15 x16 x17 x18 x19 x20 l3
    else
      (app 40 ([] : List DParcel) x4).bind fun l4 =>
      (app 40 ([] : List DRecord) x6).bind fun l5 =>
      (app 40 ([] : List DRecord) x7).bind fun l6 =>
      some (⟨x11, x12, x21, l4, x14, l5, l6⟩ : DWorld)
noncomputable def spec_l7Copy (k : Nat) (a0 : DWorld) : Option (DWorld) :=
  spec_l7Copy_l4 k 0 a0.Key a0.Width a0.Ends a0.Flight a0.Forged a0.Given a0.Taken (⟨#[]⟩ : ByteArray) 0 (⟨#[]⟩ : ByteArray) a0.Key a0.Width a0.Flight a0.Forged a0.Given a0.Taken ([] : List DEnd) ([] : List DParcel) ([] : List DRecord) ([] : List DRecord) ([] : List DEnd)
mutual
noncomputable def spec_l7Tick_l2 : Nat → Int → ByteArray → Int → ByteArray → ByteArray → Int → ByteArray → List DEnd → List DParcel → List DRecord → List DRecord → List DEnd → List DParcel → List DRecord → List DRecord → Option (DWorld)
  | 0, _, _, _, _, _, _, _, _, _, _, _, _, _, _, _ => none
  | k + 1, x0, x1, x2, x3, x4, x5, x6, x7, x8, x9, x10, x11, x12, x13, x14 =>
    bif (decide (x0 < 2)) then
      (idx x7 x0).bind fun _ =>
      (x7[(Int.toNat x0)]?).bind fun y1 =>
      (spec_EndTick k y1).bind fun r2 =>
      (idx x7 x0).bind fun _ =>
      (x7[(Int.toNat x0)]?).bind fun y3 =>
      spec_l7Tick_l7 k x0 0 x1 x2 x3 x4 x5 x6 r2.Code r2.End.Number r2.End.Up r2.End.Life r2.End.Peer r2.End.Since r2.End.Owes r2.End.Send.Base r2.End.Take.Next r2.End.Take.Open r2.Text (x7.set (Int.toNat x0) r2.End) x8 x9 x10 x11 x12 x13 x14 r2.Out
    else
      some (⟨x1, x2, x7, x8, x3, x9, x10⟩ : DWorld)
noncomputable def spec_l7Tick_l7 : Nat → Int → Int → ByteArray → Int → ByteArray → ByteArray → Int → ByteArray → Int → Int → Bool → Int → Int → Int → Bool → Int → Int → ByteArray → ByteArray → List DEnd → List DParcel → List DRecord → List DRecord → List DEnd → List DParcel → List DRecord → List DRecord → List DPacket → Option (DWorld)
  | 0, _, _, _, _, _, _, _, _, _, _, _, _, _, _, _, _, _, _, _, _, _, _, _, _, _, _, _, _ => none
  | k + 1, x0, x1, x2, x3, x4, x5, x6, x7, x8, x9, x10, x11, x12, x13, x14, x15, x16, x17, x18, x19, x20, x21, x22, x23, x24, x25, x26, x27 =>
    bif (decide (x1 < (x27.length : Int))) then
      bif (decide ((x20.length : Int) < 1000)) then
        (idx x27 x1).bind fun _ =>
        (x27[(Int.toNat x1)]?).bind fun y4 =>
        (spec_FormPacket k y4 x2 x3).bind fun r5 =>
        (app 40 x20 ([(⟨(IntKind.wrap .i64 (2 - x0)), r5, r5⟩ : DParcel)] : List DParcel)).bind fun l6 =>
        spec_l7Tick_l7 k x0 (IntKind.wrap .i64 (x1 + 1)) x2 x3 x4 x5 x6 x7 x8 x9 x10 x11 x12 x13 x14 x15 x16 x17 x18 x19 l6 x21 x22 x23 x24 x25 x26 x27
      else
        spec_l7Tick_l2 k (IntKind.wrap .i64 (x0 + 1)) x2 x3 x4 x5 x6 x7 x19 x20 x21 x22 x23 x24 x25 x26
    else
      spec_l7Tick_l2 k (IntKind.wrap .i64 (x0 + 1)) x2 x3 x4 x5 x6 x7 x19 x20 x21 x22 x23 x24 x25 x26
end
noncomputable def spec_l7Tick (k : Nat) (a0 : DWorld) : Option (DWorld) :=
  spec_l7Tick_l2 k 0 a0.Key a0.Width a0.Forged (⟨#[]⟩ : ByteArray) 0 (⟨#[]⟩ : ByteArray) a0.Ends a0.Flight a0.Given a0.Taken ([] : List DEnd) ([] : List DParcel) ([] : List DRecord) ([] : List DRecord)
noncomputable def spec_l7Without (k : Nat) (a0 : List DParcel) (a1 : Int) : Option (List DParcel) :=
  (wnd a0.length 0 a1).bind fun p1 =>
  (app 40 ([] : List DParcel) (dcut a0 p1.1 p1.2)).bind fun l2 =>
  (wnd a0.length (IntKind.wrap .i64 (a1 + 1)) (a0.length : Int)).bind fun p3 =>
  (app 40 l2 (dcut a0 p3.1 p3.2)).bind fun l4 =>
  some l4
noncomputable def spec_l7Bring_l8 : Nat → ByteArray → Int → ByteArray → ByteArray → Int → ByteArray → Int → ByteArray → ByteArray → Int → Int → Int → Int → Int → Int → Int → Bool → ByteArray → List DEnd → List DParcel → List DRecord → List DRecord → List DEnd → List DParcel → List DRecord → List DRecord → Option (DWorld)
  | 0, _, _, _, _, _, _, _, _, _, _, _, _, _, _, _, _, _, _, _, _, _, _, _, _, _, _ => none
  | k + 1, x0, x1, x2, x3, x4, x5, x6, x7, x8, x9, x10, x11, x12, x13, x14, x15, x16, x17, x18, x19, x20, x21, x22, x23, x24, x25 =>
    (idx x18 (IntKind.wrap .i64 (x6 - 1))).bind fun _ =>
    (x18[(Int.toNat (IntKind.wrap .i64 (x6 - 1)))]?).bind fun y4 =>
    (spec_EndTake k y4 (⟨x9, x10, x11, x12, x13, x14, x15, x16, x17⟩ : DPacket)).bind fun r5 =>
    (idx x18 (IntKind.wrap .i64 (x6 - 1))).bind fun _ =>
    (x18[(Int.toNat (IntKind.wrap .i64 (x6 - 1)))]?).bind fun y6 =>
    some (⟨x0, x1, (x18.set (Int.toNat (IntKind.wrap .i64 (x6 - 1))) r5.End), x19, x2, x20, x21⟩ : DWorld)
noncomputable def spec_l7Bring (k : Nat) (a0 : DWorld) (a1 : Int) : Option (DWorld) :=
  (idx a0.Flight a1).bind fun _ =>
  (a0.Flight[(Int.toNat a1)]?).bind fun y1 =>
  (spec_l7Without k a0.Flight a1).bind fun r2 =>
  (spec_ReadPacket k y1.Bytes a0.Key a0.Width).bind fun r3 =>
  bif (!r3.2) then
    some (⟨a0.Key, a0.Width, a0.Ends, r2, a0.Forged, a0.Given, a0.Taken⟩ : DWorld)
  else
    bif (!(y1.Bytes.toList == y1.Sent.toList)) then
      bif (a0.Forged.toList == (⟨#[]⟩ : ByteArray).toList) then
        spec_l7Bring_l8 k a0.Key a0.Width y1.Bytes (⟨#[]⟩ : ByteArray) 0 (⟨#[]⟩ : ByteArray) y1.To y1.Sent y1.Bytes r3.1.Kind r3.1.From r3.1.Mine r3.1.Yours r3.1.Next r3.1.Mask r3.1.Seq r3.1.Last r3.1.Part a0.Ends r2 a0.Given a0.Taken ([] : List DEnd) ([] : List DParcel) ([] : List DRecord) ([] : List DRecord)
      else
        spec_l7Bring_l8 k a0.Key a0.Width a0.Forged (⟨#[]⟩ : ByteArray) 0 (⟨#[]⟩ : ByteArray) y1.To y1.Sent y1.Bytes r3.1.Kind r3.1.From r3.1.Mine r3.1.Yours r3.1.Next r3.1.Mask r3.1.Seq r3.1.Last r3.1.Part a0.Ends r2 a0.Given a0.Taken ([] : List DEnd) ([] : List DParcel) ([] : List DRecord) ([] : List DRecord)
    else
      spec_l7Bring_l8 k a0.Key a0.Width a0.Forged (⟨#[]⟩ : ByteArray) 0 (⟨#[]⟩ : ByteArray) y1.To y1.Sent y1.Bytes r3.1.Kind r3.1.From r3.1.Mine r3.1.Yours r3.1.Next r3.1.Mask r3.1.Seq r3.1.Last r3.1.Part a0.Ends r2 a0.Given a0.Taken ([] : List DEnd) ([] : List DParcel) ([] : List DRecord) ([] : List DRecord)
mutual
noncomputable def spec_l7Parcel_l11 : Nat → ByteArray → Int → ByteArray → ByteArray → Int → ByteArray → List DEnd → List DParcel → List DRecord → List DRecord → List DEnd → List DParcel → List DRecord → List DRecord → Option (DWorld)
  | 0, _, _, _, _, _, _, _, _, _, _, _, _, _, _ => none
  | k + 1, x0, x1, x2, x3, x4, x5, x6, x7, x8, x9, x10, x11, x12, x13 =>
    some (⟨x0, x1, x6, x7, x2, x8, x9⟩ : DWorld)
noncomputable def spec_l7Parcel_l22 : Nat → ByteArray → Int → ByteArray → Int → Int → Int → Int → ByteArray → ByteArray → Int → ByteArray → Int → ByteArray → ByteArray → List DEnd → List DParcel → List DRecord → List DRecord → List DEnd → List DParcel → List DRecord → List DRecord → Option (DWorld)
  | 0, _, _, _, _, _, _, _, _, _, _, _, _, _, _, _, _, _, _, _, _, _, _ => none
  | k + 1, x0, x1, x2, x3, x4, x5, x6, x7, x8, x9, x10, x11, x12, x13, x14, x15, x16, x17, x18, x19, x20, x21 =>
    (idx x15 x4).bind fun _ =>
    (x15[(Int.toNat x4)]?).bind fun y9 =>
    some (⟨x0, x1, x14, (x15.set (Int.toNat x4) (⟨x11, x12, x13⟩ : DParcel)), x2, x16, x17⟩ : DWorld)
end
noncomputable def spec_l7Parcel (k : Nat) (a0 : DWorld) (a1 : DEvent) : Option (DWorld) :=
  (idx a0.Flight a1.A).bind fun _ =>
  (a0.Flight[(Int.toNat a1.A)]?).bind fun y1 =>
  bif (a1.Kind == 2) then
    (spec_l7Bring k a0 a1.A).bind fun r2 =>
    some r2
  else
    bif (a1.Kind == 4) then
      (spec_l7Without k a0.Flight a1.A).bind fun r3 =>
      some (⟨a0.Key, a0.Width, a0.Ends, r3, a0.Forged, a0.Given, a0.Taken⟩ : DWorld)
    else
      bif (a1.Kind == 3) then
        bif (decide ((a0.Flight.length : Int) < 1000)) then
          (app 40 a0.Flight ([y1] : List DParcel)).bind fun l4 =>
          spec_l7Parcel_l11 k a0.Key a0.Width a0.Forged (⟨#[]⟩ : ByteArray) 0 (⟨#[]⟩ : ByteArray) a0.Ends l4 a0.Given a0.Taken ([] : List DEnd) ([] : List DParcel) ([] : List DRecord) ([] : List DRecord)
        else
          spec_l7Parcel_l11 k a0.Key a0.Width a0.Forged (⟨#[]⟩ : ByteArray) 0 (⟨#[]⟩ : ByteArray) a0.Ends a0.Flight a0.Given a0.Taken ([] : List DEnd) ([] : List DParcel) ([] : List DRecord) ([] : List DRecord)
      else
        bif (a1.Kind == 5) then
          bif (decide (a1.B ≥ 0)) then
            bif (decide (a1.B < (y1.Bytes.size : Int))) then
              bif (decide (a1.C ≥ 0)) then
                (idx (bytesOf y1.Bytes) a1.B).bind fun _ =>
                ((bytesOf y1.Bytes)[(Int.toNat a1.B)]?).bind fun y5 =>
                (qrem a1.C 256).bind fun q6 =>
                (idx (bytesOf y1.Bytes) a1.B).bind fun _ =>
                ((bytesOf y1.Bytes)[(Int.toNat a1.B)]?).bind fun y7 =>
                spec_l7Parcel_l22 k a0.Key a0.Width a0.Forged a1.Kind a1.A a1.B a1.C a1.Text (⟨#[]⟩ : ByteArray) 0 (⟨#[]⟩ : ByteArray) y1.To y1.Sent (bstr ((bytesOf y1.Bytes).set (Int.toNat a1.B) (bitsXor .u8 y5 (IntKind.wrap .u8 q6)))) a0.Ends a0.Flight a0.Given a0.Taken ([] : List DEnd) ([] : List DParcel) ([] : List DRecord) ([] : List DRecord)
              else
                spec_l7Parcel_l22 k a0.Key a0.Width a0.Forged a1.Kind a1.A a1.B a1.C a1.Text (⟨#[]⟩ : ByteArray) 0 (⟨#[]⟩ : ByteArray) y1.To y1.Sent y1.Bytes a0.Ends a0.Flight a0.Given a0.Taken ([] : List DEnd) ([] : List DParcel) ([] : List DRecord) ([] : List DRecord)
            else
              spec_l7Parcel_l22 k a0.Key a0.Width a0.Forged a1.Kind a1.A a1.B a1.C a1.Text (⟨#[]⟩ : ByteArray) 0 (⟨#[]⟩ : ByteArray) y1.To y1.Sent y1.Bytes a0.Ends a0.Flight a0.Given a0.Taken ([] : List DEnd) ([] : List DParcel) ([] : List DRecord) ([] : List DRecord)
          else
            spec_l7Parcel_l22 k a0.Key a0.Width a0.Forged a1.Kind a1.A a1.B a1.C a1.Text (⟨#[]⟩ : ByteArray) 0 (⟨#[]⟩ : ByteArray) y1.To y1.Sent y1.Bytes a0.Ends a0.Flight a0.Given a0.Taken ([] : List DEnd) ([] : List DParcel) ([] : List DRecord) ([] : List DRecord)
        else
          bif (a1.Kind == 6) then
            bif (decide (a1.B ≥ 0)) then
              bif (decide (a1.B ≤ (y1.Bytes.size : Int))) then
                (wnd y1.Bytes.size 0 a1.B).bind fun p8 =>
                spec_l7Parcel_l22 k a0.Key a0.Width a0.Forged a1.Kind a1.A a1.B a1.C a1.Text (⟨#[]⟩ : ByteArray) 0 (⟨#[]⟩ : ByteArray) y1.To y1.Sent (y1.Bytes.extract p8.1 p8.2) a0.Ends a0.Flight a0.Given a0.Taken ([] : List DEnd) ([] : List DParcel) ([] : List DRecord) ([] : List DRecord)
              else
                spec_l7Parcel_l22 k a0.Key a0.Width a0.Forged a1.Kind a1.A a1.B a1.C a1.Text (⟨#[]⟩ : ByteArray) 0 (⟨#[]⟩ : ByteArray) y1.To y1.Sent y1.Bytes a0.Ends a0.Flight a0.Given a0.Taken ([] : List DEnd) ([] : List DParcel) ([] : List DRecord) ([] : List DRecord)
            else
              spec_l7Parcel_l22 k a0.Key a0.Width a0.Forged a1.Kind a1.A a1.B a1.C a1.Text (⟨#[]⟩ : ByteArray) 0 (⟨#[]⟩ : ByteArray) y1.To y1.Sent y1.Bytes a0.Ends a0.Flight a0.Given a0.Taken ([] : List DEnd) ([] : List DParcel) ([] : List DRecord) ([] : List DRecord)
          else
            bif (a1.Kind == 7) then
              spec_l7Parcel_l22 k a0.Key a0.Width a0.Forged a1.Kind a1.A a1.B a1.C a1.Text (⟨#[]⟩ : ByteArray) 0 (⟨#[]⟩ : ByteArray) (IntKind.wrap .i64 (3 - y1.To)) y1.Sent y1.Bytes a0.Ends a0.Flight a0.Given a0.Taken ([] : List DEnd) ([] : List DParcel) ([] : List DRecord) ([] : List DRecord)
            else
              spec_l7Parcel_l22 k a0.Key a0.Width a0.Forged a1.Kind a1.A a1.B a1.C a1.Text (⟨#[]⟩ : ByteArray) 0 (⟨#[]⟩ : ByteArray) y1.To y1.Sent y1.Bytes a0.Ends a0.Flight a0.Given a0.Taken ([] : List DEnd) ([] : List DParcel) ([] : List DRecord) ([] : List DRecord)
noncomputable def spec_l7End_l18 : Nat → ByteArray → Int → ByteArray → ByteArray → Int → ByteArray → List DEnd → List DParcel → List DRecord → List DRecord → List DEnd → List DParcel → List DRecord → List DRecord → Option (DWorld)
  | 0, _, _, _, _, _, _, _, _, _, _, _, _, _, _ => none
  | k + 1, x0, x1, x2, x3, x4, x5, x6, x7, x8, x9, x10, x11, x12, x13 =>
    some (⟨x0, x1, x6, x7, x2, x8, x9⟩ : DWorld)
noncomputable def spec_l7End (k : Nat) (a0 : DWorld) (a1 : DEvent) : Option (DWorld) :=
  (idx a0.Ends (IntKind.wrap .i64 (a1.A - 1))).bind fun _ =>
  (a0.Ends[(Int.toNat (IntKind.wrap .i64 (a1.A - 1)))]?).bind fun y1 =>
  bif (a1.Kind == 8) then
    (spec_EndFall k y1).bind fun r2 =>
    (idx a0.Ends (IntKind.wrap .i64 (a1.A - 1))).bind fun _ =>
    (a0.Ends[(Int.toNat (IntKind.wrap .i64 (a1.A - 1)))]?).bind fun y3 =>
    spec_l7End_l18 k a0.Key a0.Width a0.Forged (⟨#[]⟩ : ByteArray) 0 (⟨#[]⟩ : ByteArray) (a0.Ends.set (Int.toNat (IntKind.wrap .i64 (a1.A - 1))) r2) a0.Flight a0.Given a0.Taken ([] : List DEnd) ([] : List DParcel) ([] : List DRecord) ([] : List DRecord)
  else
    bif (a1.Kind == 9) then
      (spec_EndRise k y1).bind fun r4 =>
      (idx a0.Ends (IntKind.wrap .i64 (a1.A - 1))).bind fun _ =>
      (a0.Ends[(Int.toNat (IntKind.wrap .i64 (a1.A - 1)))]?).bind fun y5 =>
      spec_l7End_l18 k a0.Key a0.Width a0.Forged (⟨#[]⟩ : ByteArray) 0 (⟨#[]⟩ : ByteArray) (a0.Ends.set (Int.toNat (IntKind.wrap .i64 (a1.A - 1))) r4) a0.Flight a0.Given a0.Taken ([] : List DEnd) ([] : List DParcel) ([] : List DRecord) ([] : List DRecord)
    else
      bif (a1.Kind == 10) then
        (spec_EndPush k y1 a1.Text).bind fun r6 =>
        bif (r6.Code == 0) then
          bif (decide ((IntKind.wrap .i64 ((a0.Given.length : Int) + (a0.Taken.length : Int))) < 400)) then
            (idx a0.Ends (IntKind.wrap .i64 (a1.A - 1))).bind fun _ =>
            (a0.Ends[(Int.toNat (IntKind.wrap .i64 (a1.A - 1)))]?).bind fun y7 =>
            (app 40 a0.Given ([(⟨a1.A, y1.Life, y1.Peer, a1.Text⟩ : DRecord)] : List DRecord)).bind fun l8 =>
            spec_l7End_l18 k a0.Key a0.Width a0.Forged (⟨#[]⟩ : ByteArray) 0 (⟨#[]⟩ : ByteArray) (a0.Ends.set (Int.toNat (IntKind.wrap .i64 (a1.A - 1))) r6.End) a0.Flight l8 a0.Taken ([] : List DEnd) ([] : List DParcel) ([] : List DRecord) ([] : List DRecord)
          else
            spec_l7End_l18 k a0.Key a0.Width a0.Forged (⟨#[]⟩ : ByteArray) 0 (⟨#[]⟩ : ByteArray) a0.Ends a0.Flight a0.Given a0.Taken ([] : List DEnd) ([] : List DParcel) ([] : List DRecord) ([] : List DRecord)
        else
          spec_l7End_l18 k a0.Key a0.Width a0.Forged (⟨#[]⟩ : ByteArray) 0 (⟨#[]⟩ : ByteArray) a0.Ends a0.Flight a0.Given a0.Taken ([] : List DEnd) ([] : List DParcel) ([] : List DRecord) ([] : List DRecord)
      else
        bif (a1.Kind == 11) then
          (spec_EndPull k y1).bind fun r9 =>
          bif (r9.Code == 0) then
            bif (decide ((IntKind.wrap .i64 ((a0.Given.length : Int) + (a0.Taken.length : Int))) < 400)) then
              (idx a0.Ends (IntKind.wrap .i64 (a1.A - 1))).bind fun _ =>
              (a0.Ends[(Int.toNat (IntKind.wrap .i64 (a1.A - 1)))]?).bind fun y10 =>
              (app 40 a0.Taken ([(⟨(IntKind.wrap .i64 (3 - a1.A)), y1.Peer, y1.Life, r9.Text⟩ : DRecord)] : List DRecord)).bind fun l11 =>
              spec_l7End_l18 k a0.Key a0.Width a0.Forged (⟨#[]⟩ : ByteArray) 0 (⟨#[]⟩ : ByteArray) (a0.Ends.set (Int.toNat (IntKind.wrap .i64 (a1.A - 1))) r9.End) a0.Flight a0.Given l11 ([] : List DEnd) ([] : List DParcel) ([] : List DRecord) ([] : List DRecord)
            else
              spec_l7End_l18 k a0.Key a0.Width a0.Forged (⟨#[]⟩ : ByteArray) 0 (⟨#[]⟩ : ByteArray) a0.Ends a0.Flight a0.Given a0.Taken ([] : List DEnd) ([] : List DParcel) ([] : List DRecord) ([] : List DRecord)
          else
            spec_l7End_l18 k a0.Key a0.Width a0.Forged (⟨#[]⟩ : ByteArray) 0 (⟨#[]⟩ : ByteArray) a0.Ends a0.Flight a0.Given a0.Taken ([] : List DEnd) ([] : List DParcel) ([] : List DRecord) ([] : List DRecord)
        else
          spec_l7End_l18 k a0.Key a0.Width a0.Forged (⟨#[]⟩ : ByteArray) 0 (⟨#[]⟩ : ByteArray) a0.Ends a0.Flight a0.Given a0.Taken ([] : List DEnd) ([] : List DParcel) ([] : List DRecord) ([] : List DRecord)
noncomputable def spec_l7Do (k : Nat) (a0 : DWorld) (a1 : DEvent) : Option (DWorld) :=
  bif (a1.Kind == 1) then
    (spec_l7Tick k a0).bind fun r1 =>
    some r1
  else
    (spec_l1In k a1.Kind 2 7).bind fun r2 =>
    bif r2 then
      (spec_l1In k a1.A 0 (IntKind.wrap .i64 ((a0.Flight.length : Int) - 1))).bind fun r3 =>
      bif r3 then
        (spec_l7Parcel k a0 a1).bind fun r4 =>
        some r4
      else
        (spec_l1In k a1.Kind 8 11).bind fun r5 =>
        bif r5 then
          (spec_l1In k a1.A 1 2).bind fun r6 =>
          bif r6 then
            (spec_l7End k a0 a1).bind fun r7 =>
            some r7
          else
            some a0
        else
          some a0
    else
      (spec_l1In k a1.Kind 8 11).bind fun r8 =>
      bif r8 then
        (spec_l1In k a1.A 1 2).bind fun r9 =>
        bif r9 then
          (spec_l7End k a0 a1).bind fun r10 =>
          some r10
        else
          some a0
      else
        some a0
noncomputable def spec_Do (k : Nat) (a0 : DWorld) (a1 : DEvent) : Option (DWorld) :=
  (spec_ValidWorld k a0).bind fun r1 =>
  bif (!r1) then
    some (⟨(⟨#[]⟩ : ByteArray), 0, ([] : List DEnd), ([] : List DParcel), (⟨#[]⟩ : ByteArray), ([] : List DRecord), ([] : List DRecord)⟩ : DWorld)
  else
    (spec_l7Copy k a0).bind fun r2 =>
    (spec_l7Do k r2 a1).bind fun r3 =>
    (spec_l7Copy k r3).bind fun r4 =>
    some r4
noncomputable def laws_wRecords_l4 : Nat → List DRecord → List DRecord → Int → Option (Bool)
  | 0, _, _, _ => none
  | k + 1, x0, x1, x2 =>
    bif (decide (x2 < (x0.length : Int))) then
      (idx x0 x2).bind fun y1 =>
      (idx x1 x2).bind fun y2 =>
      bif (!(((y1.From : Int) == y2.From) && (((y1.A : Int) == y2.A) && (((y1.B : Int) == y2.B) && ((y1.Text.toList == y2.Text.toList) && true))))) then
        some false
      else
        laws_wRecords_l4 k x0 x1 (IntKind.wrap .i64 (x2 + 1))
    else
      some true
noncomputable def laws_wRecords (k : Nat) (a0 : List DRecord) (a1 : List DRecord) : Option (Bool) :=
  bif ((a0.length : Int) != (a1.length : Int)) then
    some false
  else
    laws_wRecords_l4 k a0 a1 0
mutual
noncomputable def laws_wWorld_l4 : Nat → Int → ByteArray → Int → List DEnd → List DParcel → ByteArray → List DRecord → List DRecord → ByteArray → Int → List DEnd → List DParcel → ByteArray → List DRecord → List DRecord → Option (Bool)
  | 0, _, _, _, _, _, _, _, _, _, _, _, _, _, _, _ => none
  | k + 1, x0, x1, x2, x3, x4, x5, x6, x7, x8, x9, x10, x11, x12, x13, x14 =>
    bif (decide (x0 < (x3.length : Int))) then
      (idx x3 x0).bind fun y3 =>
      (idx x10 x0).bind fun y4 =>
      (laws_wEnd k y3 y4).bind fun r5 =>
      bif (!r5) then
        some false
      else
        laws_wWorld_l4 k (IntKind.wrap .i64 (x0 + 1)) x1 x2 x3 x4 x5 x6 x7 x8 x9 x10 x11 x12 x13 x14
    else
      laws_wWorld_l9 k 0 x1 x2 x3 x4 x5 x6 x7 x8 x9 x10 x11 x12 x13 x14
noncomputable def laws_wWorld_l9 : Nat → Int → ByteArray → Int → List DEnd → List DParcel → ByteArray → List DRecord → List DRecord → ByteArray → Int → List DEnd → List DParcel → ByteArray → List DRecord → List DRecord → Option (Bool)
  | 0, _, _, _, _, _, _, _, _, _, _, _, _, _, _, _ => none
  | k + 1, x0, x1, x2, x3, x4, x5, x6, x7, x8, x9, x10, x11, x12, x13, x14 =>
    bif (decide (x0 < (x4.length : Int))) then
      (idx x4 x0).bind fun y6 =>
      (idx x11 x0).bind fun y7 =>
      bif (!(((y6.To : Int) == y7.To) && ((y6.Sent.toList == y7.Sent.toList) && ((y6.Bytes.toList == y7.Bytes.toList) && true)))) then
        some false
      else
        laws_wWorld_l9 k (IntKind.wrap .i64 (x0 + 1)) x1 x2 x3 x4 x5 x6 x7 x8 x9 x10 x11 x12 x13 x14
    else
      some true
end
noncomputable def laws_wWorld (k : Nat) (a0 : DWorld) (a1 : DWorld) : Option (Bool) :=
  bif (!(a0.Key.toList == a1.Key.toList)) then
    some false
  else
    bif (a0.Width != a1.Width) then
      some false
    else
      bif (!(a0.Forged.toList == a1.Forged.toList)) then
        some false
      else
        bif ((a0.Ends.length : Int) != (a1.Ends.length : Int)) then
          some false
        else
          bif ((a0.Flight.length : Int) != (a1.Flight.length : Int)) then
            some false
          else
            (laws_wRecords k a0.Given a1.Given).bind fun r1 =>
            bif (!r1) then
              some false
            else
              (laws_wRecords k a0.Taken a1.Taken).bind fun r2 =>
              bif (!r2) then
                some false
              else
                laws_wWorld_l4 k 0 a0.Key a0.Width a0.Ends a0.Flight a0.Forged a0.Given a0.Taken a1.Key a1.Width a1.Ends a1.Flight a1.Forged a1.Given a1.Taken
mutual
noncomputable def impl_Right_l5 : Nat → List DRecord → Int → Int → ByteArray → Int → List DEnd → List DParcel → ByteArray → List DRecord → List DRecord → List (DPair × List ByteArray) → Option (Bool)
  | 0, _, _, _, _, _, _, _, _, _, _, _ => none
  | k + 1, x0, x1, x2, x3, x4, x5, x6, x7, x8, x9, x10 =>
    bif (decide (x2 < x1)) then
      (idx x0 x2).bind fun y2 =>
      optK (mfind (eq_pair (⟨y2.From, y2.A, y2.B⟩ : DPair)) x10 0) (
        (app 16 ([] : List ByteArray) ([y2.Text] : List ByteArray)).bind fun l4 =>
        (idx (x10 ++ [((⟨y2.From, y2.A, y2.B⟩ : DPair), ([] : List ByteArray))]) (x10.length : Int)).bind fun e5 =>
        impl_Right_l5 k x0 x1 (IntKind.wrap .i64 (x2 + 1)) x3 x4 x5 x6 x7 x8 x9 ((x10 ++ [((⟨y2.From, y2.A, y2.B⟩ : DPair), ([] : List ByteArray))]).set (Int.toNat (x10.length : Int)) (e5.1, l4))
      ) (fun p3 =>
        (app 16 p3.2 ([y2.Text] : List ByteArray)).bind fun l6 =>
        bif Nat.beq p3.1 (Int.toNat (p3.1 : Int)) then
          (idx x10 (p3.1 : Int)).bind fun e7 =>
          impl_Right_l5 k x0 x1 (IntKind.wrap .i64 (x2 + 1)) x3 x4 x5 x6 x7 x8 x9 (x10.set (Int.toNat (p3.1 : Int)) (e7.1, l6))
        else
          none
      )
    else
      impl_Right_l12 k x9 (x9.length : Int) 0 x10 ([] : List (DPair × Int))
noncomputable def impl_Right_l12 : Nat → List DRecord → Int → Int → List (DPair × List ByteArray) → List (DPair × Int) → Option (Bool)
  | 0, _, _, _, _, _ => none
  | k + 1, x0, x1, x2, x3, x4 =>
    bif (decide (x2 < x1)) then
      (idx x0 x2).bind fun y8 =>
      optK (mfind (eq_pair (⟨y8.From, y8.A, y8.B⟩ : DPair)) x4 0) (
        optK (mfind (eq_pair (⟨y8.From, y8.A, y8.B⟩ : DPair)) x3 0) (
          bif (decide ((0 : Int) ≥ (([] : List ByteArray).length : Int))) then
            some false
          else
            optK (mfind (eq_pair (⟨y8.From, y8.A, y8.B⟩ : DPair)) x3 0) (
              optK (mfind (eq_pair (⟨y8.From, y8.A, y8.B⟩ : DPair)) x4 0) (
                none
              ) (fun p12 =>
                none
              )
            ) (fun p11 =>
              optK (mfind (eq_pair (⟨y8.From, y8.A, y8.B⟩ : DPair)) x4 0) (
                (idx p11.2 0).bind fun _ =>
                (p11.2[(Int.toNat 0)]?).bind fun y14 =>
                bif (!(y14.toList == y8.Text.toList)) then
                  some false
                else
                  impl_Right_l17 k x0 x1 x2 (x3.modify p11.1 fun e => (e.1, p11.2)) x4 y8.From y8.A y8.B
              ) (fun p13 =>
                (idx p11.2 p13.2).bind fun _ =>
                (p11.2[(Int.toNat p13.2)]?).bind fun y15 =>
                bif (!(y15.toList == y8.Text.toList)) then
                  some false
                else
                  impl_Right_l17 k x0 x1 x2 (x3.modify p11.1 fun e => (e.1, p11.2)) x4 y8.From y8.A y8.B
              )
            )
        ) (fun p10 =>
          bif (decide ((0 : Int) ≥ (p10.2.length : Int))) then
            some false
          else
            optK (mfind (eq_pair (⟨y8.From, y8.A, y8.B⟩ : DPair)) (x3.modify p10.1 fun e => (e.1, p10.2)) 0) (
              optK (mfind (eq_pair (⟨y8.From, y8.A, y8.B⟩ : DPair)) x4 0) (
                none
              ) (fun p17 =>
                none
              )
            ) (fun p16 =>
              optK (mfind (eq_pair (⟨y8.From, y8.A, y8.B⟩ : DPair)) x4 0) (
                (idx p16.2 0).bind fun _ =>
                (p16.2[(Int.toNat 0)]?).bind fun y19 =>
                bif (!(y19.toList == y8.Text.toList)) then
                  some false
                else
                  impl_Right_l17 k x0 x1 x2 ((x3.modify p10.1 fun e => (e.1, p10.2)).modify p16.1 fun e => (e.1, p16.2)) x4 y8.From y8.A y8.B
              ) (fun p18 =>
                (idx p16.2 p18.2).bind fun _ =>
                (p16.2[(Int.toNat p18.2)]?).bind fun y20 =>
                bif (!(y20.toList == y8.Text.toList)) then
                  some false
                else
                  impl_Right_l17 k x0 x1 x2 ((x3.modify p10.1 fun e => (e.1, p10.2)).modify p16.1 fun e => (e.1, p16.2)) x4 y8.From y8.A y8.B
              )
            )
        )
      ) (fun p9 =>
        optK (mfind (eq_pair (⟨y8.From, y8.A, y8.B⟩ : DPair)) x3 0) (
          bif (decide (p9.2 ≥ (([] : List ByteArray).length : Int))) then
            some false
          else
            optK (mfind (eq_pair (⟨y8.From, y8.A, y8.B⟩ : DPair)) x3 0) (
              optK (mfind (eq_pair (⟨y8.From, y8.A, y8.B⟩ : DPair)) x4 0) (
                none
              ) (fun p23 =>
                none
              )
            ) (fun p22 =>
              optK (mfind (eq_pair (⟨y8.From, y8.A, y8.B⟩ : DPair)) x4 0) (
                (idx p22.2 0).bind fun _ =>
                (p22.2[(Int.toNat 0)]?).bind fun y25 =>
                bif (!(y25.toList == y8.Text.toList)) then
                  some false
                else
                  impl_Right_l17 k x0 x1 x2 (x3.modify p22.1 fun e => (e.1, p22.2)) x4 y8.From y8.A y8.B
              ) (fun p24 =>
                (idx p22.2 p24.2).bind fun _ =>
                (p22.2[(Int.toNat p24.2)]?).bind fun y26 =>
                bif (!(y26.toList == y8.Text.toList)) then
                  some false
                else
                  impl_Right_l17 k x0 x1 x2 (x3.modify p22.1 fun e => (e.1, p22.2)) x4 y8.From y8.A y8.B
              )
            )
        ) (fun p21 =>
          bif (decide (p9.2 ≥ (p21.2.length : Int))) then
            some false
          else
            optK (mfind (eq_pair (⟨y8.From, y8.A, y8.B⟩ : DPair)) (x3.modify p21.1 fun e => (e.1, p21.2)) 0) (
              optK (mfind (eq_pair (⟨y8.From, y8.A, y8.B⟩ : DPair)) x4 0) (
                none
              ) (fun p28 =>
                none
              )
            ) (fun p27 =>
              optK (mfind (eq_pair (⟨y8.From, y8.A, y8.B⟩ : DPair)) x4 0) (
                (idx p27.2 0).bind fun _ =>
                (p27.2[(Int.toNat 0)]?).bind fun y30 =>
                bif (!(y30.toList == y8.Text.toList)) then
                  some false
                else
                  impl_Right_l17 k x0 x1 x2 ((x3.modify p21.1 fun e => (e.1, p21.2)).modify p27.1 fun e => (e.1, p27.2)) x4 y8.From y8.A y8.B
              ) (fun p29 =>
                (idx p27.2 p29.2).bind fun _ =>
                (p27.2[(Int.toNat p29.2)]?).bind fun y31 =>
                bif (!(y31.toList == y8.Text.toList)) then
                  some false
                else
                  impl_Right_l17 k x0 x1 x2 ((x3.modify p21.1 fun e => (e.1, p21.2)).modify p27.1 fun e => (e.1, p27.2)) x4 y8.From y8.A y8.B
              )
            )
        )
      )
    else
      some true
noncomputable def impl_Right_l17 : Nat → List DRecord → Int → Int → List (DPair × List ByteArray) → List (DPair × Int) → Int → Int → Int → Option (Bool)
  | 0, _, _, _, _, _, _, _, _ => none
  | k + 1, x0, x1, x2, x3, x4, x5, x6, x7 =>
    both (
      optK (mfind (eq_pair (⟨x5, x6, x7⟩ : DPair)) x4 0) (
        optK (mfind (eq_pair (⟨x5, x6, x7⟩ : DPair)) x4 0) (
          (idx (x4 ++ [((⟨x5, x6, x7⟩ : DPair), 0)]) (x4.length : Int)).bind fun e34 =>
          impl_Right_l12 k x0 x1 (IntKind.wrap .i64 (x2 + 1)) x3 ((x4 ++ [((⟨x5, x6, x7⟩ : DPair), 0)]).set (Int.toNat (x4.length : Int)) (e34.1, (IntKind.wrap .i64 (0 + 1))))
        ) (fun p33 =>
          (idx x4 (p33.1 : Int)).bind fun e35 =>
          impl_Right_l12 k x0 x1 (IntKind.wrap .i64 (x2 + 1)) x3 (x4.set (Int.toNat (p33.1 : Int)) (e35.1, (IntKind.wrap .i64 (0 + 1))))
        )
      ) (fun p32 =>
        optK (mfind (eq_pair (⟨x5, x6, x7⟩ : DPair)) x4 0) (
          (idx (x4 ++ [((⟨x5, x6, x7⟩ : DPair), 0)]) (x4.length : Int)).bind fun e37 =>
          impl_Right_l12 k x0 x1 (IntKind.wrap .i64 (x2 + 1)) x3 ((x4 ++ [((⟨x5, x6, x7⟩ : DPair), 0)]).set (Int.toNat (x4.length : Int)) (e37.1, (IntKind.wrap .i64 (p32.2 + 1))))
        ) (fun p36 =>
          (idx x4 (p36.1 : Int)).bind fun e38 =>
          impl_Right_l12 k x0 x1 (IntKind.wrap .i64 (x2 + 1)) x3 (x4.set (Int.toNat (p36.1 : Int)) (e38.1, (IntKind.wrap .i64 (p32.2 + 1))))
        )
      )
    ) (
      optK (mfind (eq_pair (⟨x5, x6, x7⟩ : DPair)) x4 0) (
        optK (mfind (eq_pair (⟨x5, x6, x7⟩ : DPair)) (x4 ++ [((⟨x5, x6, x7⟩ : DPair), 0)]) 0) (
          (idx (x4 ++ [((⟨x5, x6, x7⟩ : DPair), 0)]) (x4.length : Int)).bind fun e41 =>
          impl_Right_l12 k x0 x1 (IntKind.wrap .i64 (x2 + 1)) x3 ((x4 ++ [((⟨x5, x6, x7⟩ : DPair), 0)]).set (Int.toNat (x4.length : Int)) (e41.1, (IntKind.wrap .i64 (0 + 1))))
        ) (fun p40 =>
          (idx (x4 ++ [((⟨x5, x6, x7⟩ : DPair), 0)]) (x4.length : Int)).bind fun e42 =>
          impl_Right_l12 k x0 x1 (IntKind.wrap .i64 (x2 + 1)) x3 ((x4 ++ [((⟨x5, x6, x7⟩ : DPair), 0)]).set (Int.toNat (x4.length : Int)) (e42.1, (IntKind.wrap .i64 (p40.2 + 1))))
        )
      ) (fun p39 =>
        optK (mfind (eq_pair (⟨x5, x6, x7⟩ : DPair)) x4 0) (
          (idx x4 (p39.1 : Int)).bind fun e44 =>
          impl_Right_l12 k x0 x1 (IntKind.wrap .i64 (x2 + 1)) x3 (x4.set (Int.toNat (p39.1 : Int)) (e44.1, (IntKind.wrap .i64 (0 + 1))))
        ) (fun p43 =>
          (idx x4 (p39.1 : Int)).bind fun e45 =>
          impl_Right_l12 k x0 x1 (IntKind.wrap .i64 (x2 + 1)) x3 (x4.set (Int.toNat (p39.1 : Int)) (e45.1, (IntKind.wrap .i64 (p43.2 + 1))))
        )
      )
    )
end
noncomputable def impl_Right (k : Nat) (a0 : DWorld) : Option (Bool) :=
  (impl_ValidWorld k a0).bind fun r1 =>
  bif (!r1) then
    some false
  else
    impl_Right_l5 k a0.Given (a0.Given.length : Int) 0 a0.Key a0.Width a0.Ends a0.Flight a0.Forged a0.Given a0.Taken ([] : List (DPair × List ByteArray))
mutual
noncomputable def impl_Calm_l7 : Nat → Int → Int → ByteArray → Int → ByteArray → ByteArray → Int → ByteArray → List (DKey × Int) → List DEnd → List DParcel → List DRecord → List DRecord → List DEnd → List DParcel → List DRecord → List DRecord → Option (DWorld)
  | 0, _, _, _, _, _, _, _, _, _, _, _, _, _, _, _, _, _ => none
  | k + 1, x0, x1, x2, x3, x4, x5, x6, x7, x8, x9, x10, x11, x12, x13, x14, x15, x16 =>
    bif (decide (x0 > 0)) then
      (impl_World_tick k (⟨x5, x6, x13, x14, x7, x15, x16⟩ : DWorld)).bind fun r3 =>
      impl_Calm_l13 k x0 x1 (r3.Flight.length : Int) 0 x2 x3 x4 r3.Key r3.Width r3.Forged x8 r3.Flight x9 x10 x11 x12 r3.Ends ([] : List DParcel) r3.Given r3.Taken
    else
      some (⟨x5, x6, x13, x14, x7, x15, x16⟩ : DWorld)
noncomputable def impl_Calm_l13 : Nat → Int → Int → Int → Int → ByteArray → Int → ByteArray → ByteArray → Int → ByteArray → List (DKey × Int) → List DParcel → List DEnd → List DParcel → List DRecord → List DRecord → List DEnd → List DParcel → List DRecord → List DRecord → Option (DWorld)
  | 0, _, _, _, _, _, _, _, _, _, _, _, _, _, _, _, _, _, _, _, _ => none
  | k + 1, x0, x1, x2, x3, x4, x5, x6, x7, x8, x9, x10, x11, x12, x13, x14, x15, x16, x17, x18, x19 =>
    bif (decide (x3 < x2)) then
      (idx x11 x3).bind fun _ =>
      (x11[(Int.toNat x3)]?).bind fun y4 =>
      both (
        optK (mfind (eq_key (⟨y4.To, y4.Bytes⟩ : DKey)) x10 0) (
          optK (mfind (eq_key (⟨y4.To, y4.Bytes⟩ : DKey)) x10 0) (
            (idx (x10 ++ [((⟨y4.To, y4.Bytes⟩ : DKey), 0)]) (x10.length : Int)).bind fun e7 =>
            impl_Calm_l17 k x0 x1 x2 x3 x4 x5 x6 x7 x8 x9 ((x10 ++ [((⟨y4.To, y4.Bytes⟩ : DKey), 0)]).set (Int.toNat (x10.length : Int)) (e7.1, (IntKind.wrap .i64 (0 + 1)))) y4.To y4.Sent y4.Bytes y4.To y4.Bytes x11 x12 x13 x14 x15 x16 x17 x18 x19
          ) (fun p6 =>
            (idx x10 (p6.1 : Int)).bind fun e8 =>
            impl_Calm_l17 k x0 x1 x2 x3 x4 x5 x6 x7 x8 x9 (x10.set (Int.toNat (p6.1 : Int)) (e8.1, (IntKind.wrap .i64 (0 + 1)))) y4.To y4.Sent y4.Bytes y4.To y4.Bytes x11 x12 x13 x14 x15 x16 x17 x18 x19
          )
        ) (fun p5 =>
          optK (mfind (eq_key (⟨y4.To, y4.Bytes⟩ : DKey)) x10 0) (
            (idx (x10 ++ [((⟨y4.To, y4.Bytes⟩ : DKey), 0)]) (x10.length : Int)).bind fun e10 =>
            impl_Calm_l17 k x0 x1 x2 x3 x4 x5 x6 x7 x8 x9 ((x10 ++ [((⟨y4.To, y4.Bytes⟩ : DKey), 0)]).set (Int.toNat (x10.length : Int)) (e10.1, (IntKind.wrap .i64 (p5.2 + 1)))) y4.To y4.Sent y4.Bytes y4.To y4.Bytes x11 x12 x13 x14 x15 x16 x17 x18 x19
          ) (fun p9 =>
            (idx x10 (p9.1 : Int)).bind fun e11 =>
            impl_Calm_l17 k x0 x1 x2 x3 x4 x5 x6 x7 x8 x9 (x10.set (Int.toNat (p9.1 : Int)) (e11.1, (IntKind.wrap .i64 (p5.2 + 1)))) y4.To y4.Sent y4.Bytes y4.To y4.Bytes x11 x12 x13 x14 x15 x16 x17 x18 x19
          )
        )
      ) (
        optK (mfind (eq_key (⟨y4.To, y4.Bytes⟩ : DKey)) x10 0) (
          optK (mfind (eq_key (⟨y4.To, y4.Bytes⟩ : DKey)) (x10 ++ [((⟨y4.To, y4.Bytes⟩ : DKey), 0)]) 0) (
            (idx (x10 ++ [((⟨y4.To, y4.Bytes⟩ : DKey), 0)]) (x10.length : Int)).bind fun e14 =>
            impl_Calm_l17 k x0 x1 x2 x3 x4 x5 x6 x7 x8 x9 ((x10 ++ [((⟨y4.To, y4.Bytes⟩ : DKey), 0)]).set (Int.toNat (x10.length : Int)) (e14.1, (IntKind.wrap .i64 (0 + 1)))) y4.To y4.Sent y4.Bytes y4.To y4.Bytes x11 x12 x13 x14 x15 x16 x17 x18 x19
          ) (fun p13 =>
            (idx (x10 ++ [((⟨y4.To, y4.Bytes⟩ : DKey), 0)]) (x10.length : Int)).bind fun e15 =>
            impl_Calm_l17 k x0 x1 x2 x3 x4 x5 x6 x7 x8 x9 ((x10 ++ [((⟨y4.To, y4.Bytes⟩ : DKey), 0)]).set (Int.toNat (x10.length : Int)) (e15.1, (IntKind.wrap .i64 (p13.2 + 1)))) y4.To y4.Sent y4.Bytes y4.To y4.Bytes x11 x12 x13 x14 x15 x16 x17 x18 x19
          )
        ) (fun p12 =>
          optK (mfind (eq_key (⟨y4.To, y4.Bytes⟩ : DKey)) x10 0) (
            (idx x10 (p12.1 : Int)).bind fun e17 =>
            impl_Calm_l17 k x0 x1 x2 x3 x4 x5 x6 x7 x8 x9 (x10.set (Int.toNat (p12.1 : Int)) (e17.1, (IntKind.wrap .i64 (0 + 1)))) y4.To y4.Sent y4.Bytes y4.To y4.Bytes x11 x12 x13 x14 x15 x16 x17 x18 x19
          ) (fun p16 =>
            (idx x10 (p12.1 : Int)).bind fun e18 =>
            impl_Calm_l17 k x0 x1 x2 x3 x4 x5 x6 x7 x8 x9 (x10.set (Int.toNat (p12.1 : Int)) (e18.1, (IntKind.wrap .i64 (p16.2 + 1)))) y4.To y4.Sent y4.Bytes y4.To y4.Bytes x11 x12 x13 x14 x15 x16 x17 x18 x19
          )
        )
      )
    else
      impl_Calm_l21 k x0 x1 1 x4 x5 x6 x7 x8 x9 x10 x12 x13 x14 x15 x16 x17 x18 x19
noncomputable def impl_Calm_l17 : Nat → Int → Int → Int → Int → ByteArray → Int → ByteArray → ByteArray → Int → ByteArray → List (DKey × Int) → Int → ByteArray → ByteArray → Int → ByteArray → List DParcel → List DEnd → List DParcel → List DRecord → List DRecord → List DEnd → List DParcel → List DRecord → List DRecord → Option (DWorld)
  | 0, _, _, _, _, _, _, _, _, _, _, _, _, _, _, _, _, _, _, _, _, _, _, _, _, _ => none
  | k + 1, x0, x1, x2, x3, x4, x5, x6, x7, x8, x9, x10, x11, x12, x13, x14, x15, x16, x17, x18, x19, x20, x21, x22, x23, x24 =>
    optK (mfind (eq_key (⟨x14, x15⟩ : DKey)) x10 0) (
      (qrem 0 x1).bind fun q20 =>
      bif (q20 == 0) then
        (impl_World_bring k (⟨x7, x8, x21, x22, x9, x23, x24⟩ : DWorld) (⟨x11, x12, x13⟩ : DParcel)).bind fun r21 =>
        impl_Calm_l19 k x0 x1 x2 x3 x4 x5 x6 r21.Key r21.Width r21.Forged x10 x16 x17 x18 x19 x20 r21.Ends r21.Flight r21.Given r21.Taken
      else
        impl_Calm_l19 k x0 x1 x2 x3 x4 x5 x6 x7 x8 x9 x10 x16 x17 x18 x19 x20 x21 x22 x23 x24
    ) (fun p19 =>
      (qrem p19.2 x1).bind fun q22 =>
      bif (q22 == 0) then
        (impl_World_bring k (⟨x7, x8, x21, x22, x9, x23, x24⟩ : DWorld) (⟨x11, x12, x13⟩ : DParcel)).bind fun r23 =>
        impl_Calm_l19 k x0 x1 x2 x3 x4 x5 x6 r23.Key r23.Width r23.Forged x10 x16 x17 x18 x19 x20 r23.Ends r23.Flight r23.Given r23.Taken
      else
        impl_Calm_l19 k x0 x1 x2 x3 x4 x5 x6 x7 x8 x9 x10 x16 x17 x18 x19 x20 x21 x22 x23 x24
    )
noncomputable def impl_Calm_l21 : Nat → Int → Int → Int → ByteArray → Int → ByteArray → ByteArray → Int → ByteArray → List (DKey × Int) → List DEnd → List DParcel → List DRecord → List DRecord → List DEnd → List DParcel → List DRecord → List DRecord → Option (DWorld)
  | 0, _, _, _, _, _, _, _, _, _, _, _, _, _, _, _, _, _, _ => none
  | k + 1, x0, x1, x2, x3, x4, x5, x6, x7, x8, x9, x10, x11, x12, x13, x14, x15, x16, x17 =>
    bif (decide (x2 ≤ 2)) then
      impl_Calm_l24 k x0 x1 x2 0 x3 x4 x5 x6 x7 x8 x9 x10 x11 x12 x13 x14 x15 x16 x17
    else
      impl_Calm_l7 k (IntKind.wrap .i64 (x0 - 1)) x1 x3 x4 x5 x6 x7 x8 x9 x10 x11 x12 x13 x14 x15 x16 x17
noncomputable def impl_Calm_l19 : Nat → Int → Int → Int → Int → ByteArray → Int → ByteArray → ByteArray → Int → ByteArray → List (DKey × Int) → List DParcel → List DEnd → List DParcel → List DRecord → List DRecord → List DEnd → List DParcel → List DRecord → List DRecord → Option (DWorld)
  | 0, _, _, _, _, _, _, _, _, _, _, _, _, _, _, _, _, _, _, _, _ => none
  | k + 1, x0, x1, x2, x3, x4, x5, x6, x7, x8, x9, x10, x11, x12, x13, x14, x15, x16, x17, x18, x19 =>
    impl_Calm_l13 k x0 x1 x2 (IntKind.wrap .i64 (x3 + 1)) x4 x5 x6 x7 x8 x9 x10 x11 x12 x13 x14 x15 x16 x17 x18 x19
noncomputable def impl_Calm_l24 : Nat → Int → Int → Int → Int → ByteArray → Int → ByteArray → ByteArray → Int → ByteArray → List (DKey × Int) → List DEnd → List DParcel → List DRecord → List DRecord → List DEnd → List DParcel → List DRecord → List DRecord → Option (DWorld)
  | 0, _, _, _, _, _, _, _, _, _, _, _, _, _, _, _, _, _, _, _ => none
  | k + 1, x0, x1, x2, x3, x4, x5, x6, x7, x8, x9, x10, x11, x12, x13, x14, x15, x16, x17, x18 =>
    bif (decide (x3 < 4)) then
      (idx x15 (IntKind.wrap .i64 (x2 - 1))).bind fun _ =>
      (x15[(Int.toNat (IntKind.wrap .i64 (x2 - 1)))]?).bind fun y24 =>
      bif (decide ((y24.Take.Ready.length : Int) > 0)) then
        (impl_World_pull k (⟨x7, x8, x15, x16, x9, x17, x18⟩ : DWorld) x2).bind fun r25 =>
        impl_Calm_l24 k x0 x1 x2 (IntKind.wrap .i64 (x3 + 1)) x4 x5 x6 r25.Key r25.Width r25.Forged x10 x11 x12 x13 x14 r25.Ends r25.Flight r25.Given r25.Taken
      else
        impl_Calm_l21 k x0 x1 (IntKind.wrap .i64 (x2 + 1)) x4 x5 x6 x7 x8 x9 x10 x11 x12 x13 x14 x15 x16 x17 x18
    else
      impl_Calm_l21 k x0 x1 (IntKind.wrap .i64 (x2 + 1)) x4 x5 x6 x7 x8 x9 x10 x11 x12 x13 x14 x15 x16 x17 x18
end
noncomputable def impl_Calm (k : Nat) (a0 : DWorld) (a1 : Int) (a2 : Int) : Option (DWorld) :=
  (impl_ValidWorld k a0).bind fun r1 =>
  bif (!r1) then
    some (⟨(⟨#[]⟩ : ByteArray), 0, ([] : List DEnd), ([] : List DParcel), (⟨#[]⟩ : ByteArray), ([] : List DRecord), ([] : List DRecord)⟩ : DWorld)
  else
    bif (decide (a2 < 1)) then
      some (⟨(⟨#[]⟩ : ByteArray), 0, ([] : List DEnd), ([] : List DParcel), (⟨#[]⟩ : ByteArray), ([] : List DRecord), ([] : List DRecord)⟩ : DWorld)
    else
      bif (decide (a2 > 10)) then
        some (⟨(⟨#[]⟩ : ByteArray), 0, ([] : List DEnd), ([] : List DParcel), (⟨#[]⟩ : ByteArray), ([] : List DRecord), ([] : List DRecord)⟩ : DWorld)
      else
        (impl_copyWorld k a0).bind fun r2 =>
        bif (decide (a1 > 5000)) then
          impl_Calm_l7 k 5000 a2 (⟨#[]⟩ : ByteArray) 0 (⟨#[]⟩ : ByteArray) r2.Key r2.Width r2.Forged ([] : List (DKey × Int)) ([] : List DEnd) ([] : List DParcel) ([] : List DRecord) ([] : List DRecord) r2.Ends r2.Flight r2.Given r2.Taken
        else
          impl_Calm_l7 k a1 a2 (⟨#[]⟩ : ByteArray) 0 (⟨#[]⟩ : ByteArray) r2.Key r2.Width r2.Forged ([] : List (DKey × Int)) ([] : List DEnd) ([] : List DParcel) ([] : List DRecord) ([] : List DRecord) r2.Ends r2.Flight r2.Given r2.Taken
noncomputable def impl_Idle_l4 : Nat → List DEnd → Int → Int → ByteArray → Int → List DEnd → List DParcel → ByteArray → List DRecord → List DRecord → Option (Bool)
  | 0, _, _, _, _, _, _, _, _, _, _ => none
  | k + 1, x0, x1, x2, x3, x4, x5, x6, x7, x8, x9 =>
    bif (decide (x2 < x1)) then
      (idx x0 x2).bind fun y2 =>
      bif (!y2.Up) then
        some false
      else
        (idx x5 (IntKind.wrap .i64 (1 - x2))).bind fun y3 =>
        bif (y2.Peer != y3.Life) then
          some false
        else
          bif (decide ((y2.Send.Items.length : Int) > 0)) then
            some false
          else
            bif (decide ((y2.Take.Held.length : Int) > 0)) then
              some false
            else
              bif (!(y2.Take.Open.toList == (⟨#[]⟩ : ByteArray).toList)) then
                some false
              else
                bif (decide ((y2.Take.Ready.length : Int) > 0)) then
                  some false
                else
                  impl_Idle_l4 k x0 x1 (IntKind.wrap .i64 (x2 + 1)) x3 x4 x5 x6 x7 x8 x9
    else
      some true
noncomputable def impl_Idle (k : Nat) (a0 : DWorld) : Option (Bool) :=
  (impl_ValidWorld k a0).bind fun r1 =>
  bif (!r1) then
    some false
  else
    impl_Idle_l4 k a0.Ends (a0.Ends.length : Int) 0 a0.Key a0.Width a0.Ends a0.Flight a0.Forged a0.Given a0.Taken
mutual
noncomputable def spec_Right_l4 : Nat → Int → ByteArray → Int → List DEnd → List DParcel → ByteArray → List DRecord → List DRecord → Option (Bool)
  | 0, _, _, _, _, _, _, _, _ => none
  | k + 1, x0, x1, x2, x3, x4, x5, x6, x7 =>
    bif (decide (x0 < (x7.length : Int))) then
      (idx x7 x0).bind fun y2 =>
      spec_Right_l9 k x0 0 0 x1 x2 x3 x4 x5 x6 x7 y2.From y2.A y2.B y2.Text
    else
      some true
noncomputable def spec_Right_l9 : Nat → Int → Int → Int → ByteArray → Int → List DEnd → List DParcel → ByteArray → List DRecord → List DRecord → Int → Int → Int → ByteArray → Option (Bool)
  | 0, _, _, _, _, _, _, _, _, _, _, _, _, _, _ => none
  | k + 1, x0, x1, x2, x3, x4, x5, x6, x7, x8, x9, x10, x11, x12, x13 =>
    bif (decide (x2 < x0)) then
      (idx x9 x2).bind fun y3 =>
      bif (y3.From == x10) then
        (idx x9 x2).bind fun y4 =>
        bif (y4.A == x11) then
          (idx x9 x2).bind fun y5 =>
          bif (y5.B == x12) then
            spec_Right_l10 k x0 (IntKind.wrap .i64 (x1 + 1)) x2 x3 x4 x5 x6 x7 x8 x9 x10 x11 x12 x13
          else
            spec_Right_l10 k x0 x1 x2 x3 x4 x5 x6 x7 x8 x9 x10 x11 x12 x13
        else
          spec_Right_l10 k x0 x1 x2 x3 x4 x5 x6 x7 x8 x9 x10 x11 x12 x13
      else
        spec_Right_l10 k x0 x1 x2 x3 x4 x5 x6 x7 x8 x9 x10 x11 x12 x13
    else
      spec_Right_l15 k x0 x1 false 0 x3 x4 x5 x6 x7 x8 x9 x10 x11 x12 x13
noncomputable def spec_Right_l10 : Nat → Int → Int → Int → ByteArray → Int → List DEnd → List DParcel → ByteArray → List DRecord → List DRecord → Int → Int → Int → ByteArray → Option (Bool)
  | 0, _, _, _, _, _, _, _, _, _, _, _, _, _, _ => none
  | k + 1, x0, x1, x2, x3, x4, x5, x6, x7, x8, x9, x10, x11, x12, x13 =>
    spec_Right_l9 k x0 x1 (IntKind.wrap .i64 (x2 + 1)) x3 x4 x5 x6 x7 x8 x9 x10 x11 x12 x13
noncomputable def spec_Right_l15 : Nat → Int → Int → Bool → Int → ByteArray → Int → List DEnd → List DParcel → ByteArray → List DRecord → List DRecord → Int → Int → Int → ByteArray → Option (Bool)
  | 0, _, _, _, _, _, _, _, _, _, _, _, _, _, _, _ => none
  | k + 1, x0, x1, x2, x3, x4, x5, x6, x7, x8, x9, x10, x11, x12, x13, x14 =>
    bif (decide (x3 < (x9.length : Int))) then
      (idx x9 x3).bind fun y6 =>
      bif (y6.From == x11) then
        bif (y6.A == x12) then
          bif (y6.B == x13) then
            bif x2 then
              spec_Right_l16 k x0 (IntKind.wrap .i64 (x1 - 1)) true x3 x4 x5 x6 x7 x8 x9 x10 x11 x12 x13 x14
            else
              bif (x1 == 0) then
                spec_Right_l16 k x0 (IntKind.wrap .i64 (x1 - 1)) (y6.Text.toList == x14.toList) x3 x4 x5 x6 x7 x8 x9 x10 x11 x12 x13 x14
              else
                spec_Right_l16 k x0 (IntKind.wrap .i64 (x1 - 1)) false x3 x4 x5 x6 x7 x8 x9 x10 x11 x12 x13 x14
          else
            spec_Right_l16 k x0 x1 x2 x3 x4 x5 x6 x7 x8 x9 x10 x11 x12 x13 x14
        else
          spec_Right_l16 k x0 x1 x2 x3 x4 x5 x6 x7 x8 x9 x10 x11 x12 x13 x14
      else
        spec_Right_l16 k x0 x1 x2 x3 x4 x5 x6 x7 x8 x9 x10 x11 x12 x13 x14
    else
      bif (!x2) then
        some false
      else
        spec_Right_l4 k (IntKind.wrap .i64 (x0 + 1)) x4 x5 x6 x7 x8 x9 x10
noncomputable def spec_Right_l16 : Nat → Int → Int → Bool → Int → ByteArray → Int → List DEnd → List DParcel → ByteArray → List DRecord → List DRecord → Int → Int → Int → ByteArray → Option (Bool)
  | 0, _, _, _, _, _, _, _, _, _, _, _, _, _, _, _ => none
  | k + 1, x0, x1, x2, x3, x4, x5, x6, x7, x8, x9, x10, x11, x12, x13, x14 =>
    spec_Right_l15 k x0 x1 x2 (IntKind.wrap .i64 (x3 + 1)) x4 x5 x6 x7 x8 x9 x10 x11 x12 x13 x14
end
noncomputable def spec_Right (k : Nat) (a0 : DWorld) : Option (Bool) :=
  (spec_ValidWorld k a0).bind fun r1 =>
  bif (!r1) then
    some false
  else
    spec_Right_l4 k 0 a0.Key a0.Width a0.Ends a0.Flight a0.Forged a0.Given a0.Taken
mutual
noncomputable def laws_wPair_l3 : Nat → List DRecord → Int → Int → Int → Int → List ByteArray → Option (List ByteArray)
  | 0, _, _, _, _, _, _ => none
  | k + 1, x0, x1, x2, x3, x4, x5 =>
    bif (decide (x4 < (x0.length : Int))) then
      (idx x0 x4).bind fun y1 =>
      bif (y1.From == x1) then
        (idx x0 x4).bind fun y2 =>
        bif (y2.A == x2) then
          (idx x0 x4).bind fun y3 =>
          bif (y3.B == x3) then
            (idx x0 x4).bind fun y4 =>
            (app 16 x5 ([y4.Text] : List ByteArray)).bind fun l5 =>
            laws_wPair_l4 k x0 x1 x2 x3 x4 l5
          else
            laws_wPair_l4 k x0 x1 x2 x3 x4 x5
        else
          laws_wPair_l4 k x0 x1 x2 x3 x4 x5
      else
        laws_wPair_l4 k x0 x1 x2 x3 x4 x5
    else
      some x5
noncomputable def laws_wPair_l4 : Nat → List DRecord → Int → Int → Int → Int → List ByteArray → Option (List ByteArray)
  | 0, _, _, _, _, _, _ => none
  | k + 1, x0, x1, x2, x3, x4, x5 =>
    laws_wPair_l3 k x0 x1 x2 x3 (IntKind.wrap .i64 (x4 + 1)) x5
end
noncomputable def laws_wPair (k : Nat) (a0 : List DRecord) (a1 : Int) (a2 : Int) (a3 : Int) : Option (List ByteArray) :=
  laws_wPair_l3 k a0 a1 a2 a3 0 ([] : List ByteArray)
mutual
noncomputable def laws_wLive_l9 : Nat → Int → Int → ByteArray → Int → List DEnd → List DParcel → ByteArray → List DRecord → List DRecord → Option (Bool)
  | 0, _, _, _, _, _, _, _, _, _ => none
  | k + 1, x0, x1, x2, x3, x4, x5, x6, x7, x8 =>
    (impl_Calm k (⟨x2, x3, x4, x5, x6, x7, x8⟩ : DWorld) x1 x0).bind fun r4 =>
    bif (!(r4.Forged.toList == (⟨#[]⟩ : ByteArray).toList)) then
      (spec_ValidWorld k r4).bind fun r5 =>
      some r5
    else
      (impl_Idle k r4).bind fun r6 =>
      bif (!r6) then
        some false
      else
        (impl_Right k r4).bind fun r7 =>
        bif (!r7) then
          some false
        else
          (spec_Right k r4).bind fun r8 =>
          bif (!r8) then
            some false
          else
            laws_wLive_l15 k 1 r4.Key r4.Width r4.Forged r4.Ends r4.Flight r4.Given r4.Taken
noncomputable def laws_wLive_l15 : Nat → Int → ByteArray → Int → ByteArray → List DEnd → List DParcel → List DRecord → List DRecord → Option (Bool)
  | 0, _, _, _, _, _, _, _, _ => none
  | k + 1, x0, x1, x2, x3, x4, x5, x6, x7 =>
    bif (decide (x0 ≤ 2)) then
      (idx x4 (IntKind.wrap .i64 (x0 - 1))).bind fun _ =>
      (x4[(Int.toNat (IntKind.wrap .i64 (x0 - 1)))]?).bind fun y9 =>
      (idx x4 (IntKind.wrap .i64 (2 - x0))).bind fun _ =>
      (x4[(Int.toNat (IntKind.wrap .i64 (2 - x0)))]?).bind fun y10 =>
      (laws_wPair k x7 x0 y9.Life y10.Life).bind fun r11 =>
      (laws_wPair k x6 x0 y9.Life y10.Life).bind fun r12 =>
      (laws_wTexts k r11 r12).bind fun r13 =>
      bif (!r13) then
        some false
      else
        laws_wLive_l15 k (IntKind.wrap .i64 (x0 + 1)) x1 x2 x3 x4 x5 x6 x7
    else
      some true
end
noncomputable def laws_wLive (k : Nat) (a0 : DWorld) (a1 : Int) : Option (Bool) :=
  bif ((a0.Ends.length : Int) != 2) then
    some false
  else
    (idx a0.Ends 0).bind fun y1 =>
    (idx a0.Ends 1).bind fun y2 =>
    bif (decide ((IntKind.wrap .i64 ((a0.Given.length : Int) + (a0.Taken.length : Int))) > 260)) then
      (spec_ValidWorld k a0).bind fun r3 =>
      some r3
    else
      bif (decide ((IntKind.wrap .i64 (40 + (IntKind.wrap .i64 ((IntKind.wrap .i64 (12 * a1)) * (IntKind.wrap .i64 (6 + (IntKind.wrap .i64 ((y1.Send.Items.length : Int) + (y2.Send.Items.length : Int))))))))) > 5000)) then
        laws_wLive_l9 k a1 5000 a0.Key a0.Width a0.Ends a0.Flight a0.Forged a0.Given a0.Taken
      else
        laws_wLive_l9 k a1 (IntKind.wrap .i64 (40 + (IntKind.wrap .i64 ((IntKind.wrap .i64 (12 * a1)) * (IntKind.wrap .i64 (6 + (IntKind.wrap .i64 ((y1.Send.Items.length : Int) + (y2.Send.Items.length : Int))))))))) a0.Key a0.Width a0.Ends a0.Flight a0.Forged a0.Given a0.Taken
noncomputable def laws_szEndS_l5 : Nat → List DEnd → Int → Int → Option (Int)
  | 0, _, _, _ => none
  | k + 1, x0, x1, x2 =>
    bif (decide (x2 < (x0.length : Int))) then
      (idx x0 x2).bind fun y1 =>
      (laws_szEnd k y1 x1).bind fun r2 =>
      bif (decide (r2 < 0)) then
        some (-1)
      else
        laws_szEndS_l5 k x0 r2 (IntKind.wrap .i64 (x2 + 1))
    else
      some x1
noncomputable def laws_szEndS (k : Nat) (a0 : List DEnd) (a1 : Int) : Option (Int) :=
  bif (decide ((IntKind.wrap .i64 (a1 - (a0.length : Int))) < 0)) then
    some (-1)
  else
    laws_szEndS_l5 k a0 (IntKind.wrap .i64 (a1 - (a0.length : Int))) 0
noncomputable def laws_szParcel (k : Nat) (a0 : DParcel) (a1 : Int) : Option (Int) :=
  bif (decide ((IntKind.wrap .i64 (a1 - (a0.Sent.size : Int))) < 0)) then
    some (-1)
  else
    bif (decide ((IntKind.wrap .i64 ((IntKind.wrap .i64 (a1 - (a0.Sent.size : Int))) - (a0.Bytes.size : Int))) < 0)) then
      some (-1)
    else
      some (IntKind.wrap .i64 ((IntKind.wrap .i64 (a1 - (a0.Sent.size : Int))) - (a0.Bytes.size : Int)))
noncomputable def laws_szParcelS_l5 : Nat → List DParcel → Int → Int → Option (Int)
  | 0, _, _, _ => none
  | k + 1, x0, x1, x2 =>
    bif (decide (x2 < (x0.length : Int))) then
      (idx x0 x2).bind fun y1 =>
      (laws_szParcel k y1 x1).bind fun r2 =>
      bif (decide (r2 < 0)) then
        some (-1)
      else
        laws_szParcelS_l5 k x0 r2 (IntKind.wrap .i64 (x2 + 1))
    else
      some x1
noncomputable def laws_szParcelS (k : Nat) (a0 : List DParcel) (a1 : Int) : Option (Int) :=
  bif (decide ((IntKind.wrap .i64 (a1 - (a0.length : Int))) < 0)) then
    some (-1)
  else
    laws_szParcelS_l5 k a0 (IntKind.wrap .i64 (a1 - (a0.length : Int))) 0
noncomputable def laws_szRecord (k : Nat) (a0 : DRecord) (a1 : Int) : Option (Int) :=
  bif (decide ((IntKind.wrap .i64 (a1 - (a0.Text.size : Int))) < 0)) then
    some (-1)
  else
    some (IntKind.wrap .i64 (a1 - (a0.Text.size : Int)))
noncomputable def laws_szRecordS_l5 : Nat → List DRecord → Int → Int → Option (Int)
  | 0, _, _, _ => none
  | k + 1, x0, x1, x2 =>
    bif (decide (x2 < (x0.length : Int))) then
      (idx x0 x2).bind fun y1 =>
      (laws_szRecord k y1 x1).bind fun r2 =>
      bif (decide (r2 < 0)) then
        some (-1)
      else
        laws_szRecordS_l5 k x0 r2 (IntKind.wrap .i64 (x2 + 1))
    else
      some x1
noncomputable def laws_szRecordS (k : Nat) (a0 : List DRecord) (a1 : Int) : Option (Int) :=
  bif (decide ((IntKind.wrap .i64 (a1 - (a0.length : Int))) < 0)) then
    some (-1)
  else
    laws_szRecordS_l5 k a0 (IntKind.wrap .i64 (a1 - (a0.length : Int))) 0
noncomputable def laws_szWorld (k : Nat) (a0 : DWorld) (a1 : Int) : Option (Int) :=
  bif (decide ((IntKind.wrap .i64 (a1 - (a0.Key.size : Int))) < 0)) then
    some (-1)
  else
    (laws_szEndS k a0.Ends (IntKind.wrap .i64 (a1 - (a0.Key.size : Int)))).bind fun r1 =>
    bif (decide (r1 < 0)) then
      some (-1)
    else
      (laws_szParcelS k a0.Flight r1).bind fun r2 =>
      bif (decide (r2 < 0)) then
        some (-1)
      else
        bif (decide ((IntKind.wrap .i64 (r2 - (a0.Forged.size : Int))) < 0)) then
          some (-1)
        else
          (laws_szRecordS k a0.Given (IntKind.wrap .i64 (r2 - (a0.Forged.size : Int)))).bind fun r3 =>
          bif (decide (r3 < 0)) then
            some (-1)
          else
            (laws_szRecordS k a0.Taken r3).bind fun r4 =>
            bif (decide (r4 < 0)) then
              some (-1)
            else
              some r4
noncomputable def laws_toEndS_l3 : Nat → List DEnd → Int → List DEnd → Option (List DEnd)
  | 0, _, _, _ => none
  | k + 1, x0, x1, x2 =>
    bif (decide (x1 < (x0.length : Int))) then
      (idx x0 x1).bind fun y2 =>
      (laws_toEnd k y2).bind fun r3 =>
      (idx x2 x1).bind fun _ =>
      (x2[(Int.toNat x1)]?).bind fun y4 =>
      laws_toEndS_l3 k x0 (IntKind.wrap .i64 (x1 + 1)) (x2.set (Int.toNat x1) r3)
    else
      some x2
noncomputable def laws_toEndS (k : Nat) (a0 : List DEnd) : Option (List DEnd) :=
  (if ((a0.length : Int) : Int) = (a0.length : Int) then room 152 (a0.length : Int) else none).bind fun n1 =>
  laws_toEndS_l3 k a0 0 (List.replicate n1 (⟨0, false, 0, 0, 0, false, (⟨0, ([] : List DItem)⟩ : DSend), (⟨0, ([] : List DHeld), (⟨#[]⟩ : ByteArray), ([] : List ByteArray)⟩ : DTake)⟩ : DEnd))
noncomputable def laws_toParcel (k : Nat) (a0 : DParcel) : Option (DParcel) :=
  some a0
noncomputable def laws_toParcelS_l3 : Nat → List DParcel → Int → List DParcel → Option (List DParcel)
  | 0, _, _, _ => none
  | k + 1, x0, x1, x2 =>
    bif (decide (x1 < (x0.length : Int))) then
      (idx x0 x1).bind fun y2 =>
      (laws_toParcel k y2).bind fun r3 =>
      (idx x2 x1).bind fun _ =>
      (x2[(Int.toNat x1)]?).bind fun y4 =>
      laws_toParcelS_l3 k x0 (IntKind.wrap .i64 (x1 + 1)) (x2.set (Int.toNat x1) r3)
    else
      some x2
noncomputable def laws_toParcelS (k : Nat) (a0 : List DParcel) : Option (List DParcel) :=
  (if ((a0.length : Int) : Int) = (a0.length : Int) then room 40 (a0.length : Int) else none).bind fun n1 =>
  laws_toParcelS_l3 k a0 0 (List.replicate n1 (⟨0, (⟨#[]⟩ : ByteArray), (⟨#[]⟩ : ByteArray)⟩ : DParcel))
noncomputable def laws_toRecord (k : Nat) (a0 : DRecord) : Option (DRecord) :=
  some a0
noncomputable def laws_toRecordS_l3 : Nat → List DRecord → Int → List DRecord → Option (List DRecord)
  | 0, _, _, _ => none
  | k + 1, x0, x1, x2 =>
    bif (decide (x1 < (x0.length : Int))) then
      (idx x0 x1).bind fun y2 =>
      (laws_toRecord k y2).bind fun r3 =>
      (idx x2 x1).bind fun _ =>
      (x2[(Int.toNat x1)]?).bind fun y4 =>
      laws_toRecordS_l3 k x0 (IntKind.wrap .i64 (x1 + 1)) (x2.set (Int.toNat x1) r3)
    else
      some x2
noncomputable def laws_toRecordS (k : Nat) (a0 : List DRecord) : Option (List DRecord) :=
  (if ((a0.length : Int) : Int) = (a0.length : Int) then room 40 (a0.length : Int) else none).bind fun n1 =>
  laws_toRecordS_l3 k a0 0 (List.replicate n1 (⟨0, 0, 0, (⟨#[]⟩ : ByteArray)⟩ : DRecord))
noncomputable def laws_toWorld (k : Nat) (a0 : DWorld) : Option (DWorld) :=
  (laws_toEndS k a0.Ends).bind fun r1 =>
  (laws_toParcelS k a0.Flight).bind fun r2 =>
  (laws_toRecordS k a0.Given).bind fun r3 =>
  (laws_toRecordS k a0.Taken).bind fun r4 =>
  some (⟨a0.Key, a0.Width, r1, r2, a0.Forged, r3, r4⟩ : DWorld)
noncomputable def spec_l7Passes_l2 : Nat → Int → Int → List DL7Count → Int → ByteArray → ByteArray → Option (List DL7Count × Bool)
  | 0, _, _, _, _, _, _ => none
  | k + 1, x0, x1, x2, x3, x4, x5 =>
    bif (decide (x1 < (x2.length : Int))) then
      (idx x2 x1).bind fun _ =>
      (x2[(Int.toNat x1)]?).bind fun y1 =>
      bif (y1.to == x3) then
        (idx x2 x1).bind fun _ =>
        (x2[(Int.toNat x1)]?).bind fun y2 =>
        bif (y2.bytes.toList == x5.toList) then
          (idx x2 x1).bind fun _ =>
          (x2[(Int.toNat x1)]?).bind fun y3 =>
          (idx x2 x1).bind fun _ =>
          (x2[(Int.toNat x1)]?).bind fun y4 =>
          (idx (x2.set (Int.toNat x1) (⟨y4.to, y4.bytes, (IntKind.wrap .i64 (y3.n + 1))⟩ : DL7Count)) x1).bind fun _ =>
          ((x2.set (Int.toNat x1) (⟨y4.to, y4.bytes, (IntKind.wrap .i64 (y3.n + 1))⟩ : DL7Count))[(Int.toNat x1)]?).bind fun y5 =>
          (qrem y5.n x0).bind fun q6 =>
          some ((x2.set (Int.toNat x1) (⟨y4.to, y4.bytes, (IntKind.wrap .i64 (y3.n + 1))⟩ : DL7Count)), (q6 == 0))
        else
          spec_l7Passes_l2 k x0 (IntKind.wrap .i64 (x1 + 1)) x2 x3 x4 x5
      else
        spec_l7Passes_l2 k x0 (IntKind.wrap .i64 (x1 + 1)) x2 x3 x4 x5
    else
      (app 32 x2 ([(⟨x3, x5, 1⟩ : DL7Count)] : List DL7Count)).bind fun l7 =>
      some (l7, (x0 == 1))
noncomputable def spec_l7Passes (k : Nat) (a0 : List DL7Count) (a1 : DParcel) (a2 : Int) : Option (List DL7Count × Bool) :=
  spec_l7Passes_l2 k a2 0 a0 a1.To a1.Sent a1.Bytes
mutual
noncomputable def spec_Calm_l6 : Nat → Int → Int → Int → ByteArray → Int → ByteArray → ByteArray → Int → ByteArray → List DL7Count → List DEnd → List DParcel → List DRecord → List DRecord → List DEnd → List DParcel → List DRecord → List DRecord → Option (DWorld)
  | 0, _, _, _, _, _, _, _, _, _, _, _, _, _, _, _, _, _, _ => none
  | k + 1, x0, x1, x2, x3, x4, x5, x6, x7, x8, x9, x10, x11, x12, x13, x14, x15, x16, x17 =>
    bif (decide (x2 < x0)) then
      bif (decide (x2 < 5000)) then
        (spec_l7Tick k (⟨x6, x7, x14, x15, x8, x16, x17⟩ : DWorld)).bind fun r4 =>
        spec_Calm_l9 k x0 x1 x2 x3 x4 x5 r4.Key r4.Width r4.Forged x9 x10 x11 x12 x13 r4.Ends r4.Flight r4.Given r4.Taken
      else
        (spec_l7Copy k (⟨x6, x7, x14, x15, x8, x16, x17⟩ : DWorld)).bind fun r5 =>
        some r5
    else
      (spec_l7Copy k (⟨x6, x7, x14, x15, x8, x16, x17⟩ : DWorld)).bind fun r6 =>
      some r6
noncomputable def spec_Calm_l9 : Nat → Int → Int → Int → ByteArray → Int → ByteArray → ByteArray → Int → ByteArray → List DL7Count → List DEnd → List DParcel → List DRecord → List DRecord → List DEnd → List DParcel → List DRecord → List DRecord → Option (DWorld)
  | 0, _, _, _, _, _, _, _, _, _, _, _, _, _, _, _, _, _, _ => none
  | k + 1, x0, x1, x2, x3, x4, x5, x6, x7, x8, x9, x10, x11, x12, x13, x14, x15, x16, x17 =>
    bif (decide ((x15.length : Int) > 0)) then
      (idx x15 0).bind fun _ =>
      (x15[(Int.toNat 0)]?).bind fun y7 =>
      (spec_l7Passes k x9 y7 x1).bind fun r8 =>
      bif r8.2 then
        (spec_l7Bring k (⟨x6, x7, x14, x15, x8, x16, x17⟩ : DWorld) 0).bind fun r9 =>
        spec_Calm_l9 k x0 x1 x2 x3 x4 x5 r9.Key r9.Width r9.Forged r8.1 x10 x11 x12 x13 r9.Ends r9.Flight r9.Given r9.Taken
      else
        (spec_l7Without k x15 0).bind fun r10 =>
        spec_Calm_l9 k x0 x1 x2 x3 x4 x5 x6 x7 x8 r8.1 x10 x11 x12 x13 x14 r10 x16 x17
    else
      spec_Calm_l16 k x0 x1 x2 1 x3 x4 x5 x6 x7 x8 x9 x10 x11 x12 x13 x14 x15 x16 x17
noncomputable def spec_Calm_l16 : Nat → Int → Int → Int → Int → ByteArray → Int → ByteArray → ByteArray → Int → ByteArray → List DL7Count → List DEnd → List DParcel → List DRecord → List DRecord → List DEnd → List DParcel → List DRecord → List DRecord → Option (DWorld)
  | 0, _, _, _, _, _, _, _, _, _, _, _, _, _, _, _, _, _, _, _ => none
  | k + 1, x0, x1, x2, x3, x4, x5, x6, x7, x8, x9, x10, x11, x12, x13, x14, x15, x16, x17, x18 =>
    bif (decide (x3 ≤ 2)) then
      spec_Calm_l19 k x0 x1 x2 x3 0 x4 x5 x6 x7 x8 x9 x10 x11 x12 x13 x14 x15 x16 x17 x18
    else
      spec_Calm_l6 k x0 x1 (IntKind.wrap .i64 (x2 + 1)) x4 x5 x6 x7 x8 x9 x10 x11 x12 x13 x14 x15 x16 x17 x18
noncomputable def spec_Calm_l19 : Nat → Int → Int → Int → Int → Int → ByteArray → Int → ByteArray → ByteArray → Int → ByteArray → List DL7Count → List DEnd → List DParcel → List DRecord → List DRecord → List DEnd → List DParcel → List DRecord → List DRecord → Option (DWorld)
  | 0, _, _, _, _, _, _, _, _, _, _, _, _, _, _, _, _, _, _, _, _ => none
  | k + 1, x0, x1, x2, x3, x4, x5, x6, x7, x8, x9, x10, x11, x12, x13, x14, x15, x16, x17, x18, x19 =>
    bif (decide (x4 < 4)) then
      (idx x16 (IntKind.wrap .i64 (x3 - 1))).bind fun _ =>
      (x16[(Int.toNat (IntKind.wrap .i64 (x3 - 1)))]?).bind fun y11 =>
      bif (decide ((y11.Take.Ready.length : Int) > 0)) then
        (spec_l7End k (⟨x8, x9, x16, x17, x10, x18, x19⟩ : DWorld) (⟨11, x3, 0, 0, (⟨#[]⟩ : ByteArray)⟩ : DEvent)).bind fun r12 =>
        spec_Calm_l19 k x0 x1 x2 x3 (IntKind.wrap .i64 (x4 + 1)) x5 x6 x7 r12.Key r12.Width r12.Forged x11 x12 x13 x14 x15 r12.Ends r12.Flight r12.Given r12.Taken
      else
        spec_Calm_l16 k x0 x1 x2 (IntKind.wrap .i64 (x3 + 1)) x5 x6 x7 x8 x9 x10 x11 x12 x13 x14 x15 x16 x17 x18 x19
    else
      spec_Calm_l16 k x0 x1 x2 (IntKind.wrap .i64 (x3 + 1)) x5 x6 x7 x8 x9 x10 x11 x12 x13 x14 x15 x16 x17 x18 x19
end
noncomputable def spec_Calm (k : Nat) (a0 : DWorld) (a1 : Int) (a2 : Int) : Option (DWorld) :=
  (spec_ValidWorld k a0).bind fun r1 =>
  bif (!r1) then
    some (⟨(⟨#[]⟩ : ByteArray), 0, ([] : List DEnd), ([] : List DParcel), (⟨#[]⟩ : ByteArray), ([] : List DRecord), ([] : List DRecord)⟩ : DWorld)
  else
    (spec_l1In k a2 1 10).bind fun r2 =>
    bif (!r2) then
      some (⟨(⟨#[]⟩ : ByteArray), 0, ([] : List DEnd), ([] : List DParcel), (⟨#[]⟩ : ByteArray), ([] : List DRecord), ([] : List DRecord)⟩ : DWorld)
    else
      (spec_l7Copy k a0).bind fun r3 =>
      spec_Calm_l6 k a1 a2 0 (⟨#[]⟩ : ByteArray) 0 (⟨#[]⟩ : ByteArray) r3.Key r3.Width r3.Forged ([] : List DL7Count) ([] : List DEnd) ([] : List DParcel) ([] : List DRecord) ([] : List DRecord) r3.Ends r3.Flight r3.Given r3.Taken
noncomputable def laws_eqEndS_l4 : Nat → List DEnd → List DEnd → Int → Option (Bool)
  | 0, _, _, _ => none
  | k + 1, x0, x1, x2 =>
    bif (decide (x2 < (x0.length : Int))) then
      (idx x0 x2).bind fun y1 =>
      (idx x1 x2).bind fun y2 =>
      (laws_eqEnd k y1 y2).bind fun r3 =>
      bif (!r3) then
        some false
      else
        laws_eqEndS_l4 k x0 x1 (IntKind.wrap .i64 (x2 + 1))
    else
      some true
noncomputable def laws_eqEndS (k : Nat) (a0 : List DEnd) (a1 : List DEnd) : Option (Bool) :=
  bif ((a0.length : Int) != (a1.length : Int)) then
    some false
  else
    laws_eqEndS_l4 k a0 a1 0
noncomputable def laws_eqParcel (k : Nat) (a0 : DParcel) (a1 : DParcel) : Option (Bool) :=
  bif (a0.To != a1.To) then
    some false
  else
    bif (!(a0.Sent.toList == a1.Sent.toList)) then
      some false
    else
      bif (!(a0.Bytes.toList == a1.Bytes.toList)) then
        some false
      else
        some true
noncomputable def laws_eqParcelS_l4 : Nat → List DParcel → List DParcel → Int → Option (Bool)
  | 0, _, _, _ => none
  | k + 1, x0, x1, x2 =>
    bif (decide (x2 < (x0.length : Int))) then
      (idx x0 x2).bind fun y1 =>
      (idx x1 x2).bind fun y2 =>
      (laws_eqParcel k y1 y2).bind fun r3 =>
      bif (!r3) then
        some false
      else
        laws_eqParcelS_l4 k x0 x1 (IntKind.wrap .i64 (x2 + 1))
    else
      some true
noncomputable def laws_eqParcelS (k : Nat) (a0 : List DParcel) (a1 : List DParcel) : Option (Bool) :=
  bif ((a0.length : Int) != (a1.length : Int)) then
    some false
  else
    laws_eqParcelS_l4 k a0 a1 0
noncomputable def laws_eqRecord (k : Nat) (a0 : DRecord) (a1 : DRecord) : Option (Bool) :=
  bif (a0.From != a1.From) then
    some false
  else
    bif (a0.A != a1.A) then
      some false
    else
      bif (a0.B != a1.B) then
        some false
      else
        bif (!(a0.Text.toList == a1.Text.toList)) then
          some false
        else
          some true
noncomputable def laws_eqRecordS_l4 : Nat → List DRecord → List DRecord → Int → Option (Bool)
  | 0, _, _, _ => none
  | k + 1, x0, x1, x2 =>
    bif (decide (x2 < (x0.length : Int))) then
      (idx x0 x2).bind fun y1 =>
      (idx x1 x2).bind fun y2 =>
      (laws_eqRecord k y1 y2).bind fun r3 =>
      bif (!r3) then
        some false
      else
        laws_eqRecordS_l4 k x0 x1 (IntKind.wrap .i64 (x2 + 1))
    else
      some true
noncomputable def laws_eqRecordS (k : Nat) (a0 : List DRecord) (a1 : List DRecord) : Option (Bool) :=
  bif ((a0.length : Int) != (a1.length : Int)) then
    some false
  else
    laws_eqRecordS_l4 k a0 a1 0
noncomputable def laws_eqWorld (k : Nat) (a0 : DWorld) (a1 : DWorld) : Option (Bool) :=
  bif (!(a0.Key.toList == a1.Key.toList)) then
    some false
  else
    bif (a0.Width != a1.Width) then
      some false
    else
      (laws_eqEndS k a0.Ends a1.Ends).bind fun r1 =>
      bif (!r1) then
        some false
      else
        (laws_eqParcelS k a0.Flight a1.Flight).bind fun r2 =>
        bif (!r2) then
          some false
        else
          bif (!(a0.Forged.toList == a1.Forged.toList)) then
            some false
          else
            (laws_eqRecordS k a0.Given a1.Given).bind fun r3 =>
            bif (!r3) then
              some false
            else
              (laws_eqRecordS k a0.Taken a1.Taken).bind fun r4 =>
              bif (!r4) then
                some false
              else
                some true
noncomputable def laws_markParcelS_l2 : Nat → Int → Int → List DParcel → Option (Int × List DParcel)
  | 0, _, _, _ => none
  | k + 1, x0, x1, x2 =>
    bif (decide (x1 < (x2.length : Int))) then
      (idx x2 x1).bind fun _ =>
      (x2[(Int.toNat x1)]?).bind fun y1 =>
      (laws_markText k (IntKind.wrap .i64 (x0 + 1))).bind fun r2 =>
      (idx (x2.set (Int.toNat x1) (⟨x0, y1.Sent, y1.Bytes⟩ : DParcel)) x1).bind fun _ =>
      ((x2.set (Int.toNat x1) (⟨x0, y1.Sent, y1.Bytes⟩ : DParcel))[(Int.toNat x1)]?).bind fun y3 =>
      (laws_markText k (IntKind.wrap .i64 ((IntKind.wrap .i64 (x0 + 1)) + 1))).bind fun r4 =>
      (idx ((x2.set (Int.toNat x1) (⟨x0, y1.Sent, y1.Bytes⟩ : DParcel)).set (Int.toNat x1) (⟨y3.To, r2, y3.Bytes⟩ : DParcel)) x1).bind fun _ =>
      (((x2.set (Int.toNat x1) (⟨x0, y1.Sent, y1.Bytes⟩ : DParcel)).set (Int.toNat x1) (⟨y3.To, r2, y3.Bytes⟩ : DParcel))[(Int.toNat x1)]?).bind fun y5 =>
      laws_markParcelS_l2 k (IntKind.wrap .i64 ((IntKind.wrap .i64 ((IntKind.wrap .i64 (x0 + 1)) + 1)) + 1)) (IntKind.wrap .i64 (x1 + 1)) (((x2.set (Int.toNat x1) (⟨x0, y1.Sent, y1.Bytes⟩ : DParcel)).set (Int.toNat x1) (⟨y3.To, r2, y3.Bytes⟩ : DParcel)).set (Int.toNat x1) (⟨y5.To, y5.Sent, r4⟩ : DParcel))
    else
      some (x0, x2)
noncomputable def laws_markParcelS (k : Nat) (a0 : List DParcel) (a1 : Int) : Option (Int × List DParcel) :=
  laws_markParcelS_l2 k a1 0 a0
noncomputable def laws_markRecordS_l2 : Nat → Int → Int → List DRecord → Option (Int × List DRecord)
  | 0, _, _, _ => none
  | k + 1, x0, x1, x2 =>
    bif (decide (x1 < (x2.length : Int))) then
      (idx x2 x1).bind fun _ =>
      (x2[(Int.toNat x1)]?).bind fun y1 =>
      (idx (x2.set (Int.toNat x1) (⟨x0, y1.A, y1.B, y1.Text⟩ : DRecord)) x1).bind fun _ =>
      ((x2.set (Int.toNat x1) (⟨x0, y1.A, y1.B, y1.Text⟩ : DRecord))[(Int.toNat x1)]?).bind fun y2 =>
      (idx ((x2.set (Int.toNat x1) (⟨x0, y1.A, y1.B, y1.Text⟩ : DRecord)).set (Int.toNat x1) (⟨y2.From, (IntKind.wrap .i64 (x0 + 1)), y2.B, y2.Text⟩ : DRecord)) x1).bind fun _ =>
      (((x2.set (Int.toNat x1) (⟨x0, y1.A, y1.B, y1.Text⟩ : DRecord)).set (Int.toNat x1) (⟨y2.From, (IntKind.wrap .i64 (x0 + 1)), y2.B, y2.Text⟩ : DRecord))[(Int.toNat x1)]?).bind fun y3 =>
      (laws_markText k (IntKind.wrap .i64 ((IntKind.wrap .i64 ((IntKind.wrap .i64 (x0 + 1)) + 1)) + 1))).bind fun r4 =>
      (idx (((x2.set (Int.toNat x1) (⟨x0, y1.A, y1.B, y1.Text⟩ : DRecord)).set (Int.toNat x1) (⟨y2.From, (IntKind.wrap .i64 (x0 + 1)), y2.B, y2.Text⟩ : DRecord)).set (Int.toNat x1) (⟨y3.From, y3.A, (IntKind.wrap .i64 ((IntKind.wrap .i64 (x0 + 1)) + 1)), y3.Text⟩ : DRecord)) x1).bind fun _ =>
      ((((x2.set (Int.toNat x1) (⟨x0, y1.A, y1.B, y1.Text⟩ : DRecord)).set (Int.toNat x1) (⟨y2.From, (IntKind.wrap .i64 (x0 + 1)), y2.B, y2.Text⟩ : DRecord)).set (Int.toNat x1) (⟨y3.From, y3.A, (IntKind.wrap .i64 ((IntKind.wrap .i64 (x0 + 1)) + 1)), y3.Text⟩ : DRecord))[(Int.toNat x1)]?).bind fun y5 =>
      laws_markRecordS_l2 k (IntKind.wrap .i64 ((IntKind.wrap .i64 ((IntKind.wrap .i64 ((IntKind.wrap .i64 (x0 + 1)) + 1)) + 1)) + 1)) (IntKind.wrap .i64 (x1 + 1)) ((((x2.set (Int.toNat x1) (⟨x0, y1.A, y1.B, y1.Text⟩ : DRecord)).set (Int.toNat x1) (⟨y2.From, (IntKind.wrap .i64 (x0 + 1)), y2.B, y2.Text⟩ : DRecord)).set (Int.toNat x1) (⟨y3.From, y3.A, (IntKind.wrap .i64 ((IntKind.wrap .i64 (x0 + 1)) + 1)), y3.Text⟩ : DRecord)).set (Int.toNat x1) (⟨y5.From, y5.A, y5.B, r4⟩ : DRecord))
    else
      some (x0, x2)
noncomputable def laws_markRecordS (k : Nat) (a0 : List DRecord) (a1 : Int) : Option (Int × List DRecord) :=
  laws_markRecordS_l2 k a1 0 a0
noncomputable def laws_heldEndS_l2 : Nat → List DEnd → Int → Int → Option (Int)
  | 0, _, _, _ => none
  | k + 1, x0, x1, x2 =>
    bif (decide (x2 < (x0.length : Int))) then
      (idx x0 x2).bind fun y1 =>
      bif (y1.Number != x1) then
        some (-1)
      else
        (idx x0 x2).bind fun y2 =>
        (qrem (IntKind.wrap .i64 (x1 + 1)) 3).bind fun q3 =>
        bif (!(y2.Up == (q3 == 0))) then
          some (-1)
        else
          (idx x0 x2).bind fun y4 =>
          bif (y4.Life != (IntKind.wrap .i64 ((IntKind.wrap .i64 (x1 + 1)) + 1))) then
            some (-1)
          else
            (idx x0 x2).bind fun y5 =>
            bif (y5.Peer != (IntKind.wrap .i64 ((IntKind.wrap .i64 ((IntKind.wrap .i64 (x1 + 1)) + 1)) + 1))) then
              some (-1)
            else
              (idx x0 x2).bind fun y6 =>
              bif (y6.Since != (IntKind.wrap .i64 ((IntKind.wrap .i64 ((IntKind.wrap .i64 ((IntKind.wrap .i64 (x1 + 1)) + 1)) + 1)) + 1))) then
                some (-1)
              else
                (idx x0 x2).bind fun y7 =>
                (qrem (IntKind.wrap .i64 ((IntKind.wrap .i64 ((IntKind.wrap .i64 ((IntKind.wrap .i64 ((IntKind.wrap .i64 (x1 + 1)) + 1)) + 1)) + 1)) + 1)) 3).bind fun q8 =>
                bif (!(y7.Owes == (q8 == 0))) then
                  some (-1)
                else
                  (idx x0 x2).bind fun y9 =>
                  bif (y9.Send.Base != (IntKind.wrap .i64 ((IntKind.wrap .i64 ((IntKind.wrap .i64 ((IntKind.wrap .i64 ((IntKind.wrap .i64 ((IntKind.wrap .i64 (x1 + 1)) + 1)) + 1)) + 1)) + 1)) + 1))) then
                    some (-1)
                  else
                    (idx x0 x2).bind fun y10 =>
                    (laws_heldItemS k y10.Send.Items (IntKind.wrap .i64 ((IntKind.wrap .i64 ((IntKind.wrap .i64 ((IntKind.wrap .i64 ((IntKind.wrap .i64 ((IntKind.wrap .i64 ((IntKind.wrap .i64 (x1 + 1)) + 1)) + 1)) + 1)) + 1)) + 1)) + 1))).bind fun r11 =>
                    bif (decide (r11 < 0)) then
                      some (-1)
                    else
                      (idx x0 x2).bind fun y12 =>
                      bif (y12.Take.Next != r11) then
                        some (-1)
                      else
                        (idx x0 x2).bind fun y13 =>
                        (laws_heldHeldS k y13.Take.Held (IntKind.wrap .i64 (r11 + 1))).bind fun r14 =>
                        bif (decide (r14 < 0)) then
                          some (-1)
                        else
                          (idx x0 x2).bind fun y15 =>
                          (laws_markText k r14).bind fun r16 =>
                          bif (!(y15.Take.Open.toList == r16.toList)) then
                            some (-1)
                          else
                            (idx x0 x2).bind fun y17 =>
                            (laws_heldStringS k y17.Take.Ready (IntKind.wrap .i64 (r14 + 1))).bind fun r18 =>
                            bif (decide (r18 < 0)) then
                              some (-1)
                            else
                              laws_heldEndS_l2 k x0 r18 (IntKind.wrap .i64 (x2 + 1))
    else
      some x1
noncomputable def laws_heldEndS (k : Nat) (a0 : List DEnd) (a1 : Int) : Option (Int) :=
  laws_heldEndS_l2 k a0 a1 0
noncomputable def laws_heldParcelS_l2 : Nat → List DParcel → Int → Int → Option (Int)
  | 0, _, _, _ => none
  | k + 1, x0, x1, x2 =>
    bif (decide (x2 < (x0.length : Int))) then
      (idx x0 x2).bind fun y1 =>
      bif (y1.To != x1) then
        some (-1)
      else
        (idx x0 x2).bind fun y2 =>
        (laws_markText k (IntKind.wrap .i64 (x1 + 1))).bind fun r3 =>
        bif (!(y2.Sent.toList == r3.toList)) then
          some (-1)
        else
          (idx x0 x2).bind fun y4 =>
          (laws_markText k (IntKind.wrap .i64 ((IntKind.wrap .i64 (x1 + 1)) + 1))).bind fun r5 =>
          bif (!(y4.Bytes.toList == r5.toList)) then
            some (-1)
          else
            laws_heldParcelS_l2 k x0 (IntKind.wrap .i64 ((IntKind.wrap .i64 ((IntKind.wrap .i64 (x1 + 1)) + 1)) + 1)) (IntKind.wrap .i64 (x2 + 1))
    else
      some x1
noncomputable def laws_heldParcelS (k : Nat) (a0 : List DParcel) (a1 : Int) : Option (Int) :=
  laws_heldParcelS_l2 k a0 a1 0
noncomputable def laws_heldRecordS_l2 : Nat → List DRecord → Int → Int → Option (Int)
  | 0, _, _, _ => none
  | k + 1, x0, x1, x2 =>
    bif (decide (x2 < (x0.length : Int))) then
      (idx x0 x2).bind fun y1 =>
      bif (y1.From != x1) then
        some (-1)
      else
        (idx x0 x2).bind fun y2 =>
        bif (y2.A != (IntKind.wrap .i64 (x1 + 1))) then
          some (-1)
        else
          (idx x0 x2).bind fun y3 =>
          bif (y3.B != (IntKind.wrap .i64 ((IntKind.wrap .i64 (x1 + 1)) + 1))) then
            some (-1)
          else
            (idx x0 x2).bind fun y4 =>
            (laws_markText k (IntKind.wrap .i64 ((IntKind.wrap .i64 ((IntKind.wrap .i64 (x1 + 1)) + 1)) + 1))).bind fun r5 =>
            bif (!(y4.Text.toList == r5.toList)) then
              some (-1)
            else
              laws_heldRecordS_l2 k x0 (IntKind.wrap .i64 ((IntKind.wrap .i64 ((IntKind.wrap .i64 ((IntKind.wrap .i64 (x1 + 1)) + 1)) + 1)) + 1)) (IntKind.wrap .i64 (x2 + 1))
    else
      some x1
noncomputable def laws_heldRecordS (k : Nat) (a0 : List DRecord) (a1 : Int) : Option (Int) :=
  laws_heldRecordS_l2 k a0 a1 0
noncomputable def laws_heldWorld (k : Nat) (a0 : DWorld) (a1 : Int) : Option (Int) :=
  (laws_heldEndS k a0.Ends a1).bind fun r1 =>
  bif (decide (r1 < 0)) then
    some (-1)
  else
    (laws_heldParcelS k a0.Flight r1).bind fun r2 =>
    bif (decide (r2 < 0)) then
      some (-1)
    else
      (laws_heldRecordS k a0.Given r2).bind fun r3 =>
      bif (decide (r3 < 0)) then
        some (-1)
      else
        (laws_heldRecordS k a0.Taken r3).bind fun r4 =>
        bif (decide (r4 < 0)) then
          some (-1)
        else
          some r4
noncomputable def laws_szEvent (k : Nat) (a0 : DEvent) (a1 : Int) : Option (Int) :=
  bif (decide ((IntKind.wrap .i64 (a1 - (a0.Text.size : Int))) < 0)) then
    some (-1)
  else
    some (IntKind.wrap .i64 (a1 - (a0.Text.size : Int)))
noncomputable def laws_toEvent (k : Nat) (a0 : DEvent) : Option (DEvent) :=
  some a0
noncomputable def spec_Idle_l4 : Nat → Int → ByteArray → Int → List DEnd → List DParcel → ByteArray → List DRecord → List DRecord → Option (Bool)
  | 0, _, _, _, _, _, _, _, _ => none
  | k + 1, x0, x1, x2, x3, x4, x5, x6, x7 =>
    bif (decide (x0 < 2)) then
      (idx x3 x0).bind fun y2 =>
      bif (!y2.Up) then
        some false
      else
        (idx x3 (IntKind.wrap .i64 (1 - x0))).bind fun y3 =>
        bif (y2.Peer != y3.Life) then
          some false
        else
          bif (decide ((y2.Send.Items.length : Int) > 0)) then
            some false
          else
            bif (decide ((y2.Take.Held.length : Int) > 0)) then
              some false
            else
              bif (!(y2.Take.Open.toList == (⟨#[]⟩ : ByteArray).toList)) then
                some false
              else
                bif (decide ((y2.Take.Ready.length : Int) > 0)) then
                  some false
                else
                  spec_Idle_l4 k (IntKind.wrap .i64 (x0 + 1)) x1 x2 x3 x4 x5 x6 x7
    else
      some true
noncomputable def spec_Idle (k : Nat) (a0 : DWorld) : Option (Bool) :=
  (spec_ValidWorld k a0).bind fun r1 =>
  bif (!r1) then
    some false
  else
    spec_Idle_l4 k 0 a0.Key a0.Width a0.Ends a0.Flight a0.Forged a0.Given a0.Taken
end Km.X
namespace Km.X
open Go Km
set_option linter.unusedVariables false
set_option maxRecDepth 100000
noncomputable def spec_l1Open_l3 : Nat → List Int → Option (DL1Rd)
  | 0, _ => none
  | k + 1, x0 =>
    some (⟨x0, 0⟩ : DL1Rd)
noncomputable def spec_l1Open (k : Nat) (a0 : List Int) : Option (DL1Rd) :=
  bif (decide ((a0.length : Int) > 2000)) then
    (wnd a0.length 0 2000).bind fun p1 =>
    spec_l1Open_l3 k (dcut a0 p1.1 p1.2)
  else
    spec_l1Open_l3 k a0
noncomputable def spec_l1Rd_pick (k : Nat) (a0 : DL1Rd) (a1 : Int) : Option (Int × DL1Rd) :=
  bif (decide (a1 < 1)) then
    some (0, (⟨a0.b, (IntKind.wrap .i64 (a0.p + 1))⟩ : DL1Rd))
  else
    bif ((a0.b.length : Int) == 0) then
      some (0, (⟨a0.b, (IntKind.wrap .i64 (a0.p + 1))⟩ : DL1Rd))
    else
      bif (decide ((IntKind.wrap .i64 ((IntKind.wrap .i64 (a0.p + 1)) - 1)) < (a0.b.length : Int))) then
        (idx a0.b (IntKind.wrap .i64 ((IntKind.wrap .i64 (a0.p + 1)) - 1))).bind fun y1 =>
        (qrem (IntKind.wrap .i64 y1) a1).bind fun q2 =>
        some (q2, (⟨a0.b, (IntKind.wrap .i64 (a0.p + 1))⟩ : DL1Rd))
      else
        (qrem (IntKind.wrap .i64 ((IntKind.wrap .i64 (a0.p + 1)) - 1)) (a0.b.length : Int)).bind fun q3 =>
        (idx a0.b q3).bind fun y4 =>
        (qrem (IntKind.wrap .i64 ((IntKind.wrap .i64 ((IntKind.wrap .i64 ((IntKind.wrap .i64 (a0.p + 1)) - 1)) * 7)) + 3)) (a0.b.length : Int)).bind fun q5 =>
        (idx a0.b q5).bind fun y6 =>
        (qdiv (IntKind.wrap .i64 ((IntKind.wrap .i64 (a0.p + 1)) - 1)) (a0.b.length : Int)).bind fun q7 =>
        (qdiv (IntKind.wrap .i64 ((IntKind.wrap .i64 ((IntKind.wrap .i64 ((IntKind.wrap .i64 ((IntKind.wrap .i64 y4) * 131)) + (IntKind.wrap .i64 ((IntKind.wrap .i64 y6) * 1117)))) + (IntKind.wrap .i64 ((IntKind.wrap .i64 ((IntKind.wrap .i64 (a0.p + 1)) - 1)) * 29)))) + (IntKind.wrap .i64 ((IntKind.wrap .i64 (q7)) * 53)))) 64).bind fun q8 =>
        (qrem (bitsXor .i64 (IntKind.wrap .i64 ((IntKind.wrap .i64 ((IntKind.wrap .i64 ((IntKind.wrap .i64 ((IntKind.wrap .i64 y4) * 131)) + (IntKind.wrap .i64 ((IntKind.wrap .i64 y6) * 1117)))) + (IntKind.wrap .i64 ((IntKind.wrap .i64 ((IntKind.wrap .i64 (a0.p + 1)) - 1)) * 29)))) + (IntKind.wrap .i64 ((IntKind.wrap .i64 (q7)) * 53)))) (IntKind.wrap .i64 (q8))) a1).bind fun q9 =>
        some (q9, (⟨a0.b, (IntKind.wrap .i64 (a0.p + 1))⟩ : DL1Rd))
mutual
noncomputable def spec_l1Many_l2 : Nat → ByteArray → Int → ByteArray → Option (ByteArray)
  | 0, _, _, _ => none
  | k + 1, x0, x1, x2 =>
    bif (decide (x1 > 0)) then
      (qrem x1 2).bind fun q1 =>
      bif (q1 == 1) then
        (sadd x2 x0).bind fun t2 =>
        spec_l1Many_l5 k x0 x1 t2
      else
        spec_l1Many_l5 k x0 x1 x2
    else
      some x2
noncomputable def spec_l1Many_l5 : Nat → ByteArray → Int → ByteArray → Option (ByteArray)
  | 0, _, _, _ => none
  | k + 1, x0, x1, x2 =>
    (sadd x0 x0).bind fun t3 =>
    (qdiv x1 2).bind fun q4 =>
    spec_l1Many_l2 k t3 (IntKind.wrap .i64 (q4)) x2
end
noncomputable def spec_l1Many (k : Nat) (a0 : ByteArray) (a1 : Int) : Option (ByteArray) :=
  spec_l1Many_l2 k a0 a1 (⟨#[]⟩ : ByteArray)
noncomputable def spec_l1Message_l12 : Nat → ByteArray → Int → List Int → Int → Option (ByteArray × DL1Rd)
  | 0, _, _, _, _ => none
  | k + 1, x0, x1, x2, x3 =>
    bif (decide (x1 > 0)) then
      (spec_l1Rd_pick k (⟨x2, x3⟩ : DL1Rd) 5).bind fun r10 =>
      (wnd (⟨#[97, 98, 99, 100, 32]⟩ : ByteArray).size r10.1 ((⟨#[97, 98, 99, 100, 32]⟩ : ByteArray).size : Int)).bind fun p11 =>
      (wnd ((⟨#[97, 98, 99, 100, 32]⟩ : ByteArray).extract p11.1 p11.2).size 0 1).bind fun p12 =>
      (sadd x0 (((⟨#[97, 98, 99, 100, 32]⟩ : ByteArray).extract p11.1 p11.2).extract p12.1 p12.2)).bind fun t13 =>
      spec_l1Message_l12 k t13 (IntKind.wrap .i64 (x1 - 1)) r10.2.b r10.2.p
    else
      some (x0, (⟨x2, x3⟩ : DL1Rd))
noncomputable def spec_l1Message (k : Nat) (a0 : DL1Rd) : Option (ByteArray × DL1Rd) :=
  (spec_l1Rd_pick k a0 8).bind fun r1 =>
  bif (r1.1 == 0) then
    some ((⟨#[]⟩ : ByteArray), r1.2)
  else
    bif (r1.1 == 1) then
      (spec_l1Rd_pick k r1.2 5).bind fun r2 =>
      (spec_l1Rd_pick k r2.2 3).bind fun r3 =>
      (spec_l1Rd_pick k r3.2 2).bind fun r4 =>
      (spec_l1Rd_pick k r4.2 2).bind fun r5 =>
      (spec_l1Many k (⟨#[109]⟩ : ByteArray) (IntKind.wrap .i64 ((IntKind.wrap .i64 ((IntKind.wrap .i64 (20 * r2.1)) + r3.1)) - (IntKind.wrap .i64 (r4.1 * r5.1))))).bind fun r6 =>
      some (r6, r5.2)
    else
      bif (r1.1 == 2) then
        (spec_l1Rd_pick k r1.2 19).bind fun r7 =>
        (spec_l1Many k (⟨#[48, 49, 50, 51, 52, 53, 54, 55, 56, 57]⟩ : ByteArray) (IntKind.wrap .i64 (1 + r7.1))).bind fun r8 =>
        some (r8, r7.2)
      else
        bif (r1.1 == 3) then
          some ((⟨#[0, 255]⟩ : ByteArray), r1.2)
        else
          (spec_l1Rd_pick k r1.2 30).bind fun r9 =>
          spec_l1Message_l12 k (⟨#[]⟩ : ByteArray) (IntKind.wrap .i64 (1 + r9.1)) r9.2.b r9.2.p
noncomputable def spec_l1Key (k : Nat) (a0 : DL1Rd) : Option (ByteArray × DL1Rd) :=
  (spec_l1Many k (⟨#[107]⟩ : ByteArray) 30).bind fun r1 =>
  (spec_l1Rd_pick k a0 4).bind fun r2 =>
  (idx ([(⟨#[107, 101, 121]⟩ : ByteArray), (⟨#[107]⟩ : ByteArray), (⟨#[]⟩ : ByteArray), r1] : List ByteArray) r2.1).bind fun _ =>
  (([(⟨#[107, 101, 121]⟩ : ByteArray), (⟨#[107]⟩ : ByteArray), (⟨#[]⟩ : ByteArray), r1] : List ByteArray)[(Int.toNat r2.1)]?).bind fun y3 =>
  some (y3, r2.2)
noncomputable def spec_l1Width (k : Nat) (a0 : DL1Rd) : Option (Int × DL1Rd) :=
  (spec_l1Rd_pick k a0 5).bind fun r1 =>
  (idx ([8, 8, 4, 2, 1] : List Int) r1.1).bind fun y2 =>
  some (y2, r1.2)
noncomputable def spec_DrawTag_l10 : Nat → ByteArray → ByteArray → Int → Option (ByteArray × ByteArray × Int)
  | 0, _, _, _ => none
  | k + 1, x0, x1, x2 =>
    some (x0, x1, x2)
noncomputable def spec_DrawTag (k : Nat) (a0 : List Int) : Option (ByteArray × ByteArray × Int) :=
  (spec_l1Open k a0).bind fun r1 =>
  (spec_l1Message k r1).bind fun r2 =>
  (spec_l1Key k r2.2).bind fun r3 =>
  (spec_l1Width k r3.2).bind fun r4 =>
  (spec_l1Rd_pick k r4.2 10).bind fun r5 =>
  bif (r5.1 == 0) then
    (spec_l1Rd_pick k r5.2 3).bind fun r6 =>
    (idx ([0, 9, (-1)] : List Int) r6.1).bind fun y7 =>
    spec_DrawTag_l10 k r2.1 r3.1 y7
  else
    bif (r5.1 == 1) then
      (spec_l1Many k (⟨#[107]⟩ : ByteArray) 31).bind fun r8 =>
      spec_DrawTag_l10 k r2.1 r8 r4.1
    else
      spec_DrawTag_l10 k r2.1 r3.1 r4.1
noncomputable def spec_DrawNewWorld (k : Nat) (a0 : List Int) : Option (ByteArray × Int) :=
  (spec_DrawTag k a0).bind fun r1 =>
  some (r1.2.1, r1.2.2)
mutual
noncomputable def spec_l7Event_l5 : Nat → Int → Int → List Int → Int → Int → Int → Int → Int → ByteArray → Option (DEvent × DL1Rd)
  | 0, _, _, _, _, _, _, _, _, _ => none
  | k + 1, x0, x1, x2, x3, x4, x5, x6, x7, x8 =>
    (spec_l1Rd_pick k (⟨x2, x3⟩ : DL1Rd) 2).bind fun r5 =>
    bif (decide (x0 < 9)) then
      some ((⟨1, 0, 0, 0, (⟨#[]⟩ : ByteArray)⟩ : DEvent), r5.2)
    else
      bif (decide (x0 < 19)) then
        some ((⟨2, x1, 0, 0, (⟨#[]⟩ : ByteArray)⟩ : DEvent), r5.2)
      else
        bif (decide (x0 < 26)) then
          (spec_l1Message k r5.2).bind fun r6 =>
          some ((⟨10, (IntKind.wrap .i64 (1 + r5.1)), 0, 0, r6.1⟩ : DEvent), r6.2)
        else
          bif (decide (x0 < 30)) then
            some ((⟨11, (IntKind.wrap .i64 (1 + r5.1)), 0, 0, (⟨#[]⟩ : ByteArray)⟩ : DEvent), r5.2)
          else
            bif (x0 == 30) then
              spec_l7Event_l17 k x1 r5.2.b r5.2.p x4 x5 x6 x7 x8
            else
              bif (x0 == 31) then
                spec_l7Event_l17 k x1 r5.2.b r5.2.p x4 x5 x6 x7 x8
              else
                spec_l7Event_l18 k x1 (IntKind.wrap .i64 (1 + r5.1)) x0 r5.2.b r5.2.p x4 x5 x6 x7 x8
noncomputable def spec_l7Event_l17 : Nat → Int → List Int → Int → Int → Int → Int → Int → ByteArray → Option (DEvent × DL1Rd)
  | 0, _, _, _, _, _, _, _, _ => none
  | k + 1, x0, x1, x2, x3, x4, x5, x6, x7 =>
    some ((⟨3, x0, 0, 0, (⟨#[]⟩ : ByteArray)⟩ : DEvent), (⟨x1, x2⟩ : DL1Rd))
noncomputable def spec_l7Event_l18 : Nat → Int → Int → Int → List Int → Int → Int → Int → Int → Int → ByteArray → Option (DEvent × DL1Rd)
  | 0, _, _, _, _, _, _, _, _, _, _ => none
  | k + 1, x0, x1, x2, x3, x4, x5, x6, x7, x8, x9 =>
    bif (x2 == 32) then
      spec_l7Event_l20 k x0 x3 x4 x5 x6 x7 x8 x9
    else
      bif (x2 == 33) then
        spec_l7Event_l20 k x0 x3 x4 x5 x6 x7 x8 x9
      else
        spec_l7Event_l21 k x0 x1 x2 x3 x4 x5 x6 x7 x8 x9
noncomputable def spec_l7Event_l20 : Nat → Int → List Int → Int → Int → Int → Int → Int → ByteArray → Option (DEvent × DL1Rd)
  | 0, _, _, _, _, _, _, _, _ => none
  | k + 1, x0, x1, x2, x3, x4, x5, x6, x7 =>
    some ((⟨4, x0, 0, 0, (⟨#[]⟩ : ByteArray)⟩ : DEvent), (⟨x1, x2⟩ : DL1Rd))
noncomputable def spec_l7Event_l21 : Nat → Int → Int → Int → List Int → Int → Int → Int → Int → Int → ByteArray → Option (DEvent × DL1Rd)
  | 0, _, _, _, _, _, _, _, _, _, _ => none
  | k + 1, x0, x1, x2, x3, x4, x5, x6, x7, x8, x9 =>
    bif (x2 == 34) then
      (spec_l1Rd_pick k (⟨x3, x4⟩ : DL1Rd) 40).bind fun r7 =>
      (spec_l1Rd_pick k r7.2 300).bind fun r8 =>
      some ((⟨5, x0, r7.1, r8.1, (⟨#[]⟩ : ByteArray)⟩ : DEvent), r8.2)
    else
      bif (x2 == 35) then
        (spec_l1Rd_pick k (⟨x3, x4⟩ : DL1Rd) 40).bind fun r9 =>
        some ((⟨6, x0, r9.1, 0, (⟨#[]⟩ : ByteArray)⟩ : DEvent), r9.2)
      else
        bif (x2 == 36) then
          some ((⟨7, x0, 0, 0, (⟨#[]⟩ : ByteArray)⟩ : DEvent), (⟨x3, x4⟩ : DL1Rd))
        else
          bif (x2 == 37) then
            some ((⟨8, x1, 0, 0, (⟨#[]⟩ : ByteArray)⟩ : DEvent), (⟨x3, x4⟩ : DL1Rd))
          else
            some ((⟨9, x1, 0, 0, (⟨#[]⟩ : ByteArray)⟩ : DEvent), (⟨x3, x4⟩ : DL1Rd))
end
noncomputable def spec_l7Event (k : Nat) (a0 : DL1Rd) : Option (DEvent × DL1Rd) :=
  (spec_l1Rd_pick k a0 40).bind fun r1 =>
  (spec_l1Rd_pick k r1.2 24).bind fun r2 =>
  (spec_l1Rd_pick k r2.2 2).bind fun r3 =>
  bif (r3.1 == 0) then
    (spec_l1Rd_pick k r3.2 3).bind fun r4 =>
    spec_l7Event_l5 k r1.1 r4.1 r4.2.b r4.2.p 0 0 0 0 (⟨#[]⟩ : ByteArray)
  else
    spec_l7Event_l5 k r1.1 r2.1 r3.2.b r3.2.p 0 0 0 0 (⟨#[]⟩ : ByteArray)
mutual
noncomputable def spec_DrawEvents_l5 : Nat → Int → Int → List Int → Int → List DEvent → Option (List DEvent)
  | 0, _, _, _, _, _ => none
  | k + 1, x0, x1, x2, x3, x4 =>
    bif (decide (x1 < x0)) then
      (spec_l7Event k (⟨x2, x3⟩ : DL1Rd)).bind fun r3 =>
      (app 48 x4 ([r3.1] : List DEvent)).bind fun l4 =>
      (spec_l1Rd_pick k r3.2 5).bind fun r5 =>
      bif (r5.1 == 0) then
        (spec_l1Rd_pick k r5.2 6).bind fun r6 =>
        spec_DrawEvents_l10 k x0 x1 r6.1 r6.2.b r6.2.p l4
      else
        spec_DrawEvents_l17 k x0 x1 r5.2.b r5.2.p l4
    else
      some x4
noncomputable def spec_DrawEvents_l10 : Nat → Int → Int → Int → List Int → Int → List DEvent → Option (List DEvent)
  | 0, _, _, _, _, _, _ => none
  | k + 1, x0, x1, x2, x3, x4, x5 =>
    bif (decide (x2 > 0)) then
      (app 48 x5 ([(⟨1, 0, 0, 0, (⟨#[]⟩ : ByteArray)⟩ : DEvent)] : List DEvent)).bind fun l7 =>
      (spec_l1Rd_pick k (⟨x3, x4⟩ : DL1Rd) 5).bind fun r8 =>
      spec_DrawEvents_l14 k x0 x1 x2 r8.1 r8.2.b r8.2.p l7
    else
      spec_DrawEvents_l17 k x0 x1 x3 x4 x5
noncomputable def spec_DrawEvents_l17 : Nat → Int → Int → List Int → Int → List DEvent → Option (List DEvent)
  | 0, _, _, _, _, _ => none
  | k + 1, x0, x1, x2, x3, x4 =>
    (spec_l1Rd_pick k (⟨x2, x3⟩ : DL1Rd) 12).bind fun r9 =>
    bif (r9.1 == 0) then
      (app 48 x4 ([(⟨9, 1, 0, 0, (⟨#[]⟩ : ByteArray)⟩ : DEvent), (⟨9, 2, 0, 0, (⟨#[]⟩ : ByteArray)⟩ : DEvent)] : List DEvent)).bind fun l10 =>
      spec_DrawEvents_l6 k x0 x1 r9.2.b r9.2.p l10
    else
      spec_DrawEvents_l6 k x0 x1 r9.2.b r9.2.p x4
noncomputable def spec_DrawEvents_l14 : Nat → Int → Int → Int → Int → List Int → Int → List DEvent → Option (List DEvent)
  | 0, _, _, _, _, _, _, _ => none
  | k + 1, x0, x1, x2, x3, x4, x5, x6 =>
    bif (decide (x3 > 0)) then
      (app 48 x6 ([(⟨2, 0, 0, 0, (⟨#[]⟩ : ByteArray)⟩ : DEvent)] : List DEvent)).bind fun l11 =>
      spec_DrawEvents_l14 k x0 x1 x2 (IntKind.wrap .i64 (x3 - 1)) x4 x5 l11
    else
      spec_DrawEvents_l10 k x0 x1 (IntKind.wrap .i64 (x2 - 1)) x4 x5 x6
noncomputable def spec_DrawEvents_l6 : Nat → Int → Int → List Int → Int → List DEvent → Option (List DEvent)
  | 0, _, _, _, _, _ => none
  | k + 1, x0, x1, x2, x3, x4 =>
    spec_DrawEvents_l5 k x0 (IntKind.wrap .i64 (x1 + 1)) x2 x3 x4
end
noncomputable def spec_DrawEvents (k : Nat) (a0 : List Int) : Option (List DEvent) :=
  (spec_l1Open k a0).bind fun r1 =>
  (spec_l1Rd_pick k r1 50).bind fun r2 =>
  spec_DrawEvents_l5 k (IntKind.wrap .i64 (10 + r2.1)) 0 r2.2.b r2.2.p ([] : List DEvent)
noncomputable def spec_l1Bend_l13 : Nat → ByteArray → Int → List Int → Int → Option (ByteArray × DL1Rd)
  | 0, _, _, _, _ => none
  | k + 1, x0, x1, x2, x3 =>
    (wnd x0.size x1 (x0.size : Int)).bind fun p21 =>
    (sadd x0 (x0.extract p21.1 p21.2)).bind fun t22 =>
    some (t22, (⟨x2, x3⟩ : DL1Rd))
noncomputable def spec_l1Bend (k : Nat) (a0 : DL1Rd) (a1 : ByteArray) : Option (ByteArray × DL1Rd) :=
  (spec_l1Rd_pick k a0 256).bind fun r1 =>
  (qdiv (IntKind.wrap .i64 (r1.1 * (IntKind.wrap .i64 ((a1.size : Int) + 1)))) 256).bind fun q2 =>
  (spec_l1Rd_pick k r1.2 5).bind fun r3 =>
  bif (r3.1 == 0) then
    (wnd a1.size 0 (IntKind.wrap .i64 (q2))).bind fun p4 =>
    some ((a1.extract p4.1 p4.2), r3.2)
  else
    bif (r3.1 == 1) then
      (wnd a1.size 0 (IntKind.wrap .i64 (q2))).bind fun p5 =>
      (spec_l1Rd_pick k r3.2 6).bind fun r6 =>
      (idx ([(⟨#[32]⟩ : ByteArray), (⟨#[10]⟩ : ByteArray), (⟨#[0]⟩ : ByteArray), (⟨#[1]⟩ : ByteArray), (⟨#[48]⟩ : ByteArray), (⟨#[120]⟩ : ByteArray)] : List ByteArray) r6.1).bind fun y7 =>
      (sadd (a1.extract p5.1 p5.2) y7).bind fun t8 =>
      (wnd a1.size (IntKind.wrap .i64 (q2)) (a1.size : Int)).bind fun p9 =>
      (sadd t8 (a1.extract p9.1 p9.2)).bind fun t10 =>
      some (t10, r6.2)
    else
      bif (r3.1 == 2) then
        bif (decide ((IntKind.wrap .i64 (q2)) < (a1.size : Int))) then
          (wnd a1.size 0 (IntKind.wrap .i64 (q2))).bind fun p11 =>
          (wnd a1.size (IntKind.wrap .i64 ((IntKind.wrap .i64 (q2)) + 1)) (a1.size : Int)).bind fun p12 =>
          (sadd (a1.extract p11.1 p11.2) (a1.extract p12.1 p12.2)).bind fun t13 =>
          some (t13, r3.2)
        else
          spec_l1Bend_l13 k a1 (IntKind.wrap .i64 (q2)) r3.2.b r3.2.p
      else
        bif (r3.1 == 3) then
          bif (decide ((IntKind.wrap .i64 (q2)) < (a1.size : Int))) then
            (wnd a1.size 0 (IntKind.wrap .i64 (q2))).bind fun p14 =>
            (bidx a1 (IntKind.wrap .i64 (q2))).bind fun c15 =>
            (spec_l1Rd_pick k r3.2 8).bind fun r16 =>
            (shift .shl .i64 1 (IntKind.wrap .u64 r16.1)).bind fun s17 =>
            (sadd (a1.extract p14.1 p14.2) (bstr ([(IntKind.wrap .u8 (bitsXor .i64 (IntKind.wrap .i64 (c15.toNat : Int)) s17))] : List Int))).bind fun t18 =>
            (wnd a1.size (IntKind.wrap .i64 ((IntKind.wrap .i64 (q2)) + 1)) (a1.size : Int)).bind fun p19 =>
            (sadd t18 (a1.extract p19.1 p19.2)).bind fun t20 =>
            some (t20, r16.2)
          else
            spec_l1Bend_l13 k a1 (IntKind.wrap .i64 (q2)) r3.2.b r3.2.p
        else
          spec_l1Bend_l13 k a1 (IntKind.wrap .i64 (q2)) r3.2.b r3.2.p
noncomputable def spec_DrawCut (k : Nat) (a0 : List Int) : Option (ByteArray) :=
  (spec_l1Open k a0).bind fun r1 =>
  (spec_l1Rd_pick k r1 6).bind fun r2 =>
  bif (r2.1 == 0) then
    (spec_l1Rd_pick k r2.2 10).bind fun r3 =>
    (idx ([0, 1, 19, 20, 21, 40, 199, 200, 201, 220] : List Int) r3.1).bind fun y4 =>
    (spec_l1Many k (⟨#[109]⟩ : ByteArray) y4).bind fun r5 =>
    some r5
  else
    (spec_l1Message k r2.2).bind fun r6 =>
    some r6.1
mutual
noncomputable def spec_DrawJoin_l4 : Nat → Int → List Int → Int → List DPart → Option (List DPart)
  | 0, _, _, _, _ => none
  | k + 1, x0, x1, x2, x3 =>
    bif (decide (x0 > 0)) then
      (spec_l1Message k (⟨x1, x2⟩ : DL1Rd)).bind fun r3 =>
      (spec_Cut k r3.1).bind fun r4 =>
      (app 24 x3 r4).bind fun l5 =>
      spec_DrawJoin_l4 k (IntKind.wrap .i64 (x0 - 1)) r3.2.b r3.2.p l5
    else
      bif (decide ((x3.length : Int) > 0)) then
        (spec_l1Rd_pick k (⟨x1, x2⟩ : DL1Rd) 3).bind fun r6 =>
        bif (r6.1 == 0) then
          (spec_l1Rd_pick k r6.2 (x3.length : Int)).bind fun r7 =>
          (spec_l1Rd_pick k r7.2 4).bind fun r8 =>
          bif (r8.1 == 0) then
            (idx x3 r7.1).bind fun _ =>
            (x3[(Int.toNat r7.1)]?).bind fun y9 =>
            (idx x3 r7.1).bind fun _ =>
            (x3[(Int.toNat r7.1)]?).bind fun y10 =>
            spec_DrawJoin_l20 k (x3.set (Int.toNat r7.1) (⟨y10.Text, (!y9.Last)⟩ : DPart))
          else
            bif (r8.1 == 1) then
              (spec_l1Rd_pick k r8.2 2).bind fun r11 =>
              (spec_l1Many k (⟨#[108]⟩ : ByteArray) (IntKind.wrap .i64 (20 + r11.1))).bind fun r12 =>
              (idx x3 r7.1).bind fun _ =>
              (x3[(Int.toNat r7.1)]?).bind fun y13 =>
              spec_DrawJoin_l20 k (x3.set (Int.toNat r7.1) (⟨r12, y13.Last⟩ : DPart))
            else
              bif (r8.1 == 2) then
                (wnd x3.length 0 r7.1).bind fun p14 =>
                spec_DrawJoin_l20 k (dcut x3 p14.1 p14.2)
              else
                spec_DrawJoin_l11 k 0 r8.2.b r8.2.p x3
        else
          spec_DrawJoin_l20 k x3
      else
        spec_DrawJoin_l20 k x3
noncomputable def spec_DrawJoin_l20 : Nat → List DPart → Option (List DPart)
  | 0, _ => none
  | k + 1, x0 =>
    some x0
noncomputable def spec_DrawJoin_l11 : Nat → Int → List Int → Int → List DPart → Option (List DPart)
  | 0, _, _, _, _ => none
  | k + 1, x0, x1, x2, x3 =>
    bif (decide (x0 < 11)) then
      (spec_l1Rd_pick k (⟨x1, x2⟩ : DL1Rd) 2).bind fun r15 =>
      (qdiv x0 9).bind fun q16 =>
      (spec_l1Many k (⟨#[108]⟩ : ByteArray) (IntKind.wrap .i64 (20 - (IntKind.wrap .i64 (r15.1 * (IntKind.wrap .i64 (q16))))))).bind fun r17 =>
      (app 24 x3 ([(⟨r17, false⟩ : DPart)] : List DPart)).bind fun l18 =>
      spec_DrawJoin_l11 k (IntKind.wrap .i64 (x0 + 1)) r15.2.b r15.2.p l18
    else
      spec_DrawJoin_l20 k x3
end
noncomputable def spec_DrawJoin (k : Nat) (a0 : List Int) : Option (List DPart) :=
  (spec_l1Open k a0).bind fun r1 =>
  (spec_l1Rd_pick k r1 5).bind fun r2 =>
  spec_DrawJoin_l4 k r2.1 r2.2.b r2.2.p ([] : List DPart)
mutual
noncomputable def spec_l4Draw_l3 : Nat → Int → List Int → Int → Int → Int → List DItem → List DItem → Option (DSend × DL1Rd)
  | 0, _, _, _, _, _, _, _ => none
  | k + 1, x0, x1, x2, x3, x4, x5, x6 =>
    bif (decide (x0 > 0)) then
      both (
        (spec_l1Message k (⟨x1, x2⟩ : DL1Rd)).bind fun r4 =>
        (spec_SendPush k (⟨x4, x6⟩ : DSend) r4.1).bind fun r5 =>
        bif (r5.2 == 0) then
          spec_l4Draw_l8 k x0 r4.2.b r4.2.p x3 r5.1.Base x5 r5.1.Items
        else
          spec_l4Draw_l8 k x0 r4.2.b r4.2.p x3 x4 x5 x6
      ) (
        both (
          (spec_l1Message k (⟨x1, x2⟩ : DL1Rd)).bind fun r6 =>
          (spec_SendPush k (⟨x4, x6⟩ : DSend) r6.1).bind fun r7 =>
          bif (r7.2 == 0) then
            spec_l4Draw_l8 k x0 r6.2.b r6.2.p x3 r7.1.Base x5 r7.1.Items
          else
            spec_l4Draw_l8 k x0 r6.2.b r6.2.p x3 x4 x5 x6
        ) (
          (spec_l1Message k (⟨x1, x2⟩ : DL1Rd)).bind fun r8 =>
          (spec_SendPush k (⟨x4, x6⟩ : DSend) r8.1).bind fun r9 =>
          bif (r9.2 == 0) then
            spec_l4Draw_l8 k x0 r8.2.b r8.2.p x3 r9.1.Base x5 r9.1.Items
          else
            spec_l4Draw_l8 k x0 r8.2.b r8.2.p x3 x4 x5 x6
        )
      )
    else
      (spec_l1Rd_pick k (⟨x1, x2⟩ : DL1Rd) 12).bind fun r10 =>
      bif (r10.1 == 0) then
        (spec_l1Rd_pick k r10.2 3).bind fun r11 =>
        spec_l4Draw_l16 k (IntKind.wrap .i64 (60 - r11.1)) r11.2.b r11.2.p x3 x4 x5 x6
      else
        spec_l4Draw_l18 k r10.2.b r10.2.p x3 x4 x5 x6
noncomputable def spec_l4Draw_l8 : Nat → Int → List Int → Int → Int → Int → List DItem → List DItem → Option (DSend × DL1Rd)
  | 0, _, _, _, _, _, _, _ => none
  | k + 1, x0, x1, x2, x3, x4, x5, x6 =>
    (spec_l1Rd_pick k (⟨x1, x2⟩ : DL1Rd) 6).bind fun r12 =>
    spec_l4Draw_l9 k x0 r12.1 r12.2.b r12.2.p x3 x4 x5 x6
noncomputable def spec_l4Draw_l16 : Nat → Int → List Int → Int → Int → Int → List DItem → List DItem → Option (DSend × DL1Rd)
  | 0, _, _, _, _, _, _, _ => none
  | k + 1, x0, x1, x2, x3, x4, x5, x6 =>
    bif (decide ((x6.length : Int) < x0)) then
      bif (decide ((IntKind.wrap .i64 (x4 + (x6.length : Int))) < 1000000)) then
        (app 40 x6 ([(⟨(⟨(⟨#[102]⟩ : ByteArray), true⟩ : DPart), false, (-1)⟩ : DItem)] : List DItem)).bind fun l13 =>
        spec_l4Draw_l16 k x0 x1 x2 x3 x4 x5 l13
      else
        spec_l4Draw_l18 k x1 x2 x3 x4 x5 x6
    else
      spec_l4Draw_l18 k x1 x2 x3 x4 x5 x6
noncomputable def spec_l4Draw_l18 : Nat → List Int → Int → Int → Int → List DItem → List DItem → Option (DSend × DL1Rd)
  | 0, _, _, _, _, _, _ => none
  | k + 1, x0, x1, x2, x3, x4, x5 =>
    (spec_l4Copy k (⟨x3, x5⟩ : DSend)).bind fun r14 =>
    some (r14, (⟨x0, x1⟩ : DL1Rd))
noncomputable def spec_l4Draw_l9 : Nat → Int → Int → List Int → Int → Int → Int → List DItem → List DItem → Option (DSend × DL1Rd)
  | 0, _, _, _, _, _, _, _, _ => none
  | k + 1, x0, x1, x2, x3, x4, x5, x6, x7 =>
    bif (decide (x1 > 0)) then
      (spec_SendTick k (⟨x5, x7⟩ : DSend)).bind fun r15 =>
      spec_l4Draw_l9 k x0 (IntKind.wrap .i64 (x1 - 1)) x2 x3 x4 r15.1.Base x6 r15.1.Items
    else
      (spec_l1Rd_pick k (⟨x2, x3⟩ : DL1Rd) 3).bind fun r16 =>
      bif (r16.1 == 0) then
        (spec_l1Rd_pick k r16.2 4).bind fun r17 =>
        (spec_l1Rd_pick k r17.2 256).bind fun r18 =>
        (spec_SendWord k (⟨x5, x7⟩ : DSend) (IntKind.wrap .i64 (x5 + r17.1)) r18.1).bind fun r19 =>
        spec_l4Draw_l4 k x0 r18.2.b r18.2.p x4 r19.Base x6 r19.Items
      else
        spec_l4Draw_l4 k x0 r16.2.b r16.2.p x4 x5 x6 x7
noncomputable def spec_l4Draw_l4 : Nat → Int → List Int → Int → Int → Int → List DItem → List DItem → Option (DSend × DL1Rd)
  | 0, _, _, _, _, _, _, _ => none
  | k + 1, x0, x1, x2, x3, x4, x5, x6 =>
    spec_l4Draw_l3 k (IntKind.wrap .i64 (x0 - 1)) x1 x2 x3 x4 x5 x6
end
noncomputable def spec_l4Draw (k : Nat) (a0 : DL1Rd) : Option (DSend × DL1Rd) :=
  (spec_l1Rd_pick k a0 5).bind fun r1 =>
  (idx ([0, 0, 3, 1000, 999940] : List Int) r1.1).bind fun y2 =>
  (spec_l1Rd_pick k r1.2 5).bind fun r3 =>
  spec_l4Draw_l3 k r3.1 r3.2.b r3.2.p 0 y2 ([] : List DItem) ([] : List DItem)
mutual
noncomputable def spec_l4Spoil_l4 : Nat → List Int → Int → Int → Int → List DItem → List DItem → Option (DSend × DL1Rd)
  | 0, _, _, _, _, _, _ => none
  | k + 1, x0, x1, x2, x3, x4, x5 =>
    (spec_l1Rd_pick k (⟨x0, x1⟩ : DL1Rd) (x5.length : Int)).bind fun r2 =>
    (spec_l1Rd_pick k r2.2 6).bind fun r3 =>
    bif (r3.1 == 0) then
      (spec_l1Rd_pick k r3.2 3).bind fun r4 =>
      (idx ([(-1), 1000000, 1000001] : List Int) r4.1).bind fun y5 =>
      spec_l4Spoil_l21 k r4.2.b r4.2.p x2 y5 x4 x5
    else
      bif (r3.1 == 1) then
        (spec_l1Rd_pick k r3.2 5).bind fun r6 =>
        (idx ([(-2), (-1), 0, 3, 4] : List Int) r6.1).bind fun y7 =>
        (idx x5 r2.1).bind fun _ =>
        (x5[(Int.toNat r2.1)]?).bind fun y8 =>
        spec_l4Spoil_l21 k r6.2.b r6.2.p x2 x3 x4 (x5.set (Int.toNat r2.1) (⟨y8.Part, y8.Has, y7⟩ : DItem))
      else
        bif (r3.1 == 2) then
          (idx x5 r2.1).bind fun _ =>
          (x5[(Int.toNat r2.1)]?).bind fun y9 =>
          (idx x5 r2.1).bind fun _ =>
          (x5[(Int.toNat r2.1)]?).bind fun y10 =>
          spec_l4Spoil_l21 k r3.2.b r3.2.p x2 x3 x4 (x5.set (Int.toNat r2.1) (⟨y10.Part, (!y9.Has), y10.Since⟩ : DItem))
        else
          bif (r3.1 == 3) then
            (spec_l1Rd_pick k r3.2 2).bind fun r11 =>
            (spec_l1Many k (⟨#[115]⟩ : ByteArray) (IntKind.wrap .i64 (20 + r11.1))).bind fun r12 =>
            (idx x5 r2.1).bind fun _ =>
            (x5[(Int.toNat r2.1)]?).bind fun y13 =>
            spec_l4Spoil_l21 k r11.2.b r11.2.p x2 x3 x4 (x5.set (Int.toNat r2.1) (⟨(⟨r12, y13.Part.Last⟩ : DPart), y13.Has, y13.Since⟩ : DItem))
          else
            bif (r3.1 == 4) then
              (spec_l1Rd_pick k r3.2 2).bind fun r14 =>
              spec_l4Spoil_l19 k (IntKind.wrap .i64 (60 + r14.1)) r14.2.b r14.2.p x2 x3 x4 x5
            else
              spec_l4Spoil_l6 k r3.2.b r3.2.p x2 x3 x4 x5
noncomputable def spec_l4Spoil_l21 : Nat → List Int → Int → Int → Int → List DItem → List DItem → Option (DSend × DL1Rd)
  | 0, _, _, _, _, _, _ => none
  | k + 1, x0, x1, x2, x3, x4, x5 =>
    some ((⟨x3, x5⟩ : DSend), (⟨x0, x1⟩ : DL1Rd))
noncomputable def spec_l4Spoil_l19 : Nat → Int → List Int → Int → Int → Int → List DItem → List DItem → Option (DSend × DL1Rd)
  | 0, _, _, _, _, _, _, _ => none
  | k + 1, x0, x1, x2, x3, x4, x5, x6 =>
    bif (decide ((x6.length : Int) < x0)) then
      (app 40 x6 ([(⟨(⟨(⟨#[]⟩ : ByteArray), false⟩ : DPart), false, (-1)⟩ : DItem)] : List DItem)).bind fun l15 =>
      spec_l4Spoil_l19 k x0 x1 x2 x3 x4 x5 l15
    else
      spec_l4Spoil_l21 k x1 x2 x3 x4 x5 x6
noncomputable def spec_l4Spoil_l6 : Nat → List Int → Int → Int → Int → List DItem → List DItem → Option (DSend × DL1Rd)
  | 0, _, _, _, _, _, _ => none
  | k + 1, x0, x1, x2, x3, x4, x5 =>
    bif (decide ((x5.length : Int) ≤ 8)) then
      (app 40 x5 ([(⟨(⟨(⟨#[]⟩ : ByteArray), false⟩ : DPart), false, (-1)⟩ : DItem)] : List DItem)).bind fun l16 =>
      spec_l4Spoil_l6 k x0 x1 x2 x3 x4 l16
    else
      (spec_l1Rd_pick k (⟨x0, x1⟩ : DL1Rd) 2).bind fun r17 =>
      (idx x5 8).bind fun _ =>
      (x5[(Int.toNat 8)]?).bind fun y18 =>
      spec_l4Spoil_l21 k r17.2.b r17.2.p x2 x3 x4 (x5.set (Int.toNat 8) (⟨y18.Part, y18.Has, (IntKind.wrap .i64 (r17.1 - 1))⟩ : DItem))
end
noncomputable def spec_l4Spoil (k : Nat) (a0 : DL1Rd) (a1 : DSend) : Option (DSend × DL1Rd) :=
  (spec_l4Copy k a1).bind fun r1 =>
  bif ((r1.Items.length : Int) == 0) then
    spec_l4Spoil_l4 k a0.b a0.p 0 r1.Base ([] : List DItem) ([(⟨(⟨(⟨#[]⟩ : ByteArray), false⟩ : DPart), false, (-1)⟩ : DItem)] : List DItem)
  else
    spec_l4Spoil_l4 k a0.b a0.p 0 r1.Base ([] : List DItem) r1.Items
noncomputable def spec_l4Any (k : Nat) (a0 : DL1Rd) : Option (DSend × DL1Rd) :=
  (spec_l4Draw k a0).bind fun r1 =>
  (spec_l1Rd_pick k r1.2 8).bind fun r2 =>
  bif (r2.1 == 0) then
    (spec_l4Spoil k r2.2 r1.1).bind fun r3 =>
    some (r3.1, r3.2)
  else
    some (r1.1, r2.2)
mutual
noncomputable def spec_DrawSendWord_l7 : Nat → Int → Int → Int → List Int → Int → Int → List DItem → List DItem → Option (DSend × Int × Int)
  | 0, _, _, _, _, _, _, _, _ => none
  | k + 1, x0, x1, x2, x3, x4, x5, x6, x7 =>
    (spec_l1Rd_pick k (⟨x3, x4⟩ : DL1Rd) 12).bind fun r8 =>
    bif (r8.1 == 0) then
      both (
        (spec_l1Rd_pick k r8.2 4).bind fun r9 =>
        (idx ([0, (-1), (IntKind.wrap .i64 (x5 + (x7.length : Int))), (IntKind.wrap .i64 ((IntKind.wrap .i64 (x5 + (x7.length : Int))) + 1))] : List Int) r9.1).bind fun _ =>
        (([0, (-1), (IntKind.wrap .i64 (x5 + (x7.length : Int))), (IntKind.wrap .i64 ((IntKind.wrap .i64 (x5 + (x7.length : Int))) + 1))] : List Int)[(Int.toNat r9.1)]?).bind fun y10 =>
        spec_DrawSendWord_l9 k y10 x1 x2 x5 x6 x7
      ) (
        (spec_l1Rd_pick k r8.2 4).bind fun r11 =>
        (idx ([0, (-1), (IntKind.wrap .i64 (x5 + (x7.length : Int))), (IntKind.wrap .i64 ((IntKind.wrap .i64 (x5 + (x7.length : Int))) + 1))] : List Int) r11.1).bind fun _ =>
        (([0, (-1), (IntKind.wrap .i64 (x5 + (x7.length : Int))), (IntKind.wrap .i64 ((IntKind.wrap .i64 (x5 + (x7.length : Int))) + 1))] : List Int)[(Int.toNat r11.1)]?).bind fun y12 =>
        spec_DrawSendWord_l9 k y12 x1 x2 x5 x6 x7
      )
    else
      spec_DrawSendWord_l9 k x0 x1 x2 x5 x6 x7
noncomputable def spec_DrawSendWord_l9 : Nat → Int → Int → Int → Int → List DItem → List DItem → Option (DSend × Int × Int)
  | 0, _, _, _, _, _, _ => none
  | k + 1, x0, x1, x2, x3, x4, x5 =>
    some ((⟨x3, x5⟩ : DSend), x0, x1)
end
noncomputable def spec_DrawSendWord (k : Nat) (a0 : List Int) : Option (DSend × Int × Int) :=
  (spec_l1Open k a0).bind fun r1 =>
  (spec_l4Any k r1).bind fun r2 =>
  (spec_l1Rd_pick k r2.2 11).bind fun r3 =>
  (spec_l1Rd_pick k r3.2 256).bind fun r4 =>
  (spec_l1Rd_pick k r4.2 12).bind fun r5 =>
  bif (r5.1 == 0) then
    (spec_l1Rd_pick k r5.2 3).bind fun r6 =>
    (idx ([(-1), 256, 511] : List Int) r6.1).bind fun y7 =>
    spec_DrawSendWord_l7 k (IntKind.wrap .i64 ((IntKind.wrap .i64 (r2.1.Base + r3.1)) - 1)) y7 0 r6.2.b r6.2.p r2.1.Base ([] : List DItem) r2.1.Items
  else
    spec_DrawSendWord_l7 k (IntKind.wrap .i64 ((IntKind.wrap .i64 (r2.1.Base + r3.1)) - 1)) r4.1 0 r5.2.b r5.2.p r2.1.Base ([] : List DItem) r2.1.Items
noncomputable def spec_l2Draw (k : Nat) (a0 : DL1Rd) : Option (DPacket × DL1Rd) :=
  both (
    (spec_l1Rd_pick k a0 2).bind fun r1 =>
    (spec_l1Rd_pick k r1.2 2).bind fun r2 =>
    (spec_l1Rd_pick k r2.2 5).bind fun r3 =>
    (idx ([1, 2, 3, 256, 1000] : List Int) r3.1).bind fun y4 =>
    (spec_l1Rd_pick k r3.2 5).bind fun r5 =>
    (idx ([0, 1, 2, 256, 1000] : List Int) r5.1).bind fun y6 =>
    bif ((IntKind.wrap .i64 (1 + r1.1)) == 1) then
      (spec_l1Rd_pick k r5.2 5).bind fun r7 =>
      (idx ([0, 1, 3, 65536, 1000000] : List Int) r7.1).bind fun y8 =>
      (spec_l1Rd_pick k r7.2 5).bind fun r9 =>
      (idx ([0, 1, 5, 255, 128] : List Int) r9.1).bind fun y10 =>
      some ((⟨(IntKind.wrap .i64 (1 + r1.1)), (IntKind.wrap .i64 (1 + r2.1)), y4, y6, y8, y10, 0, false, (⟨#[]⟩ : ByteArray)⟩ : DPacket), r9.2)
    else
      (spec_l1Rd_pick k r5.2 5).bind fun r11 =>
      (idx ([0, 1, 2, 65536, 999999] : List Int) r11.1).bind fun y12 =>
      (spec_l1Rd_pick k r11.2 2).bind fun r13 =>
      (spec_l1Rd_pick k r13.2 21).bind fun r14 =>
      (spec_l1Many k (⟨#[112]⟩ : ByteArray) r14.1).bind fun r15 =>
      some ((⟨(IntKind.wrap .i64 (1 + r1.1)), (IntKind.wrap .i64 (1 + r2.1)), y4, y6, 0, 0, y12, (r13.1 == 0), r15⟩ : DPacket), r14.2)
  ) (
    both (
      (spec_l1Rd_pick k a0 2).bind fun r16 =>
      (spec_l1Rd_pick k r16.2 2).bind fun r17 =>
      (spec_l1Rd_pick k r17.2 5).bind fun r18 =>
      (idx ([1, 2, 3, 256, 1000] : List Int) r18.1).bind fun y19 =>
      (spec_l1Rd_pick k r18.2 5).bind fun r20 =>
      (idx ([0, 1, 2, 256, 1000] : List Int) r20.1).bind fun y21 =>
      bif ((IntKind.wrap .i64 (1 + r16.1)) == 1) then
        (spec_l1Rd_pick k r20.2 5).bind fun r22 =>
        (idx ([0, 1, 3, 65536, 1000000] : List Int) r22.1).bind fun y23 =>
        (spec_l1Rd_pick k r22.2 5).bind fun r24 =>
        (idx ([0, 1, 5, 255, 128] : List Int) r24.1).bind fun y25 =>
        some ((⟨(IntKind.wrap .i64 (1 + r16.1)), (IntKind.wrap .i64 (1 + r17.1)), y19, y21, y23, y25, 0, false, (⟨#[]⟩ : ByteArray)⟩ : DPacket), r24.2)
      else
        (spec_l1Rd_pick k r20.2 5).bind fun r26 =>
        (idx ([0, 1, 2, 65536, 999999] : List Int) r26.1).bind fun y27 =>
        (spec_l1Rd_pick k r26.2 2).bind fun r28 =>
        (spec_l1Rd_pick k r28.2 21).bind fun r29 =>
        (spec_l1Many k (⟨#[112]⟩ : ByteArray) r29.1).bind fun r30 =>
        some ((⟨(IntKind.wrap .i64 (1 + r16.1)), (IntKind.wrap .i64 (1 + r17.1)), y19, y21, 0, 0, y27, (r28.1 == 0), r30⟩ : DPacket), r29.2)
    ) (
      both (
        (spec_l1Rd_pick k a0 2).bind fun r31 =>
        (spec_l1Rd_pick k r31.2 2).bind fun r32 =>
        (spec_l1Rd_pick k r32.2 5).bind fun r33 =>
        (idx ([1, 2, 3, 256, 1000] : List Int) r33.1).bind fun y34 =>
        (spec_l1Rd_pick k r33.2 5).bind fun r35 =>
        (idx ([0, 1, 2, 256, 1000] : List Int) r35.1).bind fun y36 =>
        bif ((IntKind.wrap .i64 (1 + r31.1)) == 1) then
          (spec_l1Rd_pick k r35.2 5).bind fun r37 =>
          (idx ([0, 1, 3, 65536, 1000000] : List Int) r37.1).bind fun y38 =>
          (spec_l1Rd_pick k r37.2 5).bind fun r39 =>
          (idx ([0, 1, 5, 255, 128] : List Int) r39.1).bind fun y40 =>
          some ((⟨(IntKind.wrap .i64 (1 + r31.1)), (IntKind.wrap .i64 (1 + r32.1)), y34, y36, y38, y40, 0, false, (⟨#[]⟩ : ByteArray)⟩ : DPacket), r39.2)
        else
          (spec_l1Rd_pick k r35.2 5).bind fun r41 =>
          (idx ([0, 1, 2, 65536, 999999] : List Int) r41.1).bind fun y42 =>
          (spec_l1Rd_pick k r41.2 2).bind fun r43 =>
          (spec_l1Rd_pick k r43.2 21).bind fun r44 =>
          (spec_l1Many k (⟨#[112]⟩ : ByteArray) r44.1).bind fun r45 =>
          some ((⟨(IntKind.wrap .i64 (1 + r31.1)), (IntKind.wrap .i64 (1 + r32.1)), y34, y36, 0, 0, y42, (r43.1 == 0), r45⟩ : DPacket), r44.2)
      ) (
        both (
          (spec_l1Rd_pick k a0 2).bind fun r46 =>
          (spec_l1Rd_pick k r46.2 2).bind fun r47 =>
          (spec_l1Rd_pick k r47.2 5).bind fun r48 =>
          (idx ([1, 2, 3, 256, 1000] : List Int) r48.1).bind fun y49 =>
          (spec_l1Rd_pick k r48.2 5).bind fun r50 =>
          (idx ([0, 1, 2, 256, 1000] : List Int) r50.1).bind fun y51 =>
          bif ((IntKind.wrap .i64 (1 + r46.1)) == 1) then
            (spec_l1Rd_pick k r50.2 5).bind fun r52 =>
            (idx ([0, 1, 3, 65536, 1000000] : List Int) r52.1).bind fun y53 =>
            (spec_l1Rd_pick k r52.2 5).bind fun r54 =>
            (idx ([0, 1, 5, 255, 128] : List Int) r54.1).bind fun y55 =>
            some ((⟨(IntKind.wrap .i64 (1 + r46.1)), (IntKind.wrap .i64 (1 + r47.1)), y49, y51, y53, y55, 0, false, (⟨#[]⟩ : ByteArray)⟩ : DPacket), r54.2)
          else
            (spec_l1Rd_pick k r50.2 5).bind fun r56 =>
            (idx ([0, 1, 2, 65536, 999999] : List Int) r56.1).bind fun y57 =>
            (spec_l1Rd_pick k r56.2 2).bind fun r58 =>
            (spec_l1Rd_pick k r58.2 21).bind fun r59 =>
            (spec_l1Many k (⟨#[112]⟩ : ByteArray) r59.1).bind fun r60 =>
            some ((⟨(IntKind.wrap .i64 (1 + r46.1)), (IntKind.wrap .i64 (1 + r47.1)), y49, y51, 0, 0, y57, (r58.1 == 0), r60⟩ : DPacket), r59.2)
        ) (
          (spec_l1Rd_pick k a0 2).bind fun r61 =>
          (spec_l1Rd_pick k r61.2 2).bind fun r62 =>
          (spec_l1Rd_pick k r62.2 5).bind fun r63 =>
          (idx ([1, 2, 3, 256, 1000] : List Int) r63.1).bind fun y64 =>
          (spec_l1Rd_pick k r63.2 5).bind fun r65 =>
          (idx ([0, 1, 2, 256, 1000] : List Int) r65.1).bind fun y66 =>
          bif ((IntKind.wrap .i64 (1 + r61.1)) == 1) then
            (spec_l1Rd_pick k r65.2 5).bind fun r67 =>
            (idx ([0, 1, 3, 65536, 1000000] : List Int) r67.1).bind fun y68 =>
            (spec_l1Rd_pick k r67.2 5).bind fun r69 =>
            (idx ([0, 1, 5, 255, 128] : List Int) r69.1).bind fun y70 =>
            some ((⟨(IntKind.wrap .i64 (1 + r61.1)), (IntKind.wrap .i64 (1 + r62.1)), y64, y66, y68, y70, 0, false, (⟨#[]⟩ : ByteArray)⟩ : DPacket), r69.2)
          else
            (spec_l1Rd_pick k r65.2 5).bind fun r71 =>
            (idx ([0, 1, 2, 65536, 999999] : List Int) r71.1).bind fun y72 =>
            (spec_l1Rd_pick k r71.2 2).bind fun r73 =>
            (spec_l1Rd_pick k r73.2 21).bind fun r74 =>
            (spec_l1Many k (⟨#[112]⟩ : ByteArray) r74.1).bind fun r75 =>
            some ((⟨(IntKind.wrap .i64 (1 + r61.1)), (IntKind.wrap .i64 (1 + r62.1)), y64, y66, 0, 0, y72, (r73.1 == 0), r75⟩ : DPacket), r74.2)
        )
      )
    )
  )
noncomputable def spec_l2Spoil_l21 : Nat → List Int → Int → Int → Int → Int → Int → Int → Int → Int → Bool → ByteArray → Int → Int → Int → Int → Int → Int → Int → Bool → ByteArray → Option (DPacket × DL1Rd)
  | 0, _, _, _, _, _, _, _, _, _, _, _, _, _, _, _, _, _, _, _, _ => none
  | k + 1, x0, x1, x2, x3, x4, x5, x6, x7, x8, x9, x10, x11, x12, x13, x14, x15, x16, x17, x18, x19 =>
    some ((⟨x2, x3, x4, x5, x6, x7, x8, x9, x10⟩ : DPacket), (⟨x0, x1⟩ : DL1Rd))
noncomputable def spec_l2Spoil (k : Nat) (a0 : DL1Rd) (a1 : DPacket) : Option (DPacket × DL1Rd) :=
  (spec_l1Rd_pick k a0 10).bind fun r1 =>
  bif (r1.1 == 0) then
    (spec_l1Rd_pick k r1.2 5).bind fun r2 =>
    spec_l2Spoil_l21 k r2.2.b r2.2.p (IntKind.wrap .i64 (r2.1 - 1)) a1.From a1.Mine a1.Yours a1.Next a1.Mask a1.Seq a1.Last a1.Part 0 0 0 0 0 0 0 false (⟨#[]⟩ : ByteArray)
  else
    bif (r1.1 == 1) then
      (spec_l1Rd_pick k r1.2 2).bind fun r3 =>
      (idx ([0, 3] : List Int) r3.1).bind fun y4 =>
      spec_l2Spoil_l21 k r3.2.b r3.2.p a1.Kind y4 a1.Mine a1.Yours a1.Next a1.Mask a1.Seq a1.Last a1.Part 0 0 0 0 0 0 0 false (⟨#[]⟩ : ByteArray)
    else
      bif (r1.1 == 2) then
        (spec_l1Rd_pick k r1.2 2).bind fun r5 =>
        (idx ([0, 1001] : List Int) r5.1).bind fun y6 =>
        spec_l2Spoil_l21 k r5.2.b r5.2.p a1.Kind a1.From y6 a1.Yours a1.Next a1.Mask a1.Seq a1.Last a1.Part 0 0 0 0 0 0 0 false (⟨#[]⟩ : ByteArray)
      else
        bif (r1.1 == 3) then
          (spec_l1Rd_pick k r1.2 2).bind fun r7 =>
          (idx ([(-1), 1001] : List Int) r7.1).bind fun y8 =>
          spec_l2Spoil_l21 k r7.2.b r7.2.p a1.Kind a1.From a1.Mine y8 a1.Next a1.Mask a1.Seq a1.Last a1.Part 0 0 0 0 0 0 0 false (⟨#[]⟩ : ByteArray)
        else
          bif (r1.1 == 4) then
            (spec_l1Rd_pick k r1.2 3).bind fun r9 =>
            (idx ([(-1), 1, 1000001] : List Int) r9.1).bind fun y10 =>
            spec_l2Spoil_l21 k r9.2.b r9.2.p a1.Kind a1.From a1.Mine a1.Yours y10 a1.Mask a1.Seq a1.Last a1.Part 0 0 0 0 0 0 0 false (⟨#[]⟩ : ByteArray)
          else
            bif (r1.1 == 5) then
              (spec_l1Rd_pick k r1.2 3).bind fun r11 =>
              (idx ([(-1), 1, 256] : List Int) r11.1).bind fun y12 =>
              spec_l2Spoil_l21 k r11.2.b r11.2.p a1.Kind a1.From a1.Mine a1.Yours a1.Next y12 a1.Seq a1.Last a1.Part 0 0 0 0 0 0 0 false (⟨#[]⟩ : ByteArray)
            else
              bif (r1.1 == 6) then
                (spec_l1Rd_pick k r1.2 3).bind fun r13 =>
                (idx ([(-1), 1, 1000000] : List Int) r13.1).bind fun y14 =>
                spec_l2Spoil_l21 k r13.2.b r13.2.p a1.Kind a1.From a1.Mine a1.Yours a1.Next a1.Mask y14 a1.Last a1.Part 0 0 0 0 0 0 0 false (⟨#[]⟩ : ByteArray)
              else
                bif (r1.1 == 7) then
                  spec_l2Spoil_l21 k r1.2.b r1.2.p a1.Kind a1.From a1.Mine a1.Yours a1.Next a1.Mask a1.Seq (!a1.Last) a1.Part 0 0 0 0 0 0 0 false (⟨#[]⟩ : ByteArray)
                else
                  bif (r1.1 == 8) then
                    (spec_l1Rd_pick k r1.2 2).bind fun r15 =>
                    (spec_l1Many k (⟨#[112]⟩ : ByteArray) (IntKind.wrap .i64 (20 + r15.1))).bind fun r16 =>
                    spec_l2Spoil_l21 k r15.2.b r15.2.p a1.Kind a1.From a1.Mine a1.Yours a1.Next a1.Mask a1.Seq a1.Last r16 0 0 0 0 0 0 0 false (⟨#[]⟩ : ByteArray)
                  else
                    spec_l2Spoil_l21 k r1.2.b r1.2.p a1.Kind a1.From a1.Mine a1.Yours a1.Next a1.Mask a1.Seq a1.Last (⟨#[120]⟩ : ByteArray) 0 0 0 0 0 0 0 false (⟨#[]⟩ : ByteArray)
noncomputable def spec_DrawFormPacket_l5 : Nat → List Int → Int → Int → Int → Int → Int → Int → Int → Bool → ByteArray → Int → Int → Int → Int → Int → Int → Int → Bool → ByteArray → Option (DPacket × ByteArray × Int)
  | 0, _, _, _, _, _, _, _, _, _, _, _, _, _, _, _, _, _, _, _ => none
  | k + 1, x0, x1, x2, x3, x4, x5, x6, x7, x8, x9, x10, x11, x12, x13, x14, x15, x16, x17, x18 =>
    (spec_DrawTag k x0).bind fun r5 =>
    some ((⟨x10, x11, x12, x13, x14, x15, x16, x17, x18⟩ : DPacket), r5.2.1, r5.2.2)
noncomputable def spec_DrawFormPacket (k : Nat) (a0 : List Int) : Option (DPacket × ByteArray × Int) :=
  (spec_l1Open k a0).bind fun r1 =>
  (spec_l2Draw k r1).bind fun r2 =>
  (spec_l1Rd_pick k r2.2 3).bind fun r3 =>
  bif (r3.1 == 0) then
    (spec_l2Spoil k r3.2 r2.1).bind fun r4 =>
    spec_DrawFormPacket_l5 k a0 0 0 0 0 0 0 0 false (⟨#[]⟩ : ByteArray) r4.1.Kind r4.1.From r4.1.Mine r4.1.Yours r4.1.Next r4.1.Mask r4.1.Seq r4.1.Last r4.1.Part
  else
    spec_DrawFormPacket_l5 k a0 0 0 0 0 0 0 0 false (⟨#[]⟩ : ByteArray) r2.1.Kind r2.1.From r2.1.Mine r2.1.Yours r2.1.Next r2.1.Mask r2.1.Seq r2.1.Last r2.1.Part
mutual
noncomputable def spec_DrawReadPacket_l8 : Nat → ByteArray → Int → ByteArray → List Int → Int → Option (ByteArray × ByteArray × Int)
  | 0, _, _, _, _, _ => none
  | k + 1, x0, x1, x2, x3, x4 =>
    (spec_l1Bend k (⟨x3, x4⟩ : DL1Rd) x2).bind fun r6 =>
    spec_DrawReadPacket_l14 k x0 x1 r6.1
noncomputable def spec_DrawReadPacket_l9 : Nat → ByteArray → Int → ByteArray → Int → List Int → Int → Int → Int → Int → Int → Int → Int → Int → Bool → ByteArray → Option (ByteArray × ByteArray × Int)
  | 0, _, _, _, _, _, _, _, _, _, _, _, _, _, _, _ => none
  | k + 1, x0, x1, x2, x3, x4, x5, x6, x7, x8, x9, x10, x11, x12, x13, x14 =>
    bif (x3 == 2) then
      (spec_l2Body k (⟨x6, x7, x8, x9, x10, x11, x12, x13, x14⟩ : DPacket)).bind fun r7 =>
      (spec_l1Bend k (⟨x4, x5⟩ : DL1Rd) r7).bind fun r8 =>
      (spec_Tag k r8.1 x0 x1).bind fun r9 =>
      (sadd r9 r8.1).bind fun t10 =>
      spec_DrawReadPacket_l14 k x0 x1 t10
    else
      bif (x3 == 3) then
        spec_DrawReadPacket_l14 k (⟨#[111, 116, 104, 101, 114]⟩ : ByteArray) x1 x2
      else
        spec_DrawReadPacket_l14 k x0 x1 x2
noncomputable def spec_DrawReadPacket_l14 : Nat → ByteArray → Int → ByteArray → Option (ByteArray × ByteArray × Int)
  | 0, _, _, _ => none
  | k + 1, x0, x1, x2 =>
    some (x2, x0, x1)
end
noncomputable def spec_DrawReadPacket (k : Nat) (a0 : List Int) : Option (ByteArray × ByteArray × Int) :=
  (spec_l1Open k a0).bind fun r1 =>
  (spec_l2Draw k r1).bind fun r2 =>
  (spec_DrawTag k a0).bind fun r3 =>
  (spec_FormPacket k r2.1 r3.2.1 r3.2.2).bind fun r4 =>
  (spec_l1Rd_pick k r2.2 6).bind fun r5 =>
  bif (r5.1 == 0) then
    spec_DrawReadPacket_l8 k r3.2.1 r3.2.2 r4 r5.2.b r5.2.p
  else
    bif (r5.1 == 1) then
      spec_DrawReadPacket_l8 k r3.2.1 r3.2.2 r4 r5.2.b r5.2.p
    else
      spec_DrawReadPacket_l9 k r3.2.1 r3.2.2 r4 r5.1 r5.2.b r5.2.p r2.1.Kind r2.1.From r2.1.Mine r2.1.Yours r2.1.Next r2.1.Mask r2.1.Seq r2.1.Last r2.1.Part
mutual
noncomputable def spec_l7Reached_l4 : Nat → List Int → Int → ByteArray → Int → ByteArray → ByteArray → Int → ByteArray → List DEnd → List DParcel → List DRecord → List DRecord → List DEnd → List DParcel → List DRecord → List DRecord → Option (DWorld × DL1Rd)
  | 0, _, _, _, _, _, _, _, _, _, _, _, _, _, _, _, _ => none
  | k + 1, x0, x1, x2, x3, x4, x5, x6, x7, x8, x9, x10, x11, x12, x13, x14, x15 =>
    (spec_l1Rd_pick k (⟨x0, x1⟩ : DL1Rd) 50).bind fun r7 =>
    spec_l7Reached_l6 k r7.1 0 r7.2.b r7.2.p x2 x3 x4 x5 x6 x7 x8 x9 x10 x11 x12 x13 x14 x15
noncomputable def spec_l7Reached_l6 : Nat → Int → Int → List Int → Int → ByteArray → Int → ByteArray → ByteArray → Int → ByteArray → List DEnd → List DParcel → List DRecord → List DRecord → List DEnd → List DParcel → List DRecord → List DRecord → Option (DWorld × DL1Rd)
  | 0, _, _, _, _, _, _, _, _, _, _, _, _, _, _, _, _, _, _ => none
  | k + 1, x0, x1, x2, x3, x4, x5, x6, x7, x8, x9, x10, x11, x12, x13, x14, x15, x16, x17 =>
    bif (decide (x1 < x0)) then
      (spec_l7Event k (⟨x2, x3⟩ : DL1Rd)).bind fun r8 =>
      (spec_l7Do k (⟨x7, x8, x14, x15, x9, x16, x17⟩ : DWorld) r8.1).bind fun r9 =>
      (spec_l1Rd_pick k r8.2 5).bind fun r10 =>
      bif (r10.1 == 0) then
        (spec_l7Tick k r9).bind fun r11 =>
        (spec_l1Rd_pick k r10.2 6).bind fun r12 =>
        spec_l7Reached_l12 k x0 x1 r12.1 r12.2.b r12.2.p x4 x5 x6 r11.Key r11.Width r11.Forged x10 x11 x12 x13 r11.Ends r11.Flight r11.Given r11.Taken
      else
        spec_l7Reached_l15 k x0 x1 r10.2.b r10.2.p x4 x5 x6 r9.Key r9.Width r9.Forged x10 x11 x12 x13 r9.Ends r9.Flight r9.Given r9.Taken
    else
      (spec_l7Copy k (⟨x7, x8, x14, x15, x9, x16, x17⟩ : DWorld)).bind fun r13 =>
      some (r13, (⟨x2, x3⟩ : DL1Rd))
noncomputable def spec_l7Reached_l12 : Nat → Int → Int → Int → List Int → Int → ByteArray → Int → ByteArray → ByteArray → Int → ByteArray → List DEnd → List DParcel → List DRecord → List DRecord → List DEnd → List DParcel → List DRecord → List DRecord → Option (DWorld × DL1Rd)
  | 0, _, _, _, _, _, _, _, _, _, _, _, _, _, _, _, _, _, _, _ => none
  | k + 1, x0, x1, x2, x3, x4, x5, x6, x7, x8, x9, x10, x11, x12, x13, x14, x15, x16, x17, x18 =>
    bif (decide (x2 > 0)) then
      bif (decide ((x16.length : Int) > 0)) then
        (spec_l7Bring k (⟨x8, x9, x15, x16, x10, x17, x18⟩ : DWorld) 0).bind fun r14 =>
        spec_l7Reached_l12 k x0 x1 (IntKind.wrap .i64 (x2 - 1)) x3 x4 x5 x6 x7 r14.Key r14.Width r14.Forged x11 x12 x13 x14 r14.Ends r14.Flight r14.Given r14.Taken
      else
        spec_l7Reached_l15 k x0 x1 x3 x4 x5 x6 x7 x8 x9 x10 x11 x12 x13 x14 x15 x16 x17 x18
    else
      spec_l7Reached_l15 k x0 x1 x3 x4 x5 x6 x7 x8 x9 x10 x11 x12 x13 x14 x15 x16 x17 x18
noncomputable def spec_l7Reached_l15 : Nat → Int → Int → List Int → Int → ByteArray → Int → ByteArray → ByteArray → Int → ByteArray → List DEnd → List DParcel → List DRecord → List DRecord → List DEnd → List DParcel → List DRecord → List DRecord → Option (DWorld × DL1Rd)
  | 0, _, _, _, _, _, _, _, _, _, _, _, _, _, _, _, _, _, _ => none
  | k + 1, x0, x1, x2, x3, x4, x5, x6, x7, x8, x9, x10, x11, x12, x13, x14, x15, x16, x17 =>
    (spec_l1Rd_pick k (⟨x2, x3⟩ : DL1Rd) 16).bind fun r15 =>
    bif (r15.1 == 0) then
      (spec_l7Do k (⟨x7, x8, x14, x15, x9, x16, x17⟩ : DWorld) (⟨9, 1, 0, 0, (⟨#[]⟩ : ByteArray)⟩ : DEvent)).bind fun r16 =>
      (spec_l7Do k r16 (⟨9, 2, 0, 0, (⟨#[]⟩ : ByteArray)⟩ : DEvent)).bind fun r17 =>
      spec_l7Reached_l7 k x0 x1 r15.2.b r15.2.p x4 x5 x6 r17.Key r17.Width r17.Forged x10 x11 x12 x13 r17.Ends r17.Flight r17.Given r17.Taken
    else
      spec_l7Reached_l7 k x0 x1 r15.2.b r15.2.p x4 x5 x6 x7 x8 x9 x10 x11 x12 x13 x14 x15 x16 x17
noncomputable def spec_l7Reached_l7 : Nat → Int → Int → List Int → Int → ByteArray → Int → ByteArray → ByteArray → Int → ByteArray → List DEnd → List DParcel → List DRecord → List DRecord → List DEnd → List DParcel → List DRecord → List DRecord → Option (DWorld × DL1Rd)
  | 0, _, _, _, _, _, _, _, _, _, _, _, _, _, _, _, _, _, _ => none
  | k + 1, x0, x1, x2, x3, x4, x5, x6, x7, x8, x9, x10, x11, x12, x13, x14, x15, x16, x17 =>
    spec_l7Reached_l6 k x0 (IntKind.wrap .i64 (x1 + 1)) x2 x3 x4 x5 x6 x7 x8 x9 x10 x11 x12 x13 x14 x15 x16 x17
end
noncomputable def spec_l7Reached (k : Nat) (a0 : DL1Rd) : Option (DWorld × DL1Rd) :=
  (spec_l1Key k a0).bind fun r1 =>
  (spec_l1Width k r1.2).bind fun r2 =>
  (spec_NewWorld k r1.1 r2.1).bind fun r3 =>
  (spec_l1Rd_pick k r2.2 3).bind fun r4 =>
  bif (decide (r4.1 > 0)) then
    (spec_l1Rd_pick k r4.2 4).bind fun r5 =>
    (spec_Calm k r3 (IntKind.wrap .i64 (7 + r5.1)) 1).bind fun r6 =>
    spec_l7Reached_l4 k r5.2.b r5.2.p (⟨#[]⟩ : ByteArray) 0 (⟨#[]⟩ : ByteArray) r6.Key r6.Width r6.Forged ([] : List DEnd) ([] : List DParcel) ([] : List DRecord) ([] : List DRecord) r6.Ends r6.Flight r6.Given r6.Taken
  else
    spec_l7Reached_l4 k r4.2.b r4.2.p (⟨#[]⟩ : ByteArray) 0 (⟨#[]⟩ : ByteArray) r3.Key r3.Width r3.Forged ([] : List DEnd) ([] : List DParcel) ([] : List DRecord) ([] : List DRecord) r3.Ends r3.Flight r3.Given r3.Taken
mutual
noncomputable def spec_l5Draw_l3 : Nat → Int → List Int → Int → Int → ByteArray → Int → ByteArray → List DHeld → List ByteArray → List DHeld → List ByteArray → Option (DTake × DL1Rd)
  | 0, _, _, _, _, _, _, _, _, _, _, _ => none
  | k + 1, x0, x1, x2, x3, x4, x5, x6, x7, x8, x9, x10 =>
    bif (decide (x0 > 0)) then
      (spec_l1Rd_pick k (⟨x1, x2⟩ : DL1Rd) 8).bind fun r4 =>
      bif (r4.1 == 0) then
        (spec_TakePull k (⟨x5, x9, x6, x10⟩ : DTake)).bind fun r5 =>
        spec_l5Draw_l4 k x0 r4.2.b r4.2.p x3 x4 r5.1.Next r5.1.Open x7 x8 r5.1.Held r5.1.Ready
      else
        (spec_l1Rd_pick k r4.2 3).bind fun r6 =>
        bif (r6.1 == 0) then
          (spec_l1Rd_pick k r6.2 9).bind fun r7 =>
          spec_l5Draw_l9 k x0 (IntKind.wrap .i64 (x5 + r7.1)) r7.2.b r7.2.p x3 x4 x5 x6 x7 x8 x9 x10
        else
          spec_l5Draw_l9 k x0 x5 r6.2.b r6.2.p x3 x4 x5 x6 x7 x8 x9 x10
    else
      (spec_l5Copy k (⟨x5, x9, x6, x10⟩ : DTake)).bind fun r8 =>
      some (r8, (⟨x1, x2⟩ : DL1Rd))
noncomputable def spec_l5Draw_l4 : Nat → Int → List Int → Int → Int → ByteArray → Int → ByteArray → List DHeld → List ByteArray → List DHeld → List ByteArray → Option (DTake × DL1Rd)
  | 0, _, _, _, _, _, _, _, _, _, _, _ => none
  | k + 1, x0, x1, x2, x3, x4, x5, x6, x7, x8, x9, x10 =>
    spec_l5Draw_l3 k (IntKind.wrap .i64 (x0 - 1)) x1 x2 x3 x4 x5 x6 x7 x8 x9 x10
noncomputable def spec_l5Draw_l9 : Nat → Int → Int → List Int → Int → Int → ByteArray → Int → ByteArray → List DHeld → List ByteArray → List DHeld → List ByteArray → Option (DTake × DL1Rd)
  | 0, _, _, _, _, _, _, _, _, _, _, _, _ => none
  | k + 1, x0, x1, x2, x3, x4, x5, x6, x7, x8, x9, x10, x11 =>
    (spec_l1Rd_pick k (⟨x2, x3⟩ : DL1Rd) 3).bind fun r9 =>
    (idx ([1, 5, 20] : List Int) r9.1).bind fun y10 =>
    (spec_l1Many k (⟨#[116]⟩ : ByteArray) y10).bind fun r11 =>
    (spec_l1Rd_pick k r9.2 3).bind fun r12 =>
    (spec_TakePart k (⟨x6, x10, x7, x11⟩ : DTake) x1 (⟨r11, (r12.1 == 0)⟩ : DPart)).bind fun r13 =>
    spec_l5Draw_l4 k x0 r12.2.b r12.2.p x4 x5 r13.Next r13.Open x8 x9 r13.Held r13.Ready
end
noncomputable def spec_l5Draw (k : Nat) (a0 : DL1Rd) : Option (DTake × DL1Rd) :=
  (spec_l1Rd_pick k a0 4).bind fun r1 =>
  (idx ([0, 0, 5, 999996] : List Int) r1.1).bind fun y2 =>
  (spec_l1Rd_pick k r1.2 24).bind fun r3 =>
  spec_l5Draw_l3 k r3.1 r3.2.b r3.2.p 0 (⟨#[]⟩ : ByteArray) y2 (⟨#[]⟩ : ByteArray) ([] : List DHeld) ([] : List ByteArray) ([] : List DHeld) ([] : List ByteArray)
mutual
noncomputable def spec_l5Spoil_l20 : Nat → List Int → Int → Int → ByteArray → Int → ByteArray → List DHeld → List ByteArray → List DHeld → List ByteArray → Option (DTake × DL1Rd)
  | 0, _, _, _, _, _, _, _, _, _, _ => none
  | k + 1, x0, x1, x2, x3, x4, x5, x6, x7, x8, x9 =>
    some ((⟨x4, x8, x5, x9⟩ : DTake), (⟨x0, x1⟩ : DL1Rd))
noncomputable def spec_l5Spoil_l15 : Nat → Int → List Int → Int → Int → ByteArray → Int → ByteArray → List DHeld → List ByteArray → List DHeld → List ByteArray → Option (DTake × DL1Rd)
  | 0, _, _, _, _, _, _, _, _, _, _, _ => none
  | k + 1, x0, x1, x2, x3, x4, x5, x6, x7, x8, x9, x10 =>
    bif (decide ((x10.length : Int) < x0)) then
      (app 16 x10 ([(⟨#[]⟩ : ByteArray)] : List ByteArray)).bind fun l20 =>
      spec_l5Spoil_l15 k x0 x1 x2 x3 x4 x5 x6 x7 x8 x9 l20
    else
      spec_l5Spoil_l20 k x1 x2 x3 x4 x5 x6 x7 x8 x9 x10
end
noncomputable def spec_l5Spoil (k : Nat) (a0 : DL1Rd) (a1 : DTake) : Option (DTake × DL1Rd) :=
  (spec_l5Copy k a1).bind fun r1 =>
  (spec_l1Rd_pick k a0 7).bind fun r2 =>
  bif (r2.1 == 0) then
    both (
      (spec_l1Rd_pick k r2.2 4).bind fun r3 =>
      (idx ([(-1), 1000000, 1000001, (IntKind.wrap .i64 (r1.Next + 1))] : List Int) r3.1).bind fun _ =>
      (([(-1), 1000000, 1000001, (IntKind.wrap .i64 (r1.Next + 1))] : List Int)[(Int.toNat r3.1)]?).bind fun y4 =>
      spec_l5Spoil_l20 k r3.2.b r3.2.p 0 (⟨#[]⟩ : ByteArray) y4 r1.Open ([] : List DHeld) ([] : List ByteArray) r1.Held r1.Ready
    ) (
      (spec_l1Rd_pick k r2.2 4).bind fun r5 =>
      (idx ([(-1), 1000000, 1000001, (IntKind.wrap .i64 (r1.Next + 1))] : List Int) r5.1).bind fun _ =>
      (([(-1), 1000000, 1000001, (IntKind.wrap .i64 (r1.Next + 1))] : List Int)[(Int.toNat r5.1)]?).bind fun y6 =>
      spec_l5Spoil_l20 k r5.2.b r5.2.p 0 (⟨#[]⟩ : ByteArray) y6 r1.Open ([] : List DHeld) ([] : List ByteArray) r1.Held r1.Ready
    )
  else
    bif (r2.1 == 1) then
      (spec_l1Rd_pick k r2.2 10).bind fun r7 =>
      (app 32 r1.Held ([(⟨(IntKind.wrap .i64 (r1.Next + r7.1)), (⟨(⟨#[]⟩ : ByteArray), false⟩ : DPart)⟩ : DHeld)] : List DHeld)).bind fun l8 =>
      spec_l5Spoil_l20 k r7.2.b r7.2.p 0 (⟨#[]⟩ : ByteArray) r1.Next r1.Open ([] : List DHeld) ([] : List ByteArray) l8 r1.Ready
    else
      bif (r2.1 == 2) then
        (spec_l1Rd_pick k r2.2 2).bind fun r9 =>
        (spec_l1Many k (⟨#[111]⟩ : ByteArray) (IntKind.wrap .i64 (200 + r9.1))).bind fun r10 =>
        spec_l5Spoil_l20 k r9.2.b r9.2.p 0 (⟨#[]⟩ : ByteArray) r1.Next r10 ([] : List DHeld) ([] : List ByteArray) r1.Held r1.Ready
      else
        bif (r2.1 == 3) then
          (spec_l1Rd_pick k r2.2 2).bind fun r11 =>
          (spec_l1Many k (⟨#[114]⟩ : ByteArray) (IntKind.wrap .i64 (200 + r11.1))).bind fun r12 =>
          (app 16 r1.Ready ([r12] : List ByteArray)).bind fun l13 =>
          spec_l5Spoil_l20 k r11.2.b r11.2.p 0 (⟨#[]⟩ : ByteArray) r1.Next r1.Open ([] : List DHeld) ([] : List ByteArray) r1.Held l13
        else
          bif (r2.1 == 4) then
            (spec_l1Rd_pick k r2.2 2).bind fun r14 =>
            spec_l5Spoil_l15 k (IntKind.wrap .i64 (4 + r14.1)) r14.2.b r14.2.p 0 (⟨#[]⟩ : ByteArray) r1.Next r1.Open ([] : List DHeld) ([] : List ByteArray) r1.Held r1.Ready
          else
            bif (r2.1 == 5) then
              bif (decide ((r1.Held.length : Int) > 0)) then
                (spec_l1Rd_pick k r2.2 2).bind fun r15 =>
                (spec_l1Many k (⟨#[104]⟩ : ByteArray) (IntKind.wrap .i64 (20 + r15.1))).bind fun r16 =>
                (idx r1.Held 0).bind fun _ =>
                (r1.Held[(Int.toNat 0)]?).bind fun y17 =>
                spec_l5Spoil_l20 k r15.2.b r15.2.p 0 (⟨#[]⟩ : ByteArray) r1.Next r1.Open ([] : List DHeld) ([] : List ByteArray) (r1.Held.set (Int.toNat 0) (⟨y17.Seq, (⟨r16, y17.Part.Last⟩ : DPart)⟩ : DHeld)) r1.Ready
              else
                spec_l5Spoil_l20 k r2.2.b r2.2.p 0 (⟨#[]⟩ : ByteArray) r1.Next r1.Open ([] : List DHeld) ([] : List ByteArray) r1.Held r1.Ready
            else
              bif (decide ((r1.Held.length : Int) > 0)) then
                (idx r1.Held 0).bind fun _ =>
                (r1.Held[(Int.toNat 0)]?).bind fun y18 =>
                (app 32 r1.Held ([y18] : List DHeld)).bind fun l19 =>
                spec_l5Spoil_l20 k r2.2.b r2.2.p 0 (⟨#[]⟩ : ByteArray) r1.Next r1.Open ([] : List DHeld) ([] : List ByteArray) l19 r1.Ready
              else
                spec_l5Spoil_l20 k r2.2.b r2.2.p 0 (⟨#[]⟩ : ByteArray) r1.Next r1.Open ([] : List DHeld) ([] : List ByteArray) r1.Held r1.Ready
noncomputable def spec_l5Any (k : Nat) (a0 : DL1Rd) : Option (DTake × DL1Rd) :=
  (spec_l5Draw k a0).bind fun r1 =>
  (spec_l1Rd_pick k r1.2 8).bind fun r2 =>
  bif (r2.1 == 0) then
    (spec_l5Spoil k r2.2 r1.1).bind fun r3 =>
    some (r3.1, r3.2)
  else
    some (r1.1, r2.2)
noncomputable def spec_l6Spoil_l20 : Nat → List Int → Int → Int → Bool → Int → Int → Int → Bool → Int → Int → ByteArray → Int → Bool → Int → Int → Int → Bool → Int → Int → ByteArray → List DItem → List DHeld → List ByteArray → List DItem → List DHeld → List ByteArray → Option (DEnd × DL1Rd)
  | 0, _, _, _, _, _, _, _, _, _, _, _, _, _, _, _, _, _, _, _, _, _, _, _, _, _, _ => none
  | k + 1, x0, x1, x2, x3, x4, x5, x6, x7, x8, x9, x10, x11, x12, x13, x14, x15, x16, x17, x18, x19, x20, x21, x22, x23, x24, x25 =>
    some ((⟨x11, x12, x13, x14, x15, x16, (⟨x17, x23⟩ : DSend), (⟨x18, x24, x19, x25⟩ : DTake)⟩ : DEnd), (⟨x0, x1⟩ : DL1Rd))
noncomputable def spec_l6Spoil (k : Nat) (a0 : DL1Rd) (a1 : DEnd) : Option (DEnd × DL1Rd) :=
  (spec_l6Copy k a1).bind fun r1 =>
  (spec_l1Rd_pick k a0 9).bind fun r2 =>
  bif (r2.1 == 0) then
    (spec_l1Rd_pick k r2.2 5).bind fun r3 =>
    spec_l6Spoil_l20 k r3.2.b r3.2.p 0 false 0 0 0 false 0 0 (⟨#[]⟩ : ByteArray) (IntKind.wrap .i64 (r3.1 - 1)) r1.Up r1.Life r1.Peer r1.Since r1.Owes r1.Send.Base r1.Take.Next r1.Take.Open ([] : List DItem) ([] : List DHeld) ([] : List ByteArray) r1.Send.Items r1.Take.Held r1.Take.Ready
  else
    bif (r2.1 == 1) then
      spec_l6Spoil_l20 k r2.2.b r2.2.p 0 false 0 0 0 false 0 0 (⟨#[]⟩ : ByteArray) r1.Number (!r1.Up) r1.Life r1.Peer r1.Since r1.Owes r1.Send.Base r1.Take.Next r1.Take.Open ([] : List DItem) ([] : List DHeld) ([] : List ByteArray) r1.Send.Items r1.Take.Held r1.Take.Ready
    else
      bif (r2.1 == 2) then
        (spec_l1Rd_pick k r2.2 3).bind fun r4 =>
        (idx ([0, 1000, 1001] : List Int) r4.1).bind fun y5 =>
        spec_l6Spoil_l20 k r4.2.b r4.2.p 0 false 0 0 0 false 0 0 (⟨#[]⟩ : ByteArray) r1.Number r1.Up y5 r1.Peer r1.Since r1.Owes r1.Send.Base r1.Take.Next r1.Take.Open ([] : List DItem) ([] : List DHeld) ([] : List ByteArray) r1.Send.Items r1.Take.Held r1.Take.Ready
      else
        bif (r2.1 == 3) then
          (spec_l1Rd_pick k r2.2 4).bind fun r6 =>
          (idx ([(-1), 0, 1000, 1001] : List Int) r6.1).bind fun y7 =>
          spec_l6Spoil_l20 k r6.2.b r6.2.p 0 false 0 0 0 false 0 0 (⟨#[]⟩ : ByteArray) r1.Number r1.Up r1.Life y7 r1.Since r1.Owes r1.Send.Base r1.Take.Next r1.Take.Open ([] : List DItem) ([] : List DHeld) ([] : List ByteArray) r1.Send.Items r1.Take.Held r1.Take.Ready
        else
          bif (r2.1 == 4) then
            (spec_l1Rd_pick k r2.2 3).bind fun r8 =>
            (idx ([(-1), 1000000, 1000001] : List Int) r8.1).bind fun y9 =>
            spec_l6Spoil_l20 k r8.2.b r8.2.p 0 false 0 0 0 false 0 0 (⟨#[]⟩ : ByteArray) r1.Number r1.Up r1.Life r1.Peer y9 r1.Owes r1.Send.Base r1.Take.Next r1.Take.Open ([] : List DItem) ([] : List DHeld) ([] : List ByteArray) r1.Send.Items r1.Take.Held r1.Take.Ready
          else
            bif (r2.1 == 5) then
              spec_l6Spoil_l20 k r2.2.b r2.2.p 0 false 0 0 0 false 0 0 (⟨#[]⟩ : ByteArray) r1.Number r1.Up r1.Life r1.Peer r1.Since (!r1.Owes) r1.Send.Base r1.Take.Next r1.Take.Open ([] : List DItem) ([] : List DHeld) ([] : List ByteArray) r1.Send.Items r1.Take.Held r1.Take.Ready
            else
              bif (r2.1 == 6) then
                (spec_l4Any k r2.2).bind fun r10 =>
                spec_l6Spoil_l20 k r10.2.b r10.2.p 0 false 0 0 0 false 0 0 (⟨#[]⟩ : ByteArray) r1.Number r1.Up r1.Life r1.Peer r1.Since r1.Owes r10.1.Base r1.Take.Next r1.Take.Open ([] : List DItem) ([] : List DHeld) ([] : List ByteArray) r10.1.Items r1.Take.Held r1.Take.Ready
              else
                bif (r2.1 == 7) then
                  (spec_l5Any k r2.2).bind fun r11 =>
                  spec_l6Spoil_l20 k r11.2.b r11.2.p 0 false 0 0 0 false 0 0 (⟨#[]⟩ : ByteArray) r1.Number r1.Up r1.Life r1.Peer r1.Since r1.Owes r1.Send.Base r11.1.Next r11.1.Open ([] : List DItem) ([] : List DHeld) ([] : List ByteArray) r1.Send.Items r11.1.Held r11.1.Ready
                else
                  (spec_l5Spoil k r2.2 r1.Take).bind fun r12 =>
                  spec_l6Spoil_l20 k r12.2.b r12.2.p 0 false 0 0 0 false 0 0 (⟨#[]⟩ : ByteArray) r1.Number r1.Up r1.Life r1.Peer r1.Since r1.Owes r1.Send.Base r12.1.Next r12.1.Open ([] : List DItem) ([] : List DHeld) ([] : List ByteArray) r1.Send.Items r12.1.Held r12.1.Ready
mutual
noncomputable def spec_l7Spoil_l20 : Nat → Int → List Int → Int → ByteArray → Int → ByteArray → ByteArray → Int → ByteArray → List DEnd → List DParcel → List DRecord → List DRecord → List DEnd → List DParcel → List DRecord → List DRecord → Option (DWorld × DL1Rd)
  | 0, _, _, _, _, _, _, _, _, _, _, _, _, _, _, _, _, _ => none
  | k + 1, x0, x1, x2, x3, x4, x5, x6, x7, x8, x9, x10, x11, x12, x13, x14, x15, x16 =>
    bif (decide ((x16.length : Int) < x0)) then
      (app 40 x16 ([(⟨1, 1, 1, (⟨#[]⟩ : ByteArray)⟩ : DRecord)] : List DRecord)).bind fun l24 =>
      spec_l7Spoil_l20 k x0 x1 x2 x3 x4 x5 x6 x7 x8 x9 x10 x11 x12 x13 x14 x15 l24
    else
      some ((⟨x6, x7, x13, x14, x8, x15, x16⟩ : DWorld), (⟨x1, x2⟩ : DL1Rd))
noncomputable def spec_l7Spoil_l4 : Nat → Int → List Int → Int → ByteArray → Int → ByteArray → ByteArray → Int → ByteArray → List DEnd → List DParcel → List DRecord → List DRecord → List DEnd → List DParcel → List DRecord → List DRecord → Option (DWorld × DL1Rd)
  | 0, _, _, _, _, _, _, _, _, _, _, _, _, _, _, _, _, _ => none
  | k + 1, x0, x1, x2, x3, x4, x5, x6, x7, x8, x9, x10, x11, x12, x13, x14, x15, x16 =>
    bif (decide ((x14.length : Int) < x0)) then
      (app 40 x14 ([(⟨1, (⟨#[]⟩ : ByteArray), (⟨#[]⟩ : ByteArray)⟩ : DParcel)] : List DParcel)).bind fun l25 =>
      spec_l7Spoil_l4 k x0 x1 x2 x3 x4 x5 x6 x7 x8 x9 x10 x11 x12 x13 l25 x15 x16
    else
      some ((⟨x6, x7, x13, x14, x8, x15, x16⟩ : DWorld), (⟨x1, x2⟩ : DL1Rd))
end
noncomputable def spec_l7Spoil (k : Nat) (a0 : DL1Rd) (a1 : DWorld) : Option (DWorld × DL1Rd) :=
  (spec_l7Copy k a1).bind fun r1 =>
  (spec_l1Rd_pick k a0 8).bind fun r2 =>
  bif (r2.1 == 0) then
    (spec_l1Rd_pick k r2.2 2).bind fun r3 =>
    (spec_l1Many k (⟨#[107]⟩ : ByteArray) (IntKind.wrap .i64 (30 + r3.1))).bind fun r4 =>
    some ((⟨r4, r1.Width, r1.Ends, r1.Flight, r1.Forged, r1.Given, r1.Taken⟩ : DWorld), r3.2)
  else
    bif (r2.1 == 1) then
      (spec_l1Rd_pick k r2.2 11).bind fun r5 =>
      some ((⟨r1.Key, (IntKind.wrap .i64 (r5.1 - 1)), r1.Ends, r1.Flight, r1.Forged, r1.Given, r1.Taken⟩ : DWorld), r5.2)
    else
      bif (r2.1 == 2) then
        (spec_l1Rd_pick k r2.2 2).bind fun r6 =>
        (idx r1.Ends 0).bind fun _ =>
        (r1.Ends[(Int.toNat 0)]?).bind fun y7 =>
        (spec_l6Spoil k r6.2 y7).bind fun r8 =>
        (idx r1.Ends r6.1).bind fun _ =>
        (r1.Ends[(Int.toNat r6.1)]?).bind fun y9 =>
        some ((⟨r1.Key, r1.Width, (r1.Ends.set (Int.toNat r6.1) r8.1), r1.Flight, r1.Forged, r1.Given, r1.Taken⟩ : DWorld), r8.2)
      else
        bif (r2.1 == 3) then
          (spec_l1Rd_pick k r2.2 2).bind fun r10 =>
          (wnd r1.Ends.length 0 r10.1).bind fun p11 =>
          some ((⟨r1.Key, r1.Width, (dcut r1.Ends p11.1 p11.2), r1.Flight, r1.Forged, r1.Given, r1.Taken⟩ : DWorld), r10.2)
        else
          bif (r2.1 == 4) then
            (spec_l1Rd_pick k r2.2 4).bind fun r12 =>
            (idx ([0, 1, 2, 3] : List Int) r12.1).bind fun y13 =>
            (spec_l1Rd_pick k r12.2 2).bind fun r14 =>
            (spec_l1Many k (⟨#[98]⟩ : ByteArray) (IntKind.wrap .i64 (100 + r14.1))).bind fun r15 =>
            (app 40 r1.Flight ([(⟨y13, (⟨#[]⟩ : ByteArray), r15⟩ : DParcel)] : List DParcel)).bind fun l16 =>
            some ((⟨r1.Key, r1.Width, r1.Ends, l16, r1.Forged, r1.Given, r1.Taken⟩ : DWorld), r14.2)
          else
            bif (r2.1 == 5) then
              (spec_l1Rd_pick k r2.2 4).bind fun r17 =>
              (spec_l1Rd_pick k r17.2 2).bind fun r18 =>
              (spec_l1Rd_pick k r18.2 2).bind fun r19 =>
              (spec_l1Many k (⟨#[103]⟩ : ByteArray) (IntKind.wrap .i64 (200 + r19.1))).bind fun r20 =>
              (app 40 r1.Given ([(⟨r17.1, 1, r18.1, r20⟩ : DRecord)] : List DRecord)).bind fun l21 =>
              some ((⟨r1.Key, r1.Width, r1.Ends, r1.Flight, r1.Forged, l21, r1.Taken⟩ : DWorld), r19.2)
            else
              bif (r2.1 == 6) then
                (spec_l1Rd_pick k r2.2 2).bind fun r22 =>
                spec_l7Spoil_l20 k (IntKind.wrap .i64 ((IntKind.wrap .i64 (400 + r22.1)) - (r1.Given.length : Int))) r22.2.b r22.2.p (⟨#[]⟩ : ByteArray) 0 (⟨#[]⟩ : ByteArray) r1.Key r1.Width r1.Forged ([] : List DEnd) ([] : List DParcel) ([] : List DRecord) ([] : List DRecord) r1.Ends r1.Flight r1.Given r1.Taken
              else
                (spec_l1Rd_pick k r2.2 2).bind fun r23 =>
                spec_l7Spoil_l4 k (IntKind.wrap .i64 (1000 + r23.1)) r23.2.b r23.2.p (⟨#[]⟩ : ByteArray) 0 (⟨#[]⟩ : ByteArray) r1.Key r1.Width r1.Forged ([] : List DEnd) ([] : List DParcel) ([] : List DRecord) ([] : List DRecord) r1.Ends r1.Flight r1.Given r1.Taken
mutual
noncomputable def spec_l7Any_l7 : Nat → Int → List Int → Int → ByteArray → Int → ByteArray → ByteArray → Int → ByteArray → List DEnd → List DParcel → List DRecord → List DRecord → List DEnd → List DParcel → List DRecord → List DRecord → Option (DWorld × DL1Rd)
  | 0, _, _, _, _, _, _, _, _, _, _, _, _, _, _, _, _, _ => none
  | k + 1, x0, x1, x2, x3, x4, x5, x6, x7, x8, x9, x10, x11, x12, x13, x14, x15, x16 =>
    bif (decide ((x14.length : Int) < x0)) then
      (spec_l1Rd_pick k (⟨x1, x2⟩ : DL1Rd) 2).bind fun r13 =>
      (app 40 x14 ([(⟨(IntKind.wrap .i64 (1 + r13.1)), (⟨#[120]⟩ : ByteArray), (⟨#[120]⟩ : ByteArray)⟩ : DParcel)] : List DParcel)).bind fun l14 =>
      spec_l7Any_l7 k x0 r13.2.b r13.2.p x3 x4 x5 x6 x7 x8 x9 x10 x11 x12 x13 l14 x15 x16
    else
      spec_l7Any_l20 k x1 x2 x3 x4 x5 x6 x7 x8 x9 x10 x11 x12 x13 x14 x15 x16
noncomputable def spec_l7Any_l11 : Nat → Int → List Int → Int → ByteArray → Int → ByteArray → ByteArray → Int → ByteArray → List DEnd → List DParcel → List DRecord → List DRecord → List DEnd → List DParcel → List DRecord → List DRecord → Option (DWorld × DL1Rd)
  | 0, _, _, _, _, _, _, _, _, _, _, _, _, _, _, _, _, _ => none
  | k + 1, x0, x1, x2, x3, x4, x5, x6, x7, x8, x9, x10, x11, x12, x13, x14, x15, x16 =>
    bif (decide ((x16.length : Int) < x0)) then
      (app 40 x16 ([(⟨1, 1, 1, (⟨#[]⟩ : ByteArray)⟩ : DRecord)] : List DRecord)).bind fun l15 =>
      spec_l7Any_l11 k x0 x1 x2 x3 x4 x5 x6 x7 x8 x9 x10 x11 x12 x13 x14 x15 l15
    else
      spec_l7Any_l20 k x1 x2 x3 x4 x5 x6 x7 x8 x9 x10 x11 x12 x13 x14 x15 x16
noncomputable def spec_l7Any_l18 : Nat → List Int → Int → ByteArray → Int → ByteArray → ByteArray → Int → ByteArray → List DEnd → List DParcel → List DRecord → List DRecord → List DEnd → List DParcel → List DRecord → List DRecord → Option (DWorld × DL1Rd)
  | 0, _, _, _, _, _, _, _, _, _, _, _, _, _, _, _, _ => none
  | k + 1, x0, x1, x2, x3, x4, x5, x6, x7, x8, x9, x10, x11, x12, x13, x14, x15 =>
    (spec_l1Rd_pick k (⟨x0, x1⟩ : DL1Rd) 2).bind fun r16 =>
    bif (r16.1 == 0) then
      spec_l7Any_l20 k r16.2.b r16.2.p x2 x3 x4 x5 x6 (⟨#[111, 110, 101, 32, 116, 104, 97, 116, 32, 99, 97, 109, 101, 32, 98, 101, 102, 111, 114, 101]⟩ : ByteArray) x8 x9 x10 x11 x12 x13 x14 x15
    else
      spec_l7Any_l20 k r16.2.b r16.2.p x2 x3 x4 x5 x6 x7 x8 x9 x10 x11 x12 x13 x14 x15
noncomputable def spec_l7Any_l20 : Nat → List Int → Int → ByteArray → Int → ByteArray → ByteArray → Int → ByteArray → List DEnd → List DParcel → List DRecord → List DRecord → List DEnd → List DParcel → List DRecord → List DRecord → Option (DWorld × DL1Rd)
  | 0, _, _, _, _, _, _, _, _, _, _, _, _, _, _, _, _ => none
  | k + 1, x0, x1, x2, x3, x4, x5, x6, x7, x8, x9, x10, x11, x12, x13, x14, x15 =>
    some ((⟨x5, x6, x12, x13, x7, x14, x15⟩ : DWorld), (⟨x0, x1⟩ : DL1Rd))
end
noncomputable def spec_l7Any (k : Nat) (a0 : DL1Rd) : Option (DWorld × DL1Rd) :=
  (spec_l7Reached k a0).bind fun r1 =>
  (spec_l1Rd_pick k r1.2 14).bind fun r2 =>
  bif (r2.1 == 0) then
    (spec_l7Spoil k r2.2 r1.1).bind fun r3 =>
    some (r3.1, r3.2)
  else
    bif (r2.1 == 1) then
      (spec_l1Rd_pick k r2.2 3).bind fun r4 =>
      spec_l7Any_l7 k (IntKind.wrap .i64 (1000 - r4.1)) r4.2.b r4.2.p (⟨#[]⟩ : ByteArray) 0 (⟨#[]⟩ : ByteArray) r1.1.Key r1.1.Width r1.1.Forged ([] : List DEnd) ([] : List DParcel) ([] : List DRecord) ([] : List DRecord) r1.1.Ends r1.1.Flight r1.1.Given r1.1.Taken
    else
      bif (r2.1 == 2) then
        (spec_l1Rd_pick k r2.2 2).bind fun r5 =>
        spec_l7Any_l11 k (IntKind.wrap .i64 ((IntKind.wrap .i64 (400 - r5.1)) - (r1.1.Given.length : Int))) r5.2.b r5.2.p (⟨#[]⟩ : ByteArray) 0 (⟨#[]⟩ : ByteArray) r1.1.Key r1.1.Width r1.1.Forged ([] : List DEnd) ([] : List DParcel) ([] : List DRecord) ([] : List DRecord) r1.1.Ends r1.1.Flight r1.1.Given r1.1.Taken
      else
        bif (r2.1 == 3) then
          (spec_l1Rd_pick k r2.2 2).bind fun r6 =>
          (idx r1.1.Ends (IntKind.wrap .i64 (2 - (IntKind.wrap .i64 (1 + r6.1))))).bind fun _ =>
          (r1.1.Ends[(Int.toNat (IntKind.wrap .i64 (2 - (IntKind.wrap .i64 (1 + r6.1)))))]?).bind fun y7 =>
          (idx r1.1.Ends (IntKind.wrap .i64 ((IntKind.wrap .i64 (1 + r6.1)) - 1))).bind fun _ =>
          (r1.1.Ends[(Int.toNat (IntKind.wrap .i64 ((IntKind.wrap .i64 (1 + r6.1)) - 1)))]?).bind fun y8 =>
          (idx r1.1.Ends (IntKind.wrap .i64 ((IntKind.wrap .i64 (1 + r6.1)) - 1))).bind fun _ =>
          (r1.1.Ends[(Int.toNat (IntKind.wrap .i64 ((IntKind.wrap .i64 (1 + r6.1)) - 1)))]?).bind fun y9 =>
          (idx r1.1.Ends (IntKind.wrap .i64 ((IntKind.wrap .i64 (1 + r6.1)) - 1))).bind fun _ =>
          (r1.1.Ends[(Int.toNat (IntKind.wrap .i64 ((IntKind.wrap .i64 (1 + r6.1)) - 1)))]?).bind fun y10 =>
          bif (decide (y10.Life > 0)) then
            (spec_FormPacket k (⟨2, (IntKind.wrap .i64 (3 - (IntKind.wrap .i64 (1 + r6.1)))), y7.Life, y8.Life, 0, 0, y9.Take.Next, true, (⟨#[109, 97, 100, 101, 32, 117, 112]⟩ : ByteArray)⟩ : DPacket) r1.1.Key r1.1.Width).bind fun r11 =>
            (app 40 ([(⟨(IntKind.wrap .i64 (1 + r6.1)), (⟨#[119, 97, 115]⟩ : ByteArray), r11⟩ : DParcel)] : List DParcel) r1.1.Flight).bind fun l12 =>
            spec_l7Any_l18 k r6.2.b r6.2.p (⟨#[]⟩ : ByteArray) 0 (⟨#[]⟩ : ByteArray) r1.1.Key r1.1.Width r1.1.Forged ([] : List DEnd) ([] : List DParcel) ([] : List DRecord) ([] : List DRecord) r1.1.Ends l12 r1.1.Given r1.1.Taken
          else
            spec_l7Any_l18 k r6.2.b r6.2.p (⟨#[]⟩ : ByteArray) 0 (⟨#[]⟩ : ByteArray) r1.1.Key r1.1.Width r1.1.Forged ([] : List DEnd) ([] : List DParcel) ([] : List DRecord) ([] : List DRecord) r1.1.Ends r1.1.Flight r1.1.Given r1.1.Taken
        else
          spec_l7Any_l20 k r2.2.b r2.2.p (⟨#[]⟩ : ByteArray) 0 (⟨#[]⟩ : ByteArray) r1.1.Key r1.1.Width r1.1.Forged ([] : List DEnd) ([] : List DParcel) ([] : List DRecord) ([] : List DRecord) r1.1.Ends r1.1.Flight r1.1.Given r1.1.Taken
mutual
noncomputable def spec_DrawRight_l5 : Nat → ByteArray → Int → ByteArray → List Int → Int → ByteArray → Int → ByteArray → List DEnd → List DParcel → List DRecord → List DRecord → List DEnd → List DParcel → List DRecord → List DRecord → Option (DWorld)
  | 0, _, _, _, _, _, _, _, _, _, _, _, _, _, _, _, _ => none
  | k + 1, x0, x1, x2, x3, x4, x5, x6, x7, x8, x9, x10, x11, x12, x13, x14, x15 =>
    bif (decide ((x15.length : Int) > 0)) then
      (spec_l1Rd_pick k (⟨x3, x4⟩ : DL1Rd) (x15.length : Int)).bind fun r5 =>
      (spec_l1Rd_pick k r5.2 5).bind fun r6 =>
      bif (r6.1 == 0) then
        (idx x15 r5.1).bind fun _ =>
        (x15[(Int.toNat r5.1)]?).bind fun y7 =>
        (sadd y7.Text (⟨#[120]⟩ : ByteArray)).bind fun t8 =>
        (idx x15 r5.1).bind fun _ =>
        (x15[(Int.toNat r5.1)]?).bind fun y9 =>
        spec_DrawRight_l14 k x0 x1 x2 x5 x6 x7 x8 x9 x10 x11 x12 x13 x14 (x15.set (Int.toNat r5.1) (⟨y9.From, y9.A, y9.B, t8⟩ : DRecord))
      else
        bif (r6.1 == 1) then
          (wnd x15.length 0 r5.1).bind fun p10 =>
          (app 40 ([] : List DRecord) (dcut x15 p10.1 p10.2)).bind fun l11 =>
          (wnd x15.length (IntKind.wrap .i64 (r5.1 + 1)) (x15.length : Int)).bind fun p12 =>
          (app 40 l11 (dcut x15 p12.1 p12.2)).bind fun l13 =>
          spec_DrawRight_l14 k x0 x1 x2 x5 x6 x7 x8 x9 x10 x11 x12 x13 x14 l13
        else
          bif (r6.1 == 2) then
            (idx x15 r5.1).bind fun _ =>
            (x15[(Int.toNat r5.1)]?).bind fun y14 =>
            (idx x15 r5.1).bind fun _ =>
            (x15[(Int.toNat r5.1)]?).bind fun y15 =>
            spec_DrawRight_l14 k x0 x1 x2 x5 x6 x7 x8 x9 x10 x11 x12 x13 x14 (x15.set (Int.toNat r5.1) (⟨y15.From, (IntKind.wrap .i64 (y14.A + 1)), y15.B, y15.Text⟩ : DRecord))
          else
            spec_DrawRight_l14 k x0 x1 x2 x5 x6 x7 x8 x9 x10 x11 x12 x13 x14 x15
    else
      spec_DrawRight_l14 k x0 x1 x2 x5 x6 x7 x8 x9 x10 x11 x12 x13 x14 x15
noncomputable def spec_DrawRight_l14 : Nat → ByteArray → Int → ByteArray → ByteArray → Int → ByteArray → List DEnd → List DParcel → List DRecord → List DRecord → List DEnd → List DParcel → List DRecord → List DRecord → Option (DWorld)
  | 0, _, _, _, _, _, _, _, _, _, _, _, _, _, _ => none
  | k + 1, x0, x1, x2, x3, x4, x5, x6, x7, x8, x9, x10, x11, x12, x13 =>
    some (⟨x3, x4, x10, x11, x5, x12, x13⟩ : DWorld)
end
noncomputable def spec_DrawRight (k : Nat) (a0 : List Int) : Option (DWorld) :=
  (spec_l1Open k a0).bind fun r1 =>
  (spec_l7Any k r1).bind fun r2 =>
  (spec_ValidWorld k r2.1).bind fun r3 =>
  bif r3 then
    bif (decide ((r2.1.Taken.length : Int) < 100)) then
      (spec_Calm k r2.1 12 1).bind fun r4 =>
      spec_DrawRight_l5 k (⟨#[]⟩ : ByteArray) 0 (⟨#[]⟩ : ByteArray) r2.2.b r2.2.p r4.Key r4.Width r4.Forged ([] : List DEnd) ([] : List DParcel) ([] : List DRecord) ([] : List DRecord) r4.Ends r4.Flight r4.Given r4.Taken
    else
      spec_DrawRight_l5 k (⟨#[]⟩ : ByteArray) 0 (⟨#[]⟩ : ByteArray) r2.2.b r2.2.p r2.1.Key r2.1.Width r2.1.Forged ([] : List DEnd) ([] : List DParcel) ([] : List DRecord) ([] : List DRecord) r2.1.Ends r2.1.Flight r2.1.Given r2.1.Taken
  else
    spec_DrawRight_l5 k (⟨#[]⟩ : ByteArray) 0 (⟨#[]⟩ : ByteArray) r2.2.b r2.2.p r2.1.Key r2.1.Width r2.1.Forged ([] : List DEnd) ([] : List DParcel) ([] : List DRecord) ([] : List DRecord) r2.1.Ends r2.1.Flight r2.1.Given r2.1.Taken
noncomputable def spec_DrawReached (k : Nat) (a0 : List Int) : Option (DWorld) :=
  (spec_l1Open k a0).bind fun r1 =>
  (spec_l7Reached k r1).bind fun r2 =>
  some r2.1
noncomputable def spec_l6Any_l9 : Nat → List Int → Int → Int → Bool → Int → Int → Int → Bool → Int → Int → ByteArray → Int → Bool → Int → Int → Int → Bool → Int → List DItem → Int → List DHeld → ByteArray → List ByteArray → List DItem → List DHeld → List ByteArray → Option (DEnd × DL1Rd)
  | 0, _, _, _, _, _, _, _, _, _, _, _, _, _, _, _, _, _, _, _, _, _, _, _, _, _, _ => none
  | k + 1, x0, x1, x2, x3, x4, x5, x6, x7, x8, x9, x10, x11, x12, x13, x14, x15, x16, x17, x18, x19, x20, x21, x22, x23, x24, x25 =>
    some ((⟨x11, x12, x13, x14, x15, x16, (⟨x17, x18⟩ : DSend), (⟨x19, x20, x21, x22⟩ : DTake)⟩ : DEnd), (⟨x0, x1⟩ : DL1Rd))
noncomputable def spec_l6Any (k : Nat) (a0 : DL1Rd) : Option (DEnd × DL1Rd) :=
  (spec_l7Reached k a0).bind fun r1 =>
  (spec_l1Rd_pick k r1.2 2).bind fun r2 =>
  (idx r1.1.Ends r2.1).bind fun _ =>
  (r1.1.Ends[(Int.toNat r2.1)]?).bind fun y3 =>
  (spec_l1Rd_pick k r2.2 8).bind fun r4 =>
  bif (r4.1 == 0) then
    (spec_l6Spoil k r4.2 y3).bind fun r5 =>
    some (r5.1, r5.2)
  else
    bif (r4.1 == 1) then
      (spec_l1Rd_pick k r4.2 2).bind fun r6 =>
      bif y3.Up then
        (spec_l1Rd_pick k r6.2 3).bind fun r7 =>
        (idx ([1000000, 999999, 5] : List Int) r7.1).bind fun y8 =>
        spec_l6Any_l9 k r7.2.b r7.2.p 0 false 0 0 0 false 0 0 (⟨#[]⟩ : ByteArray) y3.Number y3.Up (IntKind.wrap .i64 (1000 - r6.1)) y3.Peer y8 y3.Owes y3.Send.Base y3.Send.Items y3.Take.Next y3.Take.Held y3.Take.Open y3.Take.Ready ([] : List DItem) ([] : List DHeld) ([] : List ByteArray)
      else
        spec_l6Any_l9 k r6.2.b r6.2.p 0 false 0 0 0 false 0 0 (⟨#[]⟩ : ByteArray) y3.Number y3.Up (IntKind.wrap .i64 (1000 - r6.1)) y3.Peer y3.Since y3.Owes y3.Send.Base y3.Send.Items y3.Take.Next y3.Take.Held y3.Take.Open y3.Take.Ready ([] : List DItem) ([] : List DHeld) ([] : List ByteArray)
    else
      spec_l6Any_l9 k r4.2.b r4.2.p 0 false 0 0 0 false 0 0 (⟨#[]⟩ : ByteArray) y3.Number y3.Up y3.Life y3.Peer y3.Since y3.Owes y3.Send.Base y3.Send.Items y3.Take.Next y3.Take.Held y3.Take.Open y3.Take.Ready ([] : List DItem) ([] : List DHeld) ([] : List ByteArray)
mutual
noncomputable def spec_DrawEndTake_l10 : Nat → Int → Bool → Int → Int → Int → Bool → Int → Int → ByteArray → Int → Int → Int → Int → Int → Int → Int → Bool → ByteArray → List Int → Int → Int → Bool → Int → Int → Int → Bool → Int → List DItem → Int → List DHeld → ByteArray → List ByteArray → Int → Int → Int → Int → Int → Int → Int → Bool → ByteArray → List DItem → List DHeld → List ByteArray → Option (DEnd × DPacket)
  | 0, _, _, _, _, _, _, _, _, _, _, _, _, _, _, _, _, _, _, _, _, _, _, _, _, _, _, _, _, _, _, _, _, _, _, _, _, _, _, _, _, _, _, _, _ => none
  | k + 1, x0, x1, x2, x3, x4, x5, x6, x7, x8, x9, x10, x11, x12, x13, x14, x15, x16, x17, x18, x19, x20, x21, x22, x23, x24, x25, x26, x27, x28, x29, x30, x31, x32, x33, x34, x35, x36, x37, x38, x39, x40, x41, x42, x43 =>
    bif (x32 == 1) then
      (spec_l1Rd_pick k (⟨x18, x19⟩ : DL1Rd) 4).bind fun r8 =>
      (spec_l1Rd_pick k r8.2 256).bind fun r9 =>
      spec_DrawEndTake_l14 k x0 x1 x2 x3 x4 x5 x6 x7 x8 x9 x10 x11 x12 x13 x14 x15 x16 x17 r9.2.b r9.2.p x20 x21 x22 x23 x24 x25 x26 x27 x28 x29 x30 x31 x32 x33 x34 x35 (IntKind.wrap .i64 (x26 + r8.1)) r9.1 x38 x39 x40 x41 x42 x43
    else
      (spec_l1Rd_pick k (⟨x18, x19⟩ : DL1Rd) 9).bind fun r10 =>
      spec_DrawEndTake_l14 k x0 x1 x2 x3 x4 x5 x6 x7 x8 x9 x10 x11 x12 x13 x14 x15 x16 x17 r10.2.b r10.2.p x20 x21 x22 x23 x24 x25 x26 x27 x28 x29 x30 x31 x32 x33 x34 x35 x36 x37 (IntKind.wrap .i64 (x28 + r10.1)) x39 x40 x41 x42 x43
noncomputable def spec_DrawEndTake_l14 : Nat → Int → Bool → Int → Int → Int → Bool → Int → Int → ByteArray → Int → Int → Int → Int → Int → Int → Int → Bool → ByteArray → List Int → Int → Int → Bool → Int → Int → Int → Bool → Int → List DItem → Int → List DHeld → ByteArray → List ByteArray → Int → Int → Int → Int → Int → Int → Int → Bool → ByteArray → List DItem → List DHeld → List ByteArray → Option (DEnd × DPacket)
  | 0, _, _, _, _, _, _, _, _, _, _, _, _, _, _, _, _, _, _, _, _, _, _, _, _, _, _, _, _, _, _, _, _, _, _, _, _, _, _, _, _, _, _, _, _ => none
  | k + 1, x0, x1, x2, x3, x4, x5, x6, x7, x8, x9, x10, x11, x12, x13, x14, x15, x16, x17, x18, x19, x20, x21, x22, x23, x24, x25, x26, x27, x28, x29, x30, x31, x32, x33, x34, x35, x36, x37, x38, x39, x40, x41, x42, x43 =>
    (spec_l1Rd_pick k (⟨x18, x19⟩ : DL1Rd) 10).bind fun r11 =>
    bif (r11.1 == 0) then
      (spec_l2Spoil k r11.2 (⟨x32, x33, x34, x35, x36, x37, x38, x39, x40⟩ : DPacket)).bind fun r12 =>
      spec_DrawEndTake_l16 k x0 x1 x2 x3 x4 x5 x6 x7 x8 x9 x10 x11 x12 x13 x14 x15 x16 x17 x20 x21 x22 x23 x24 x25 x26 x27 x28 x29 x30 x31 r12.1.Kind r12.1.From r12.1.Mine r12.1.Yours r12.1.Next r12.1.Mask r12.1.Seq r12.1.Last r12.1.Part x41 x42 x43
    else
      spec_DrawEndTake_l16 k x0 x1 x2 x3 x4 x5 x6 x7 x8 x9 x10 x11 x12 x13 x14 x15 x16 x17 x20 x21 x22 x23 x24 x25 x26 x27 x28 x29 x30 x31 x32 x33 x34 x35 x36 x37 x38 x39 x40 x41 x42 x43
noncomputable def spec_DrawEndTake_l16 : Nat → Int → Bool → Int → Int → Int → Bool → Int → Int → ByteArray → Int → Int → Int → Int → Int → Int → Int → Bool → ByteArray → Int → Bool → Int → Int → Int → Bool → Int → List DItem → Int → List DHeld → ByteArray → List ByteArray → Int → Int → Int → Int → Int → Int → Int → Bool → ByteArray → List DItem → List DHeld → List ByteArray → Option (DEnd × DPacket)
  | 0, _, _, _, _, _, _, _, _, _, _, _, _, _, _, _, _, _, _, _, _, _, _, _, _, _, _, _, _, _, _, _, _, _, _, _, _, _, _, _, _, _, _ => none
  | k + 1, x0, x1, x2, x3, x4, x5, x6, x7, x8, x9, x10, x11, x12, x13, x14, x15, x16, x17, x18, x19, x20, x21, x22, x23, x24, x25, x26, x27, x28, x29, x30, x31, x32, x33, x34, x35, x36, x37, x38, x39, x40, x41 =>
    some ((⟨x18, x19, x20, x21, x22, x23, (⟨x24, x25⟩ : DSend), (⟨x26, x27, x28, x29⟩ : DTake)⟩ : DEnd), (⟨x30, x31, x32, x33, x34, x35, x36, x37, x38⟩ : DPacket))
end
noncomputable def spec_DrawEndTake (k : Nat) (a0 : List Int) : Option (DEnd × DPacket) :=
  (spec_l1Open k a0).bind fun r1 =>
  (spec_l6Any k r1).bind fun r2 =>
  (spec_l2Draw k r2.2).bind fun r3 =>
  (spec_l1Rd_pick k r3.2 5).bind fun r4 =>
  bif (decide (r4.1 > 0)) then
    (spec_l1Rd_pick k r4.2 5).bind fun r5 =>
    (idx ([0, 0, 0, 1, (-1)] : List Int) r5.1).bind fun y6 =>
    (spec_l1Rd_pick k r5.2 6).bind fun r7 =>
    bif (r7.1 == 0) then
      spec_DrawEndTake_l10 k 0 false 0 0 0 false 0 0 (⟨#[]⟩ : ByteArray) 0 0 0 0 0 0 0 false (⟨#[]⟩ : ByteArray) r7.2.b r7.2.p r2.1.Number r2.1.Up r2.1.Life r2.1.Peer r2.1.Since r2.1.Owes r2.1.Send.Base r2.1.Send.Items r2.1.Take.Next r2.1.Take.Held r2.1.Take.Open r2.1.Take.Ready r3.1.Kind (IntKind.wrap .i64 (3 - r2.1.Number)) (IntKind.wrap .i64 (r2.1.Peer + y6)) (IntKind.wrap .i64 (r2.1.Life - 1)) r3.1.Next r3.1.Mask r3.1.Seq r3.1.Last r3.1.Part ([] : List DItem) ([] : List DHeld) ([] : List ByteArray)
    else
      spec_DrawEndTake_l10 k 0 false 0 0 0 false 0 0 (⟨#[]⟩ : ByteArray) 0 0 0 0 0 0 0 false (⟨#[]⟩ : ByteArray) r7.2.b r7.2.p r2.1.Number r2.1.Up r2.1.Life r2.1.Peer r2.1.Since r2.1.Owes r2.1.Send.Base r2.1.Send.Items r2.1.Take.Next r2.1.Take.Held r2.1.Take.Open r2.1.Take.Ready r3.1.Kind (IntKind.wrap .i64 (3 - r2.1.Number)) (IntKind.wrap .i64 (r2.1.Peer + y6)) r2.1.Life r3.1.Next r3.1.Mask r3.1.Seq r3.1.Last r3.1.Part ([] : List DItem) ([] : List DHeld) ([] : List ByteArray)
  else
    spec_DrawEndTake_l14 k 0 false 0 0 0 false 0 0 (⟨#[]⟩ : ByteArray) 0 0 0 0 0 0 0 false (⟨#[]⟩ : ByteArray) r4.2.b r4.2.p r2.1.Number r2.1.Up r2.1.Life r2.1.Peer r2.1.Since r2.1.Owes r2.1.Send.Base r2.1.Send.Items r2.1.Take.Next r2.1.Take.Held r2.1.Take.Open r2.1.Take.Ready r3.1.Kind r3.1.From r3.1.Mine r3.1.Yours r3.1.Next r3.1.Mask r3.1.Seq r3.1.Last r3.1.Part ([] : List DItem) ([] : List DHeld) ([] : List ByteArray)
noncomputable def spec_DrawEndPush (k : Nat) (a0 : List Int) : Option (DEnd × ByteArray) :=
  (spec_l1Open k a0).bind fun r1 =>
  (spec_l6Any k r1).bind fun r2 =>
  (spec_l1Rd_pick k r2.2 10).bind fun r3 =>
  bif (r3.1 == 0) then
    (spec_l1Rd_pick k r3.2 2).bind fun r4 =>
    (spec_l1Many k (⟨#[109]⟩ : ByteArray) (IntKind.wrap .i64 (200 + r4.1))).bind fun r5 =>
    some (r2.1, r5)
  else
    (spec_l1Message k r3.2).bind fun r6 =>
    some (r2.1, r6.1)
noncomputable def spec_DrawCalm_l6 : Nat → Int → ByteArray → Int → ByteArray → List Int → Int → ByteArray → Int → ByteArray → List DEnd → List DParcel → List DRecord → List DRecord → List DEnd → List DParcel → List DRecord → List DRecord → Option (DWorld × Int × Int)
  | 0, _, _, _, _, _, _, _, _, _, _, _, _, _, _, _, _, _ => none
  | k + 1, x0, x1, x2, x3, x4, x5, x6, x7, x8, x9, x10, x11, x12, x13, x14, x15, x16 =>
    (spec_l1Rd_pick k (⟨x4, x5⟩ : DL1Rd) 40).bind fun r7 =>
    some ((⟨x6, x7, x13, x14, x8, x15, x16⟩ : DWorld), (IntKind.wrap .i64 (r7.1 - 1)), x0)
noncomputable def spec_DrawCalm (k : Nat) (a0 : List Int) : Option (DWorld × Int × Int) :=
  (spec_l1Open k a0).bind fun r1 =>
  (spec_l7Any k r1).bind fun r2 =>
  (spec_l1Rd_pick k r2.2 4).bind fun r3 =>
  (spec_l1Rd_pick k r3.2 12).bind fun r4 =>
  bif (r4.1 == 0) then
    (spec_l1Rd_pick k r4.2 4).bind fun r5 =>
    (idx ([0, 11, 10, (-1)] : List Int) r5.1).bind fun y6 =>
    spec_DrawCalm_l6 k y6 (⟨#[]⟩ : ByteArray) 0 (⟨#[]⟩ : ByteArray) r5.2.b r5.2.p r2.1.Key r2.1.Width r2.1.Forged ([] : List DEnd) ([] : List DParcel) ([] : List DRecord) ([] : List DRecord) r2.1.Ends r2.1.Flight r2.1.Given r2.1.Taken
  else
    spec_DrawCalm_l6 k (IntKind.wrap .i64 (1 + r3.1)) (⟨#[]⟩ : ByteArray) 0 (⟨#[]⟩ : ByteArray) r4.2.b r4.2.p r2.1.Key r2.1.Width r2.1.Forged ([] : List DEnd) ([] : List DParcel) ([] : List DRecord) ([] : List DRecord) r2.1.Ends r2.1.Flight r2.1.Given r2.1.Taken
noncomputable def spec_DrawDo_l11 : Nat → ByteArray → Int → ByteArray → Int → Int → Int → Int → ByteArray → ByteArray → Int → ByteArray → Int → Int → Int → Int → ByteArray → List DEnd → List DParcel → List DRecord → List DRecord → List DEnd → List DParcel → List DRecord → List DRecord → Option (DWorld × DEvent)
  | 0, _, _, _, _, _, _, _, _, _, _, _, _, _, _, _, _, _, _, _, _, _, _, _, _ => none
  | k + 1, x0, x1, x2, x3, x4, x5, x6, x7, x8, x9, x10, x11, x12, x13, x14, x15, x16, x17, x18, x19, x20, x21, x22, x23 =>
    some ((⟨x8, x9, x20, x21, x10, x22, x23⟩ : DWorld), (⟨x11, x12, x13, x14, x15⟩ : DEvent))
noncomputable def spec_DrawDo (k : Nat) (a0 : List Int) : Option (DWorld × DEvent) :=
  (spec_l1Open k a0).bind fun r1 =>
  (spec_l7Any k r1).bind fun r2 =>
  (spec_l7Event k r2.2).bind fun r3 =>
  (spec_l1Rd_pick k r3.2 16).bind fun r4 =>
  bif (r4.1 == 0) then
    (spec_l1Rd_pick k r4.2 14).bind fun r5 =>
    spec_DrawDo_l11 k (⟨#[]⟩ : ByteArray) 0 (⟨#[]⟩ : ByteArray) 0 0 0 0 (⟨#[]⟩ : ByteArray) r2.1.Key r2.1.Width r2.1.Forged (IntKind.wrap .i64 (r5.1 - 1)) r3.1.A r3.1.B r3.1.C r3.1.Text ([] : List DEnd) ([] : List DParcel) ([] : List DRecord) ([] : List DRecord) r2.1.Ends r2.1.Flight r2.1.Given r2.1.Taken
  else
    bif (r4.1 == 1) then
      (spec_l1Rd_pick k r4.2 3).bind fun r6 =>
      (idx ([(-1), 0, 3] : List Int) r6.1).bind fun y7 =>
      spec_DrawDo_l11 k (⟨#[]⟩ : ByteArray) 0 (⟨#[]⟩ : ByteArray) 0 0 0 0 (⟨#[]⟩ : ByteArray) r2.1.Key r2.1.Width r2.1.Forged r3.1.Kind y7 r3.1.B r3.1.C r3.1.Text ([] : List DEnd) ([] : List DParcel) ([] : List DRecord) ([] : List DRecord) r2.1.Ends r2.1.Flight r2.1.Given r2.1.Taken
    else
      bif (r4.1 == 2) then
        (spec_l1Many k (⟨#[109]⟩ : ByteArray) 201).bind fun r8 =>
        spec_DrawDo_l11 k (⟨#[]⟩ : ByteArray) 0 (⟨#[]⟩ : ByteArray) 0 0 0 0 (⟨#[]⟩ : ByteArray) r2.1.Key r2.1.Width r2.1.Forged r3.1.Kind r3.1.A r3.1.B r3.1.C r8 ([] : List DEnd) ([] : List DParcel) ([] : List DRecord) ([] : List DRecord) r2.1.Ends r2.1.Flight r2.1.Given r2.1.Taken
      else
        spec_DrawDo_l11 k (⟨#[]⟩ : ByteArray) 0 (⟨#[]⟩ : ByteArray) 0 0 0 0 (⟨#[]⟩ : ByteArray) r2.1.Key r2.1.Width r2.1.Forged r3.1.Kind r3.1.A r3.1.B r3.1.C r3.1.Text ([] : List DEnd) ([] : List DParcel) ([] : List DRecord) ([] : List DRecord) r2.1.Ends r2.1.Flight r2.1.Given r2.1.Taken
end Km.X
namespace Km.X
open Go Km
set_option linter.unusedVariables false
set_option maxRecDepth 100000
noncomputable def laws_FnExactReadPacket (k : Nat) (a0 : ByteArray) (a1 : ByteArray) (a2 : Int) : Option (Bool) :=
  bif (decide ((a0.size : Int) > 1048576)) then
    some true
  else
    bif (decide ((a1.size : Int) > 1048576)) then
      some true
    else
      (spec_ReadPacket k a0 a1 a2).bind fun r1 =>
      (impl_ReadPacket k a0 a1 a2).bind fun r2 =>
      (laws_eqPacket k r2.1 r1.1).bind fun r3 =>
      bif (!r3) then
        some false
      else
        bif (!(r2.2 == r1.2)) then
          some false
        else
          some true
end Km.X
namespace Km.X
open Go Km
set_option linter.unusedVariables false
set_option maxRecDepth 100000
noncomputable def laws_FnExactFormPacket (k : Nat) (a0 : DPacket) (a1 : ByteArray) (a2 : Int) : Option (Bool) :=
  bif (decide ((a1.size : Int) > 1048576)) then
    some true
  else
    (laws_szPacket k a0 1048576).bind fun r1 =>
    bif (decide (r1 < 0)) then
      some true
    else
      (laws_toPacket k a0).bind fun r2 =>
      (spec_FormPacket k r2 a1 a2).bind fun r3 =>
      (laws_toPacket k a0).bind fun r4 =>
      (impl_FormPacket k r4 a1 a2).bind fun r5 =>
      bif (!(r5.toList == r3.toList)) then
        some false
      else
        some true
end Km.X
namespace Km.X
open Go Km
set_option linter.unusedVariables false
set_option maxRecDepth 100000
noncomputable def laws_FnPackets_l13 : Nat → List Int → Option (Bool)
  | 0, _ => none
  | k + 1, x0 =>
    (spec_DrawReadPacket k x0).bind fun r12 =>
    (impl_ReadPacket k r12.1 r12.2.1 r12.2.2).bind fun r13 =>
    (spec_ReadPacket k r12.1 r12.2.1 r12.2.2).bind fun r14 =>
    bif (r13.2 == r14.2) then
      bif (!r13.2) then
        some true
      else
        (impl_FormPacket k r13.1 r12.2.1 r12.2.2).bind fun r15 =>
        some (r15.toList == r12.1.toList)
    else
      some false
noncomputable def laws_FnPackets (k : Nat) (a0 : List Int) : Option (Bool) :=
  bif (decide ((a0.length : Int) > 1048576)) then
    some true
  else
    (spec_DrawFormPacket k a0).bind fun r1 =>
    (impl_FormPacket k r1.1 r1.2.1 r1.2.2).bind fun r2 =>
    (spec_FormPacket k r1.1 r1.2.1 r1.2.2).bind fun r3 =>
    bif (!(r2.toList == r3.toList)) then
      some false
    else
      bif (!(r2.toList == (⟨#[]⟩ : ByteArray).toList)) then
        (impl_ReadPacket k r2 r1.2.1 r1.2.2).bind fun r4 =>
        (sadd r1.2.1 (⟨#[122]⟩ : ByteArray)).bind fun t5 =>
        (impl_ReadPacket k r2 t5 r1.2.2).bind fun r6 =>
        (sadd r1.2.1 (⟨#[122]⟩ : ByteArray)).bind fun t7 =>
        (spec_ReadPacket k r2 t7 r1.2.2).bind fun r8 =>
        bif (!r4.2) then
          some false
        else
          bif (!(((r4.1.Kind : Int) == r1.1.Kind) && (((r4.1.From : Int) == r1.1.From) && (((r4.1.Mine : Int) == r1.1.Mine) && (((r4.1.Yours : Int) == r1.1.Yours) && (((r4.1.Next : Int) == r1.1.Next) && (((r4.1.Mask : Int) == r1.1.Mask) && (((r4.1.Seq : Int) == r1.1.Seq) && ((r4.1.Last == r1.1.Last) && ((r4.1.Part.toList == r1.1.Part.toList) && true)))))))))) then
            some false
          else
            bif (!(r6.2 == r8.2)) then
              some false
            else
              bif (!(((r6.1.Kind : Int) == r8.1.Kind) && (((r6.1.From : Int) == r8.1.From) && (((r6.1.Mine : Int) == r8.1.Mine) && (((r6.1.Yours : Int) == r8.1.Yours) && (((r6.1.Next : Int) == r8.1.Next) && (((r6.1.Mask : Int) == r8.1.Mask) && (((r6.1.Seq : Int) == r8.1.Seq) && ((r6.1.Last == r8.1.Last) && ((r6.1.Part.toList == r8.1.Part.toList) && true)))))))))) then
                some false
              else
                (wnd r2.size r1.2.2 (r2.size : Int)).bind fun p9 =>
                (impl_Tag k (r2.extract p9.1 p9.2) r1.2.1 r1.2.2).bind fun r10 =>
                (wnd r2.size 0 r1.2.2).bind fun p11 =>
                bif (!(r10.toList == (r2.extract p11.1 p11.2).toList)) then
                  some false
                else
                  laws_FnPackets_l13 k a0
      else
        laws_FnPackets_l13 k a0
end Km.X
