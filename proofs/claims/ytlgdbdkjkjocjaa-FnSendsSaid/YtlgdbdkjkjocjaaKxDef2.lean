/- A part of the proof of FnSends: the functions that it reads off the program. There is no condition. -/
import Derived.Test.YtlgdbdkjkjocjaaKxDef1
namespace Km.X
open Go Km
set_option linter.unusedVariables false
set_option maxRecDepth 100000
noncomputable def spec_l1Open_l3 : Nat → List Int → Option (DL1Rd)
  | 0, _ => none
  | k + 1, x0 =>
    some (⟨x0, 0⟩ : DL1Rd)
noncomputable def spec_l1Open (k : Nat) (a0 : List Int) : Option (DL1Rd) :=
  bif (decide ((a0.length : Int) > 2000)) then
    (wnd a0.length 0 2000).bind fun p1 =>
    spec_l1Open_l3 k (dcut a0 p1.1 p1.2)
  else
    spec_l1Open_l3 k a0
noncomputable def spec_l1Rd_pick (k : Nat) (a0 : DL1Rd) (a1 : Int) : Option (Int × DL1Rd) :=
  bif (decide (a1 < 1)) then
    some (0, (⟨a0.b, (IntKind.wrap .i64 (a0.p + 1))⟩ : DL1Rd))
  else
    bif ((a0.b.length : Int) == 0) then
      some (0, (⟨a0.b, (IntKind.wrap .i64 (a0.p + 1))⟩ : DL1Rd))
    else
      bif (decide ((IntKind.wrap .i64 ((IntKind.wrap .i64 (a0.p + 1)) - 1)) < (a0.b.length : Int))) then
        (idx a0.b (IntKind.wrap .i64 ((IntKind.wrap .i64 (a0.p + 1)) - 1))).bind fun y1 =>
        (qrem (IntKind.wrap .i64 y1) a1).bind fun q2 =>
        some (q2, (⟨a0.b, (IntKind.wrap .i64 (a0.p + 1))⟩ : DL1Rd))
      else
        (qrem (IntKind.wrap .i64 ((IntKind.wrap .i64 (a0.p + 1)) - 1)) (a0.b.length : Int)).bind fun q3 =>
        (idx a0.b q3).bind fun y4 =>
        (qrem (IntKind.wrap .i64 ((IntKind.wrap .i64 ((IntKind.wrap .i64 ((IntKind.wrap .i64 (a0.p + 1)) - 1)) * 7)) + 3)) (a0.b.length : Int)).bind fun q5 =>
        (idx a0.b q5).bind fun y6 =>
        (qdiv (IntKind.wrap .i64 ((IntKind.wrap .i64 (a0.p + 1)) - 1)) (a0.b.length : Int)).bind fun q7 =>
        (qdiv (IntKind.wrap .i64 ((IntKind.wrap .i64 ((IntKind.wrap .i64 ((IntKind.wrap .i64 ((IntKind.wrap .i64 y4) * 131)) + (IntKind.wrap .i64 ((IntKind.wrap .i64 y6) * 1117)))) + (IntKind.wrap .i64 ((IntKind.wrap .i64 ((IntKind.wrap .i64 (a0.p + 1)) - 1)) * 29)))) + (IntKind.wrap .i64 ((IntKind.wrap .i64 (q7)) * 53)))) 64).bind fun q8 =>
        (qrem (bitsXor .i64 (IntKind.wrap .i64 ((IntKind.wrap .i64 ((IntKind.wrap .i64 ((IntKind.wrap .i64 ((IntKind.wrap .i64 y4) * 131)) + (IntKind.wrap .i64 ((IntKind.wrap .i64 y6) * 1117)))) + (IntKind.wrap .i64 ((IntKind.wrap .i64 ((IntKind.wrap .i64 (a0.p + 1)) - 1)) * 29)))) + (IntKind.wrap .i64 ((IntKind.wrap .i64 (q7)) * 53)))) (IntKind.wrap .i64 (q8))) a1).bind fun q9 =>
        some (q9, (⟨a0.b, (IntKind.wrap .i64 (a0.p + 1))⟩ : DL1Rd))
mutual
noncomputable def spec_l1Many_l2 : Nat → ByteArray → Int → ByteArray → Option (ByteArray)
  | 0, _, _, _ => none
  | k + 1, x0, x1, x2 =>
    bif (decide (x1 > 0)) then
      (qrem x1 2).bind fun q1 =>
      bif (q1 == 1) then
        (sadd x2 x0).bind fun t2 =>
        spec_l1Many_l5 k x0 x1 t2
      else
        spec_l1Many_l5 k x0 x1 x2
    else
      some x2
noncomputable def spec_l1Many_l5 : Nat → ByteArray → Int → ByteArray → Option (ByteArray)
  | 0, _, _, _ => none
  | k + 1, x0, x1, x2 =>
    (sadd x0 x0).bind fun t3 =>
    (qdiv x1 2).bind fun q4 =>
    spec_l1Many_l2 k t3 (IntKind.wrap .i64 (q4)) x2
end
noncomputable def spec_l1Many (k : Nat) (a0 : ByteArray) (a1 : Int) : Option (ByteArray) :=
  spec_l1Many_l2 k a0 a1 (⟨#[]⟩ : ByteArray)
noncomputable def spec_l1Message_l12 : Nat → ByteArray → Int → List Int → Int → Option (ByteArray × DL1Rd)
  | 0, _, _, _, _ => none
  | k + 1, x0, x1, x2, x3 =>
    bif (decide (x1 > 0)) then
      (spec_l1Rd_pick k (⟨x2, x3⟩ : DL1Rd) 5).bind fun r10 =>
      (wnd (⟨#[97, 98, 99, 100, 32]⟩ : ByteArray).size r10.1 ((⟨#[97, 98, 99, 100, 32]⟩ : ByteArray).size : Int)).bind fun p11 =>
      (wnd ((⟨#[97, 98, 99, 100, 32]⟩ : ByteArray).extract p11.1 p11.2).size 0 1).bind fun p12 =>
      (sadd x0 (((⟨#[97, 98, 99, 100, 32]⟩ : ByteArray).extract p11.1 p11.2).extract p12.1 p12.2)).bind fun t13 =>
      spec_l1Message_l12 k t13 (IntKind.wrap .i64 (x1 - 1)) r10.2.b r10.2.p
    else
      some (x0, (⟨x2, x3⟩ : DL1Rd))
noncomputable def spec_l1Message (k : Nat) (a0 : DL1Rd) : Option (ByteArray × DL1Rd) :=
  (spec_l1Rd_pick k a0 8).bind fun r1 =>
  bif (r1.1 == 0) then
    some ((⟨#[]⟩ : ByteArray), r1.2)
  else
    bif (r1.1 == 1) then
      (spec_l1Rd_pick k r1.2 5).bind fun r2 =>
      (spec_l1Rd_pick k r2.2 3).bind fun r3 =>
      (spec_l1Rd_pick k r3.2 2).bind fun r4 =>
      (spec_l1Rd_pick k r4.2 2).bind fun r5 =>
      (spec_l1Many k (⟨#[109]⟩ : ByteArray) (IntKind.wrap .i64 ((IntKind.wrap .i64 ((IntKind.wrap .i64 (20 * r2.1)) + r3.1)) - (IntKind.wrap .i64 (r4.1 * r5.1))))).bind fun r6 =>
      some (r6, r5.2)
    else
      bif (r1.1 == 2) then
        (spec_l1Rd_pick k r1.2 19).bind fun r7 =>
        (spec_l1Many k (⟨#[48, 49, 50, 51, 52, 53, 54, 55, 56, 57]⟩ : ByteArray) (IntKind.wrap .i64 (1 + r7.1))).bind fun r8 =>
        some (r8, r7.2)
      else
        bif (r1.1 == 3) then
          some ((⟨#[0, 255]⟩ : ByteArray), r1.2)
        else
          (spec_l1Rd_pick k r1.2 30).bind fun r9 =>
          spec_l1Message_l12 k (⟨#[]⟩ : ByteArray) (IntKind.wrap .i64 (1 + r9.1)) r9.2.b r9.2.p
noncomputable def spec_DrawCut (k : Nat) (a0 : List Int) : Option (ByteArray) :=
  (spec_l1Open k a0).bind fun r1 =>
  (spec_l1Rd_pick k r1 6).bind fun r2 =>
  bif (r2.1 == 0) then
    (spec_l1Rd_pick k r2.2 10).bind fun r3 =>
    (idx ([0, 1, 19, 20, 21, 40, 199, 200, 201, 220] : List Int) r3.1).bind fun _ =>
    (([0, 1, 19, 20, 21, 40, 199, 200, 201, 220] : List Int)[(Int.toNat r3.1)]?).bind fun y4 =>
    (spec_l1Many k (⟨#[109]⟩ : ByteArray) y4).bind fun r5 =>
    some r5
  else
    (spec_l1Message k r2.2).bind fun r6 =>
    some r6.1
mutual
noncomputable def spec_DrawJoin_l4 : Nat → Int → List Int → Int → List DPart → Option (List DPart)
  | 0, _, _, _, _ => none
  | k + 1, x0, x1, x2, x3 =>
    bif (decide (x0 > 0)) then
      (spec_l1Message k (⟨x1, x2⟩ : DL1Rd)).bind fun r3 =>
      (spec_Cut k r3.1).bind fun r4 =>
      (app 24 x3 r4).bind fun l5 =>
      spec_DrawJoin_l4 k (IntKind.wrap .i64 (x0 - 1)) r3.2.b r3.2.p l5
    else
      bif (decide ((x3.length : Int) > 0)) then
        (spec_l1Rd_pick k (⟨x1, x2⟩ : DL1Rd) 3).bind fun r6 =>
        bif (r6.1 == 0) then
          (spec_l1Rd_pick k r6.2 (x3.length : Int)).bind fun r7 =>
          (spec_l1Rd_pick k r7.2 4).bind fun r8 =>
          bif (r8.1 == 0) then
            (idx x3 r7.1).bind fun _ =>
            (x3[(Int.toNat r7.1)]?).bind fun y9 =>
            (idx x3 r7.1).bind fun _ =>
            (x3[(Int.toNat r7.1)]?).bind fun y10 =>
            spec_DrawJoin_l20 k (x3.set (Int.toNat r7.1) (⟨y10.Text, (!y9.Last)⟩ : DPart))
          else
            bif (r8.1 == 1) then
              (spec_l1Rd_pick k r8.2 2).bind fun r11 =>
              (spec_l1Many k (⟨#[108]⟩ : ByteArray) (IntKind.wrap .i64 (20 + r11.1))).bind fun r12 =>
              (idx x3 r7.1).bind fun _ =>
              (x3[(Int.toNat r7.1)]?).bind fun y13 =>
              spec_DrawJoin_l20 k (x3.set (Int.toNat r7.1) (⟨r12, y13.Last⟩ : DPart))
            else
              bif (r8.1 == 2) then
                (wnd x3.length 0 r7.1).bind fun p14 =>
                spec_DrawJoin_l20 k (dcut x3 p14.1 p14.2)
              else
                spec_DrawJoin_l11 k 0 r8.2.b r8.2.p x3
        else
          spec_DrawJoin_l20 k x3
      else
        spec_DrawJoin_l20 k x3
noncomputable def spec_DrawJoin_l20 : Nat → List DPart → Option (List DPart)
  | 0, _ => none
  | k + 1, x0 =>
    some x0
noncomputable def spec_DrawJoin_l11 : Nat → Int → List Int → Int → List DPart → Option (List DPart)
  | 0, _, _, _, _ => none
  | k + 1, x0, x1, x2, x3 =>
    bif (decide (x0 < 11)) then
      (spec_l1Rd_pick k (⟨x1, x2⟩ : DL1Rd) 2).bind fun r15 =>
      (qdiv x0 9).bind fun q16 =>
      (spec_l1Many k (⟨#[108]⟩ : ByteArray) (IntKind.wrap .i64 (20 - (IntKind.wrap .i64 (r15.1 * (IntKind.wrap .i64 (q16))))))).bind fun r17 =>
      (app 24 x3 ([(⟨r17, false⟩ : DPart)] : List DPart)).bind fun l18 =>
      spec_DrawJoin_l11 k (IntKind.wrap .i64 (x0 + 1)) r15.2.b r15.2.p l18
    else
      spec_DrawJoin_l20 k x3
end
noncomputable def spec_DrawJoin (k : Nat) (a0 : List Int) : Option (List DPart) :=
  (spec_l1Open k a0).bind fun r1 =>
  (spec_l1Rd_pick k r1 5).bind fun r2 =>
  spec_DrawJoin_l4 k r2.1 r2.2.b r2.2.p ([] : List DPart)
mutual
noncomputable def spec_l4Draw_l3 : Nat → Int → List Int → Int → Int → Int → List DItem → List DItem → Option (DSend × DL1Rd)
  | 0, _, _, _, _, _, _, _ => none
  | k + 1, x0, x1, x2, x3, x4, x5, x6 =>
    bif (decide (x0 > 0)) then
      both (
        (spec_l1Message k (⟨x1, x2⟩ : DL1Rd)).bind fun r4 =>
        (spec_SendPush k (⟨x4, x6⟩ : DSend) r4.1).bind fun r5 =>
        bif (r5.2 == 0) then
          spec_l4Draw_l8 k x0 r4.2.b r4.2.p x3 r5.1.Base x5 r5.1.Items
        else
          spec_l4Draw_l8 k x0 r4.2.b r4.2.p x3 x4 x5 x6
      ) (
        both (
          (spec_l1Message k (⟨x1, x2⟩ : DL1Rd)).bind fun r6 =>
          (spec_SendPush k (⟨x4, x6⟩ : DSend) r6.1).bind fun r7 =>
          bif (r7.2 == 0) then
            spec_l4Draw_l8 k x0 r6.2.b r6.2.p x3 r7.1.Base x5 r7.1.Items
          else
            spec_l4Draw_l8 k x0 r6.2.b r6.2.p x3 x4 x5 x6
        ) (
          (spec_l1Message k (⟨x1, x2⟩ : DL1Rd)).bind fun r8 =>
          (spec_SendPush k (⟨x4, x6⟩ : DSend) r8.1).bind fun r9 =>
          bif (r9.2 == 0) then
            spec_l4Draw_l8 k x0 r8.2.b r8.2.p x3 r9.1.Base x5 r9.1.Items
          else
            spec_l4Draw_l8 k x0 r8.2.b r8.2.p x3 x4 x5 x6
        )
      )
    else
      (spec_l1Rd_pick k (⟨x1, x2⟩ : DL1Rd) 12).bind fun r10 =>
      bif (r10.1 == 0) then
        (spec_l1Rd_pick k r10.2 3).bind fun r11 =>
        spec_l4Draw_l16 k (IntKind.wrap .i64 (60 - r11.1)) r11.2.b r11.2.p x3 x4 x5 x6
      else
        spec_l4Draw_l18 k r10.2.b r10.2.p x3 x4 x5 x6
noncomputable def spec_l4Draw_l8 : Nat → Int → List Int → Int → Int → Int → List DItem → List DItem → Option (DSend × DL1Rd)
  | 0, _, _, _, _, _, _, _ => none
  | k + 1, x0, x1, x2, x3, x4, x5, x6 =>
    (spec_l1Rd_pick k (⟨x1, x2⟩ : DL1Rd) 6).bind fun r12 =>
    spec_l4Draw_l9 k x0 r12.1 r12.2.b r12.2.p x3 x4 x5 x6
noncomputable def spec_l4Draw_l16 : Nat → Int → List Int → Int → Int → Int → List DItem → List DItem → Option (DSend × DL1Rd)
  | 0, _, _, _, _, _, _, _ => none
  | k + 1, x0, x1, x2, x3, x4, x5, x6 =>
    bif (decide ((x6.length : Int) < x0)) then
      bif (decide ((IntKind.wrap .i64 (x4 + (x6.length : Int))) < 1000000)) then
        (app 40 x6 ([(⟨(⟨(⟨#[102]⟩ : ByteArray), true⟩ : DPart), false, (-1)⟩ : DItem)] : List DItem)).bind fun l13 =>
        spec_l4Draw_l16 k x0 x1 x2 x3 x4 x5 l13
      else
        spec_l4Draw_l18 k x1 x2 x3 x4 x5 x6
    else
      spec_l4Draw_l18 k x1 x2 x3 x4 x5 x6
noncomputable def spec_l4Draw_l18 : Nat → List Int → Int → Int → Int → List DItem → List DItem → Option (DSend × DL1Rd)
  | 0, _, _, _, _, _, _ => none
  | k + 1, x0, x1, x2, x3, x4, x5 =>
    (spec_l4Copy k (⟨x3, x5⟩ : DSend)).bind fun r14 =>
    some (r14, (⟨x0, x1⟩ : DL1Rd))
noncomputable def spec_l4Draw_l9 : Nat → Int → Int → List Int → Int → Int → Int → List DItem → List DItem → Option (DSend × DL1Rd)
  | 0, _, _, _, _, _, _, _, _ => none
  | k + 1, x0, x1, x2, x3, x4, x5, x6, x7 =>
    bif (decide (x1 > 0)) then
      (spec_SendTick k (⟨x5, x7⟩ : DSend)).bind fun r15 =>
      spec_l4Draw_l9 k x0 (IntKind.wrap .i64 (x1 - 1)) x2 x3 x4 r15.1.Base x6 r15.1.Items
    else
      (spec_l1Rd_pick k (⟨x2, x3⟩ : DL1Rd) 3).bind fun r16 =>
      bif (r16.1 == 0) then
        (spec_l1Rd_pick k r16.2 4).bind fun r17 =>
        (spec_l1Rd_pick k r17.2 256).bind fun r18 =>
        (spec_SendWord k (⟨x5, x7⟩ : DSend) (IntKind.wrap .i64 (x5 + r17.1)) r18.1).bind fun r19 =>
        spec_l4Draw_l4 k x0 r18.2.b r18.2.p x4 r19.Base x6 r19.Items
      else
        spec_l4Draw_l4 k x0 r16.2.b r16.2.p x4 x5 x6 x7
noncomputable def spec_l4Draw_l4 : Nat → Int → List Int → Int → Int → Int → List DItem → List DItem → Option (DSend × DL1Rd)
  | 0, _, _, _, _, _, _, _ => none
  | k + 1, x0, x1, x2, x3, x4, x5, x6 =>
    spec_l4Draw_l3 k (IntKind.wrap .i64 (x0 - 1)) x1 x2 x3 x4 x5 x6
end
noncomputable def spec_l4Draw (k : Nat) (a0 : DL1Rd) : Option (DSend × DL1Rd) :=
  (spec_l1Rd_pick k a0 5).bind fun r1 =>
  (idx ([0, 0, 3, 1000, 999940] : List Int) r1.1).bind fun _ =>
  (([0, 0, 3, 1000, 999940] : List Int)[(Int.toNat r1.1)]?).bind fun y2 =>
  (spec_l1Rd_pick k r1.2 5).bind fun r3 =>
  spec_l4Draw_l3 k r3.1 r3.2.b r3.2.p 0 y2 ([] : List DItem) ([] : List DItem)
mutual
noncomputable def spec_l4Spoil_l4 : Nat → List Int → Int → Int → Int → List DItem → List DItem → Option (DSend × DL1Rd)
  | 0, _, _, _, _, _, _ => none
  | k + 1, x0, x1, x2, x3, x4, x5 =>
    (spec_l1Rd_pick k (⟨x0, x1⟩ : DL1Rd) (x5.length : Int)).bind fun r2 =>
    (spec_l1Rd_pick k r2.2 6).bind fun r3 =>
    bif (r3.1 == 0) then
      (spec_l1Rd_pick k r3.2 3).bind fun r4 =>
      (idx ([(-1), 1000000, 1000001] : List Int) r4.1).bind fun _ =>
      (([(-1), 1000000, 1000001] : List Int)[(Int.toNat r4.1)]?).bind fun y5 =>
      spec_l4Spoil_l21 k r4.2.b r4.2.p x2 y5 x4 x5
    else
      bif (r3.1 == 1) then
        both (
          (spec_l1Rd_pick k r3.2 5).bind fun r6 =>
          (idx ([(-2), (-1), 0, 3, 4] : List Int) r6.1).bind fun _ =>
          (([(-2), (-1), 0, 3, 4] : List Int)[(Int.toNat r6.1)]?).bind fun y7 =>
          (idx x5 r2.1).bind fun _ =>
          (x5[(Int.toNat r2.1)]?).bind fun y8 =>
          spec_l4Spoil_l21 k r6.2.b r6.2.p x2 x3 x4 (x5.set (Int.toNat r2.1) (⟨y8.Part, y8.Has, y7⟩ : DItem))
        ) (
          (spec_l1Rd_pick k r3.2 5).bind fun r9 =>
          (idx ([(-2), (-1), 0, 3, 4] : List Int) r9.1).bind fun _ =>
          (([(-2), (-1), 0, 3, 4] : List Int)[(Int.toNat r9.1)]?).bind fun y10 =>
          (idx x5 r2.1).bind fun _ =>
          (x5[(Int.toNat r2.1)]?).bind fun y11 =>
          spec_l4Spoil_l21 k r9.2.b r9.2.p x2 x3 x4 (x5.set (Int.toNat r2.1) (⟨y11.Part, y11.Has, y10⟩ : DItem))
        )
      else
        bif (r3.1 == 2) then
          (idx x5 r2.1).bind fun _ =>
          (x5[(Int.toNat r2.1)]?).bind fun y12 =>
          (idx x5 r2.1).bind fun _ =>
          (x5[(Int.toNat r2.1)]?).bind fun y13 =>
          spec_l4Spoil_l21 k r3.2.b r3.2.p x2 x3 x4 (x5.set (Int.toNat r2.1) (⟨y13.Part, (!y12.Has), y13.Since⟩ : DItem))
        else
          bif (r3.1 == 3) then
            (spec_l1Rd_pick k r3.2 2).bind fun r14 =>
            (spec_l1Many k (⟨#[115]⟩ : ByteArray) (IntKind.wrap .i64 (20 + r14.1))).bind fun r15 =>
            (idx x5 r2.1).bind fun _ =>
            (x5[(Int.toNat r2.1)]?).bind fun y16 =>
            spec_l4Spoil_l21 k r14.2.b r14.2.p x2 x3 x4 (x5.set (Int.toNat r2.1) (⟨(⟨r15, y16.Part.Last⟩ : DPart), y16.Has, y16.Since⟩ : DItem))
          else
            bif (r3.1 == 4) then
              (spec_l1Rd_pick k r3.2 2).bind fun r17 =>
              spec_l4Spoil_l19 k (IntKind.wrap .i64 (60 + r17.1)) r17.2.b r17.2.p x2 x3 x4 x5
            else
              spec_l4Spoil_l6 k r3.2.b r3.2.p x2 x3 x4 x5
noncomputable def spec_l4Spoil_l21 : Nat → List Int → Int → Int → Int → List DItem → List DItem → Option (DSend × DL1Rd)
  | 0, _, _, _, _, _, _ => none
  | k + 1, x0, x1, x2, x3, x4, x5 =>
    some ((⟨x3, x5⟩ : DSend), (⟨x0, x1⟩ : DL1Rd))
noncomputable def spec_l4Spoil_l19 : Nat → Int → List Int → Int → Int → Int → List DItem → List DItem → Option (DSend × DL1Rd)
  | 0, _, _, _, _, _, _, _ => none
  | k + 1, x0, x1, x2, x3, x4, x5, x6 =>
    bif (decide ((x6.length : Int) < x0)) then
      (app 40 x6 ([(⟨(⟨(⟨#[]⟩ : ByteArray), false⟩ : DPart), false, (-1)⟩ : DItem)] : List DItem)).bind fun l18 =>
      spec_l4Spoil_l19 k x0 x1 x2 x3 x4 x5 l18
    else
      spec_l4Spoil_l21 k x1 x2 x3 x4 x5 x6
noncomputable def spec_l4Spoil_l6 : Nat → List Int → Int → Int → Int → List DItem → List DItem → Option (DSend × DL1Rd)
  | 0, _, _, _, _, _, _ => none
  | k + 1, x0, x1, x2, x3, x4, x5 =>
    bif (decide ((x5.length : Int) ≤ 8)) then
      (app 40 x5 ([(⟨(⟨(⟨#[]⟩ : ByteArray), false⟩ : DPart), false, (-1)⟩ : DItem)] : List DItem)).bind fun l19 =>
      spec_l4Spoil_l6 k x0 x1 x2 x3 x4 l19
    else
      (spec_l1Rd_pick k (⟨x0, x1⟩ : DL1Rd) 2).bind fun r20 =>
      (idx x5 8).bind fun _ =>
      (x5[(Int.toNat 8)]?).bind fun y21 =>
      spec_l4Spoil_l21 k r20.2.b r20.2.p x2 x3 x4 (x5.set (Int.toNat 8) (⟨y21.Part, y21.Has, (IntKind.wrap .i64 (r20.1 - 1))⟩ : DItem))
end
noncomputable def spec_l4Spoil (k : Nat) (a0 : DL1Rd) (a1 : DSend) : Option (DSend × DL1Rd) :=
  (spec_l4Copy k a1).bind fun r1 =>
  bif ((r1.Items.length : Int) == 0) then
    spec_l4Spoil_l4 k a0.b a0.p 0 r1.Base ([] : List DItem) ([(⟨(⟨(⟨#[]⟩ : ByteArray), false⟩ : DPart), false, (-1)⟩ : DItem)] : List DItem)
  else
    spec_l4Spoil_l4 k a0.b a0.p 0 r1.Base ([] : List DItem) r1.Items
noncomputable def spec_l4Any (k : Nat) (a0 : DL1Rd) : Option (DSend × DL1Rd) :=
  (spec_l4Draw k a0).bind fun r1 =>
  (spec_l1Rd_pick k r1.2 8).bind fun r2 =>
  bif (r2.1 == 0) then
    (spec_l4Spoil k r2.2 r1.1).bind fun r3 =>
    some (r3.1, r3.2)
  else
    some (r1.1, r2.2)
mutual
noncomputable def spec_DrawSendWord_l7 : Nat → Int → Int → Int → List Int → Int → Int → List DItem → List DItem → Option (DSend × Int × Int)
  | 0, _, _, _, _, _, _, _, _ => none
  | k + 1, x0, x1, x2, x3, x4, x5, x6, x7 =>
    (spec_l1Rd_pick k (⟨x3, x4⟩ : DL1Rd) 12).bind fun r8 =>
    bif (r8.1 == 0) then
      both (
        (spec_l1Rd_pick k r8.2 4).bind fun r9 =>
        (idx ([0, (-1), (IntKind.wrap .i64 (x5 + (x7.length : Int))), (IntKind.wrap .i64 ((IntKind.wrap .i64 (x5 + (x7.length : Int))) + 1))] : List Int) r9.1).bind fun _ =>
        (([0, (-1), (IntKind.wrap .i64 (x5 + (x7.length : Int))), (IntKind.wrap .i64 ((IntKind.wrap .i64 (x5 + (x7.length : Int))) + 1))] : List Int)[(Int.toNat r9.1)]?).bind fun y10 =>
        spec_DrawSendWord_l9 k y10 x1 x2 x5 x6 x7
      ) (
        (spec_l1Rd_pick k r8.2 4).bind fun r11 =>
        (idx ([0, (-1), (IntKind.wrap .i64 (x5 + (x7.length : Int))), (IntKind.wrap .i64 ((IntKind.wrap .i64 (x5 + (x7.length : Int))) + 1))] : List Int) r11.1).bind fun _ =>
        (([0, (-1), (IntKind.wrap .i64 (x5 + (x7.length : Int))), (IntKind.wrap .i64 ((IntKind.wrap .i64 (x5 + (x7.length : Int))) + 1))] : List Int)[(Int.toNat r11.1)]?).bind fun y12 =>
        spec_DrawSendWord_l9 k y12 x1 x2 x5 x6 x7
      )
    else
      spec_DrawSendWord_l9 k x0 x1 x2 x5 x6 x7
noncomputable def spec_DrawSendWord_l9 : Nat → Int → Int → Int → Int → List DItem → List DItem → Option (DSend × Int × Int)
  | 0, _, _, _, _, _, _ => none
  | k + 1, x0, x1, x2, x3, x4, x5 =>
    some ((⟨x3, x5⟩ : DSend), x0, x1)
end
noncomputable def spec_DrawSendWord (k : Nat) (a0 : List Int) : Option (DSend × Int × Int) :=
  (spec_l1Open k a0).bind fun r1 =>
  (spec_l4Any k r1).bind fun r2 =>
  (spec_l1Rd_pick k r2.2 11).bind fun r3 =>
  (spec_l1Rd_pick k r3.2 256).bind fun r4 =>
  (spec_l1Rd_pick k r4.2 12).bind fun r5 =>
  bif (r5.1 == 0) then
    (spec_l1Rd_pick k r5.2 3).bind fun r6 =>
    (idx ([(-1), 256, 511] : List Int) r6.1).bind fun _ =>
    (([(-1), 256, 511] : List Int)[(Int.toNat r6.1)]?).bind fun y7 =>
    spec_DrawSendWord_l7 k (IntKind.wrap .i64 ((IntKind.wrap .i64 (r2.1.Base + r3.1)) - 1)) y7 0 r6.2.b r6.2.p r2.1.Base ([] : List DItem) r2.1.Items
  else
    spec_DrawSendWord_l7 k (IntKind.wrap .i64 ((IntKind.wrap .i64 (r2.1.Base + r3.1)) - 1)) r4.1 0 r5.2.b r5.2.p r2.1.Base ([] : List DItem) r2.1.Items
noncomputable def spec_l2Spoil_l21 : Nat → List Int → Int → Int → Int → Int → Int → Int → Int → Int → Bool → ByteArray → Int → Int → Int → Int → Int → Int → Int → Bool → ByteArray → Option (DPacket × DL1Rd)
  | 0, _, _, _, _, _, _, _, _, _, _, _, _, _, _, _, _, _, _, _, _ => none
  | k + 1, x0, x1, x2, x3, x4, x5, x6, x7, x8, x9, x10, x11, x12, x13, x14, x15, x16, x17, x18, x19 =>
    some ((⟨x2, x3, x4, x5, x6, x7, x8, x9, x10⟩ : DPacket), (⟨x0, x1⟩ : DL1Rd))
noncomputable def spec_l2Spoil (k : Nat) (a0 : DL1Rd) (a1 : DPacket) : Option (DPacket × DL1Rd) :=
  (spec_l1Rd_pick k a0 10).bind fun r1 =>
  bif (r1.1 == 0) then
    (spec_l1Rd_pick k r1.2 5).bind fun r2 =>
    spec_l2Spoil_l21 k r2.2.b r2.2.p (IntKind.wrap .i64 (r2.1 - 1)) a1.From a1.Mine a1.Yours a1.Next a1.Mask a1.Seq a1.Last a1.Part 0 0 0 0 0 0 0 false (⟨#[]⟩ : ByteArray)
  else
    bif (r1.1 == 1) then
      (spec_l1Rd_pick k r1.2 2).bind fun r3 =>
      (idx ([0, 3] : List Int) r3.1).bind fun _ =>
      (([0, 3] : List Int)[(Int.toNat r3.1)]?).bind fun y4 =>
      spec_l2Spoil_l21 k r3.2.b r3.2.p a1.Kind y4 a1.Mine a1.Yours a1.Next a1.Mask a1.Seq a1.Last a1.Part 0 0 0 0 0 0 0 false (⟨#[]⟩ : ByteArray)
    else
      bif (r1.1 == 2) then
        (spec_l1Rd_pick k r1.2 2).bind fun r5 =>
        (idx ([0, 1001] : List Int) r5.1).bind fun _ =>
        (([0, 1001] : List Int)[(Int.toNat r5.1)]?).bind fun y6 =>
        spec_l2Spoil_l21 k r5.2.b r5.2.p a1.Kind a1.From y6 a1.Yours a1.Next a1.Mask a1.Seq a1.Last a1.Part 0 0 0 0 0 0 0 false (⟨#[]⟩ : ByteArray)
      else
        bif (r1.1 == 3) then
          (spec_l1Rd_pick k r1.2 2).bind fun r7 =>
          (idx ([(-1), 1001] : List Int) r7.1).bind fun _ =>
          (([(-1), 1001] : List Int)[(Int.toNat r7.1)]?).bind fun y8 =>
          spec_l2Spoil_l21 k r7.2.b r7.2.p a1.Kind a1.From a1.Mine y8 a1.Next a1.Mask a1.Seq a1.Last a1.Part 0 0 0 0 0 0 0 false (⟨#[]⟩ : ByteArray)
        else
          bif (r1.1 == 4) then
            (spec_l1Rd_pick k r1.2 3).bind fun r9 =>
            (idx ([(-1), 1, 1000001] : List Int) r9.1).bind fun _ =>
            (([(-1), 1, 1000001] : List Int)[(Int.toNat r9.1)]?).bind fun y10 =>
            spec_l2Spoil_l21 k r9.2.b r9.2.p a1.Kind a1.From a1.Mine a1.Yours y10 a1.Mask a1.Seq a1.Last a1.Part 0 0 0 0 0 0 0 false (⟨#[]⟩ : ByteArray)
          else
            bif (r1.1 == 5) then
              (spec_l1Rd_pick k r1.2 3).bind fun r11 =>
              (idx ([(-1), 1, 256] : List Int) r11.1).bind fun _ =>
              (([(-1), 1, 256] : List Int)[(Int.toNat r11.1)]?).bind fun y12 =>
              spec_l2Spoil_l21 k r11.2.b r11.2.p a1.Kind a1.From a1.Mine a1.Yours a1.Next y12 a1.Seq a1.Last a1.Part 0 0 0 0 0 0 0 false (⟨#[]⟩ : ByteArray)
            else
              bif (r1.1 == 6) then
                (spec_l1Rd_pick k r1.2 3).bind fun r13 =>
                (idx ([(-1), 1, 1000000] : List Int) r13.1).bind fun _ =>
                (([(-1), 1, 1000000] : List Int)[(Int.toNat r13.1)]?).bind fun y14 =>
                spec_l2Spoil_l21 k r13.2.b r13.2.p a1.Kind a1.From a1.Mine a1.Yours a1.Next a1.Mask y14 a1.Last a1.Part 0 0 0 0 0 0 0 false (⟨#[]⟩ : ByteArray)
              else
                bif (r1.1 == 7) then
                  spec_l2Spoil_l21 k r1.2.b r1.2.p a1.Kind a1.From a1.Mine a1.Yours a1.Next a1.Mask a1.Seq (!a1.Last) a1.Part 0 0 0 0 0 0 0 false (⟨#[]⟩ : ByteArray)
                else
                  bif (r1.1 == 8) then
                    (spec_l1Rd_pick k r1.2 2).bind fun r15 =>
                    (spec_l1Many k (⟨#[112]⟩ : ByteArray) (IntKind.wrap .i64 (20 + r15.1))).bind fun r16 =>
                    spec_l2Spoil_l21 k r15.2.b r15.2.p a1.Kind a1.From a1.Mine a1.Yours a1.Next a1.Mask a1.Seq a1.Last r16 0 0 0 0 0 0 0 false (⟨#[]⟩ : ByteArray)
                  else
                    spec_l2Spoil_l21 k r1.2.b r1.2.p a1.Kind a1.From a1.Mine a1.Yours a1.Next a1.Mask a1.Seq a1.Last (⟨#[120]⟩ : ByteArray) 0 0 0 0 0 0 0 false (⟨#[]⟩ : ByteArray)
noncomputable def spec_l1Key (k : Nat) (a0 : DL1Rd) : Option (ByteArray × DL1Rd) :=
  (spec_l1Many k (⟨#[107]⟩ : ByteArray) 30).bind fun r1 =>
  (spec_l1Rd_pick k a0 4).bind fun r2 =>
  (idx ([(⟨#[107, 101, 121]⟩ : ByteArray), (⟨#[107]⟩ : ByteArray), (⟨#[]⟩ : ByteArray), r1] : List ByteArray) r2.1).bind fun _ =>
  (([(⟨#[107, 101, 121]⟩ : ByteArray), (⟨#[107]⟩ : ByteArray), (⟨#[]⟩ : ByteArray), r1] : List ByteArray)[(Int.toNat r2.1)]?).bind fun y3 =>
  some (y3, r2.2)
noncomputable def spec_l1Width (k : Nat) (a0 : DL1Rd) : Option (Int × DL1Rd) :=
  (spec_l1Rd_pick k a0 5).bind fun r1 =>
  (idx ([8, 8, 4, 2, 1] : List Int) r1.1).bind fun _ =>
  (([8, 8, 4, 2, 1] : List Int)[(Int.toNat r1.1)]?).bind fun y2 =>
  some (y2, r1.2)
noncomputable def spec_DrawTag_l10 : Nat → ByteArray → ByteArray → Int → Option (ByteArray × ByteArray × Int)
  | 0, _, _, _ => none
  | k + 1, x0, x1, x2 =>
    some (x0, x1, x2)
noncomputable def spec_DrawTag (k : Nat) (a0 : List Int) : Option (ByteArray × ByteArray × Int) :=
  (spec_l1Open k a0).bind fun r1 =>
  (spec_l1Message k r1).bind fun r2 =>
  (spec_l1Key k r2.2).bind fun r3 =>
  (spec_l1Width k r3.2).bind fun r4 =>
  (spec_l1Rd_pick k r4.2 10).bind fun r5 =>
  bif (r5.1 == 0) then
    (spec_l1Rd_pick k r5.2 3).bind fun r6 =>
    (idx ([0, 9, (-1)] : List Int) r6.1).bind fun _ =>
    (([0, 9, (-1)] : List Int)[(Int.toNat r6.1)]?).bind fun y7 =>
    spec_DrawTag_l10 k r2.1 r3.1 y7
  else
    bif (r5.1 == 1) then
      (spec_l1Many k (⟨#[107]⟩ : ByteArray) 31).bind fun r8 =>
      spec_DrawTag_l10 k r2.1 r8 r4.1
    else
      spec_DrawTag_l10 k r2.1 r3.1 r4.1
noncomputable def spec_l1Bend_l13 : Nat → ByteArray → Int → List Int → Int → Option (ByteArray × DL1Rd)
  | 0, _, _, _, _ => none
  | k + 1, x0, x1, x2, x3 =>
    (wnd x0.size x1 (x0.size : Int)).bind fun p27 =>
    (sadd x0 (x0.extract p27.1 p27.2)).bind fun t28 =>
    some (t28, (⟨x2, x3⟩ : DL1Rd))
noncomputable def spec_l1Bend (k : Nat) (a0 : DL1Rd) (a1 : ByteArray) : Option (ByteArray × DL1Rd) :=
  (spec_l1Rd_pick k a0 256).bind fun r1 =>
  (qdiv (IntKind.wrap .i64 (r1.1 * (IntKind.wrap .i64 ((a1.size : Int) + 1)))) 256).bind fun q2 =>
  (spec_l1Rd_pick k r1.2 5).bind fun r3 =>
  bif (r3.1 == 0) then
    (wnd a1.size 0 (IntKind.wrap .i64 (q2))).bind fun p4 =>
    some ((a1.extract p4.1 p4.2), r3.2)
  else
    bif (r3.1 == 1) then
      both (
        (wnd a1.size 0 (IntKind.wrap .i64 (q2))).bind fun p5 =>
        (spec_l1Rd_pick k r3.2 6).bind fun r6 =>
        (idx ([(⟨#[32]⟩ : ByteArray), (⟨#[10]⟩ : ByteArray), (⟨#[0]⟩ : ByteArray), (⟨#[1]⟩ : ByteArray), (⟨#[48]⟩ : ByteArray), (⟨#[120]⟩ : ByteArray)] : List ByteArray) r6.1).bind fun _ =>
        (([(⟨#[32]⟩ : ByteArray), (⟨#[10]⟩ : ByteArray), (⟨#[0]⟩ : ByteArray), (⟨#[1]⟩ : ByteArray), (⟨#[48]⟩ : ByteArray), (⟨#[120]⟩ : ByteArray)] : List ByteArray)[(Int.toNat r6.1)]?).bind fun y7 =>
        (sadd (a1.extract p5.1 p5.2) y7).bind fun t8 =>
        (wnd a1.size (IntKind.wrap .i64 (q2)) (a1.size : Int)).bind fun p9 =>
        (sadd t8 (a1.extract p9.1 p9.2)).bind fun t10 =>
        some (t10, r6.2)
      ) (
        (wnd a1.size 0 (IntKind.wrap .i64 (q2))).bind fun p11 =>
        (spec_l1Rd_pick k r3.2 6).bind fun r12 =>
        (wnd a1.size (IntKind.wrap .i64 (q2)) (a1.size : Int)).bind fun p13 =>
        (idx ([(⟨#[32]⟩ : ByteArray), (⟨#[10]⟩ : ByteArray), (⟨#[0]⟩ : ByteArray), (⟨#[1]⟩ : ByteArray), (⟨#[48]⟩ : ByteArray), (⟨#[120]⟩ : ByteArray)] : List ByteArray) r12.1).bind fun _ =>
        (([(⟨#[32]⟩ : ByteArray), (⟨#[10]⟩ : ByteArray), (⟨#[0]⟩ : ByteArray), (⟨#[1]⟩ : ByteArray), (⟨#[48]⟩ : ByteArray), (⟨#[120]⟩ : ByteArray)] : List ByteArray)[(Int.toNat r12.1)]?).bind fun y14 =>
        (sadd (a1.extract p11.1 p11.2) y14).bind fun t15 =>
        (sadd t15 (a1.extract p13.1 p13.2)).bind fun t16 =>
        some (t16, r12.2)
      )
    else
      bif (r3.1 == 2) then
        bif (decide ((IntKind.wrap .i64 (q2)) < (a1.size : Int))) then
          (wnd a1.size 0 (IntKind.wrap .i64 (q2))).bind fun p17 =>
          (wnd a1.size (IntKind.wrap .i64 ((IntKind.wrap .i64 (q2)) + 1)) (a1.size : Int)).bind fun p18 =>
          (sadd (a1.extract p17.1 p17.2) (a1.extract p18.1 p18.2)).bind fun t19 =>
          some (t19, r3.2)
        else
          spec_l1Bend_l13 k a1 (IntKind.wrap .i64 (q2)) r3.2.b r3.2.p
      else
        bif (r3.1 == 3) then
          bif (decide ((IntKind.wrap .i64 (q2)) < (a1.size : Int))) then
            (wnd a1.size 0 (IntKind.wrap .i64 (q2))).bind fun p20 =>
            (bidx a1 (IntKind.wrap .i64 (q2))).bind fun c21 =>
            (spec_l1Rd_pick k r3.2 8).bind fun r22 =>
            (shift .shl .i64 1 (IntKind.wrap .u64 r22.1)).bind fun s23 =>
            (sadd (a1.extract p20.1 p20.2) (bstr ([(IntKind.wrap .u8 (bitsXor .i64 (IntKind.wrap .i64 (c21.toNat : Int)) s23))] : List Int))).bind fun t24 =>
            (wnd a1.size (IntKind.wrap .i64 ((IntKind.wrap .i64 (q2)) + 1)) (a1.size : Int)).bind fun p25 =>
            (sadd t24 (a1.extract p25.1 p25.2)).bind fun t26 =>
            some (t26, r22.2)
          else
            spec_l1Bend_l13 k a1 (IntKind.wrap .i64 (q2)) r3.2.b r3.2.p
        else
          spec_l1Bend_l13 k a1 (IntKind.wrap .i64 (q2)) r3.2.b r3.2.p
mutual
noncomputable def spec_l7Event_l5 : Nat → Int → Int → List Int → Int → Int → Int → Int → Int → ByteArray → Option (DEvent × DL1Rd)
  | 0, _, _, _, _, _, _, _, _, _ => none
  | k + 1, x0, x1, x2, x3, x4, x5, x6, x7, x8 =>
    (spec_l1Rd_pick k (⟨x2, x3⟩ : DL1Rd) 2).bind fun r5 =>
    bif (decide (x0 < 9)) then
      some ((⟨1, 0, 0, 0, (⟨#[]⟩ : ByteArray)⟩ : DEvent), r5.2)
    else
      bif (decide (x0 < 19)) then
        some ((⟨2, x1, 0, 0, (⟨#[]⟩ : ByteArray)⟩ : DEvent), r5.2)
      else
        bif (decide (x0 < 26)) then
          (spec_l1Message k r5.2).bind fun r6 =>
          some ((⟨10, (IntKind.wrap .i64 (1 + r5.1)), 0, 0, r6.1⟩ : DEvent), r6.2)
        else
          bif (decide (x0 < 30)) then
            some ((⟨11, (IntKind.wrap .i64 (1 + r5.1)), 0, 0, (⟨#[]⟩ : ByteArray)⟩ : DEvent), r5.2)
          else
            bif (x0 == 30) then
              spec_l7Event_l17 k x1 r5.2.b r5.2.p x4 x5 x6 x7 x8
            else
              bif (x0 == 31) then
                spec_l7Event_l17 k x1 r5.2.b r5.2.p x4 x5 x6 x7 x8
              else
                spec_l7Event_l18 k x1 (IntKind.wrap .i64 (1 + r5.1)) x0 r5.2.b r5.2.p x4 x5 x6 x7 x8
noncomputable def spec_l7Event_l17 : Nat → Int → List Int → Int → Int → Int → Int → Int → ByteArray → Option (DEvent × DL1Rd)
  | 0, _, _, _, _, _, _, _, _ => none
  | k + 1, x0, x1, x2, x3, x4, x5, x6, x7 =>
    some ((⟨3, x0, 0, 0, (⟨#[]⟩ : ByteArray)⟩ : DEvent), (⟨x1, x2⟩ : DL1Rd))
noncomputable def spec_l7Event_l18 : Nat → Int → Int → Int → List Int → Int → Int → Int → Int → Int → ByteArray → Option (DEvent × DL1Rd)
  | 0, _, _, _, _, _, _, _, _, _, _ => none
  | k + 1, x0, x1, x2, x3, x4, x5, x6, x7, x8, x9 =>
    bif (x2 == 32) then
      spec_l7Event_l20 k x0 x3 x4 x5 x6 x7 x8 x9
    else
      bif (x2 == 33) then
        spec_l7Event_l20 k x0 x3 x4 x5 x6 x7 x8 x9
      else
        spec_l7Event_l21 k x0 x1 x2 x3 x4 x5 x6 x7 x8 x9
noncomputable def spec_l7Event_l20 : Nat → Int → List Int → Int → Int → Int → Int → Int → ByteArray → Option (DEvent × DL1Rd)
  | 0, _, _, _, _, _, _, _, _ => none
  | k + 1, x0, x1, x2, x3, x4, x5, x6, x7 =>
    some ((⟨4, x0, 0, 0, (⟨#[]⟩ : ByteArray)⟩ : DEvent), (⟨x1, x2⟩ : DL1Rd))
noncomputable def spec_l7Event_l21 : Nat → Int → Int → Int → List Int → Int → Int → Int → Int → Int → ByteArray → Option (DEvent × DL1Rd)
  | 0, _, _, _, _, _, _, _, _, _, _ => none
  | k + 1, x0, x1, x2, x3, x4, x5, x6, x7, x8, x9 =>
    bif (x2 == 34) then
      (spec_l1Rd_pick k (⟨x3, x4⟩ : DL1Rd) 40).bind fun r7 =>
      (spec_l1Rd_pick k r7.2 300).bind fun r8 =>
      some ((⟨5, x0, r7.1, r8.1, (⟨#[]⟩ : ByteArray)⟩ : DEvent), r8.2)
    else
      bif (x2 == 35) then
        (spec_l1Rd_pick k (⟨x3, x4⟩ : DL1Rd) 40).bind fun r9 =>
        some ((⟨6, x0, r9.1, 0, (⟨#[]⟩ : ByteArray)⟩ : DEvent), r9.2)
      else
        bif (x2 == 36) then
          some ((⟨7, x0, 0, 0, (⟨#[]⟩ : ByteArray)⟩ : DEvent), (⟨x3, x4⟩ : DL1Rd))
        else
          bif (x2 == 37) then
            some ((⟨8, x1, 0, 0, (⟨#[]⟩ : ByteArray)⟩ : DEvent), (⟨x3, x4⟩ : DL1Rd))
          else
            some ((⟨9, x1, 0, 0, (⟨#[]⟩ : ByteArray)⟩ : DEvent), (⟨x3, x4⟩ : DL1Rd))
end
noncomputable def spec_l7Event (k : Nat) (a0 : DL1Rd) : Option (DEvent × DL1Rd) :=
  (spec_l1Rd_pick k a0 40).bind fun r1 =>
  (spec_l1Rd_pick k r1.2 24).bind fun r2 =>
  (spec_l1Rd_pick k r2.2 2).bind fun r3 =>
  bif (r3.1 == 0) then
    (spec_l1Rd_pick k r3.2 3).bind fun r4 =>
    spec_l7Event_l5 k r1.1 r4.1 r4.2.b r4.2.p 0 0 0 0 (⟨#[]⟩ : ByteArray)
  else
    spec_l7Event_l5 k r1.1 r2.1 r3.2.b r3.2.p 0 0 0 0 (⟨#[]⟩ : ByteArray)
mutual
noncomputable def spec_l7Reached_l4 : Nat → List Int → Int → ByteArray → Int → ByteArray → ByteArray → Int → ByteArray → List DEnd → List DParcel → List DRecord → List DRecord → List DEnd → List DParcel → List DRecord → List DRecord → Option (DWorld × DL1Rd)
  | 0, _, _, _, _, _, _, _, _, _, _, _, _, _, _, _, _ => none
  | k + 1, x0, x1, x2, x3, x4, x5, x6, x7, x8, x9, x10, x11, x12, x13, x14, x15 =>
    (spec_l1Rd_pick k (⟨x0, x1⟩ : DL1Rd) 50).bind fun r7 =>
    spec_l7Reached_l6 k r7.1 0 r7.2.b r7.2.p x2 x3 x4 x5 x6 x7 x8 x9 x10 x11 x12 x13 x14 x15
noncomputable def spec_l7Reached_l6 : Nat → Int → Int → List Int → Int → ByteArray → Int → ByteArray → ByteArray → Int → ByteArray → List DEnd → List DParcel → List DRecord → List DRecord → List DEnd → List DParcel → List DRecord → List DRecord → Option (DWorld × DL1Rd)
  | 0, _, _, _, _, _, _, _, _, _, _, _, _, _, _, _, _, _, _ => none
  | k + 1, x0, x1, x2, x3, x4, x5, x6, x7, x8, x9, x10, x11, x12, x13, x14, x15, x16, x17 =>
    bif (decide (x1 < x0)) then
      (spec_l7Event k (⟨x2, x3⟩ : DL1Rd)).bind fun r8 =>
      (spec_l7Do k (⟨x7, x8, x14, x15, x9, x16, x17⟩ : DWorld) r8.1).bind fun r9 =>
      (spec_l1Rd_pick k r8.2 5).bind fun r10 =>
      bif (r10.1 == 0) then
        (spec_l7Tick k r9).bind fun r11 =>
        (spec_l1Rd_pick k r10.2 6).bind fun r12 =>
        spec_l7Reached_l12 k x0 x1 r12.1 r12.2.b r12.2.p x4 x5 x6 r11.Key r11.Width r11.Forged x10 x11 x12 x13 r11.Ends r11.Flight r11.Given r11.Taken
      else
        spec_l7Reached_l15 k x0 x1 r10.2.b r10.2.p x4 x5 x6 r9.Key r9.Width r9.Forged x10 x11 x12 x13 r9.Ends r9.Flight r9.Given r9.Taken
    else
      (spec_l7Copy k (⟨x7, x8, x14, x15, x9, x16, x17⟩ : DWorld)).bind fun r13 =>
      some (r13, (⟨x2, x3⟩ : DL1Rd))
noncomputable def spec_l7Reached_l12 : Nat → Int → Int → Int → List Int → Int → ByteArray → Int → ByteArray → ByteArray → Int → ByteArray → List DEnd → List DParcel → List DRecord → List DRecord → List DEnd → List DParcel → List DRecord → List DRecord → Option (DWorld × DL1Rd)
  | 0, _, _, _, _, _, _, _, _, _, _, _, _, _, _, _, _, _, _, _ => none
  | k + 1, x0, x1, x2, x3, x4, x5, x6, x7, x8, x9, x10, x11, x12, x13, x14, x15, x16, x17, x18 =>
    bif (decide (x2 > 0)) then
      bif (decide ((x16.length : Int) > 0)) then
        (spec_l7Bring k (⟨x8, x9, x15, x16, x10, x17, x18⟩ : DWorld) 0).bind fun r14 =>
        spec_l7Reached_l12 k x0 x1 (IntKind.wrap .i64 (x2 - 1)) x3 x4 x5 x6 x7 r14.Key r14.Width r14.Forged x11 x12 x13 x14 r14.Ends r14.Flight r14.Given r14.Taken
      else
        spec_l7Reached_l15 k x0 x1 x3 x4 x5 x6 x7 x8 x9 x10 x11 x12 x13 x14 x15 x16 x17 x18
    else
      spec_l7Reached_l15 k x0 x1 x3 x4 x5 x6 x7 x8 x9 x10 x11 x12 x13 x14 x15 x16 x17 x18
noncomputable def spec_l7Reached_l15 : Nat → Int → Int → List Int → Int → ByteArray → Int → ByteArray → ByteArray → Int → ByteArray → List DEnd → List DParcel → List DRecord → List DRecord → List DEnd → List DParcel → List DRecord → List DRecord → Option (DWorld × DL1Rd)
  | 0, _, _, _, _, _, _, _, _, _, _, _, _, _, _, _, _, _, _ => none
  | k + 1, x0, x1, x2, x3, x4, x5, x6, x7, x8, x9, x10, x11, x12, x13, x14, x15, x16, x17 =>
    (spec_l1Rd_pick k (⟨x2, x3⟩ : DL1Rd) 16).bind fun r15 =>
    bif (r15.1 == 0) then
      (spec_l7Do k (⟨x7, x8, x14, x15, x9, x16, x17⟩ : DWorld) (⟨9, 1, 0, 0, (⟨#[]⟩ : ByteArray)⟩ : DEvent)).bind fun r16 =>
      (spec_l7Do k r16 (⟨9, 2, 0, 0, (⟨#[]⟩ : ByteArray)⟩ : DEvent)).bind fun r17 =>
      spec_l7Reached_l7 k x0 x1 r15.2.b r15.2.p x4 x5 x6 r17.Key r17.Width r17.Forged x10 x11 x12 x13 r17.Ends r17.Flight r17.Given r17.Taken
    else
      spec_l7Reached_l7 k x0 x1 r15.2.b r15.2.p x4 x5 x6 x7 x8 x9 x10 x11 x12 x13 x14 x15 x16 x17
noncomputable def spec_l7Reached_l7 : Nat → Int → Int → List Int → Int → ByteArray → Int → ByteArray → ByteArray → Int → ByteArray → List DEnd → List DParcel → List DRecord → List DRecord → List DEnd → List DParcel → List DRecord → List DRecord → Option (DWorld × DL1Rd)
  | 0, _, _, _, _, _, _, _, _, _, _, _, _, _, _, _, _, _, _ => none
  | k + 1, x0, x1, x2, x3, x4, x5, x6, x7, x8, x9, x10, x11, x12, x13, x14, x15, x16, x17 =>
    spec_l7Reached_l6 k x0 (IntKind.wrap .i64 (x1 + 1)) x2 x3 x4 x5 x6 x7 x8 x9 x10 x11 x12 x13 x14 x15 x16 x17
end
noncomputable def spec_l7Reached (k : Nat) (a0 : DL1Rd) : Option (DWorld × DL1Rd) :=
  (spec_l1Key k a0).bind fun r1 =>
  (spec_l1Width k r1.2).bind fun r2 =>
  (spec_NewWorld k r1.1 r2.1).bind fun r3 =>
  (spec_l1Rd_pick k r2.2 3).bind fun r4 =>
  bif (decide (r4.1 > 0)) then
    (spec_l1Rd_pick k r4.2 4).bind fun r5 =>
    (spec_Calm k r3 (IntKind.wrap .i64 (7 + r5.1)) 1).bind fun r6 =>
    spec_l7Reached_l4 k r5.2.b r5.2.p (⟨#[]⟩ : ByteArray) 0 (⟨#[]⟩ : ByteArray) r6.Key r6.Width r6.Forged ([] : List DEnd) ([] : List DParcel) ([] : List DRecord) ([] : List DRecord) r6.Ends r6.Flight r6.Given r6.Taken
  else
    spec_l7Reached_l4 k r4.2.b r4.2.p (⟨#[]⟩ : ByteArray) 0 (⟨#[]⟩ : ByteArray) r3.Key r3.Width r3.Forged ([] : List DEnd) ([] : List DParcel) ([] : List DRecord) ([] : List DRecord) r3.Ends r3.Flight r3.Given r3.Taken
mutual
noncomputable def spec_l5Draw_l3 : Nat → Int → List Int → Int → Int → ByteArray → Int → ByteArray → List DHeld → List ByteArray → List DHeld → List ByteArray → Option (DTake × DL1Rd)
  | 0, _, _, _, _, _, _, _, _, _, _, _ => none
  | k + 1, x0, x1, x2, x3, x4, x5, x6, x7, x8, x9, x10 =>
    bif (decide (x0 > 0)) then
      (spec_l1Rd_pick k (⟨x1, x2⟩ : DL1Rd) 8).bind fun r4 =>
      bif (r4.1 == 0) then
        (spec_TakePull k (⟨x5, x9, x6, x10⟩ : DTake)).bind fun r5 =>
        spec_l5Draw_l4 k x0 r4.2.b r4.2.p x3 x4 r5.1.Next r5.1.Open x7 x8 r5.1.Held r5.1.Ready
      else
        (spec_l1Rd_pick k r4.2 3).bind fun r6 =>
        bif (r6.1 == 0) then
          (spec_l1Rd_pick k r6.2 9).bind fun r7 =>
          spec_l5Draw_l9 k x0 (IntKind.wrap .i64 (x5 + r7.1)) r7.2.b r7.2.p x3 x4 x5 x6 x7 x8 x9 x10
        else
          spec_l5Draw_l9 k x0 x5 r6.2.b r6.2.p x3 x4 x5 x6 x7 x8 x9 x10
    else
      (spec_l5Copy k (⟨x5, x9, x6, x10⟩ : DTake)).bind fun r8 =>
      some (r8, (⟨x1, x2⟩ : DL1Rd))
noncomputable def spec_l5Draw_l4 : Nat → Int → List Int → Int → Int → ByteArray → Int → ByteArray → List DHeld → List ByteArray → List DHeld → List ByteArray → Option (DTake × DL1Rd)
  | 0, _, _, _, _, _, _, _, _, _, _, _ => none
  | k + 1, x0, x1, x2, x3, x4, x5, x6, x7, x8, x9, x10 =>
    spec_l5Draw_l3 k (IntKind.wrap .i64 (x0 - 1)) x1 x2 x3 x4 x5 x6 x7 x8 x9 x10
noncomputable def spec_l5Draw_l9 : Nat → Int → Int → List Int → Int → Int → ByteArray → Int → ByteArray → List DHeld → List ByteArray → List DHeld → List ByteArray → Option (DTake × DL1Rd)
  | 0, _, _, _, _, _, _, _, _, _, _, _, _ => none
  | k + 1, x0, x1, x2, x3, x4, x5, x6, x7, x8, x9, x10, x11 =>
    both (
      (spec_l1Rd_pick k (⟨x2, x3⟩ : DL1Rd) 3).bind fun r9 =>
      (idx ([1, 5, 20] : List Int) r9.1).bind fun _ =>
      (([1, 5, 20] : List Int)[(Int.toNat r9.1)]?).bind fun y10 =>
      (spec_l1Many k (⟨#[116]⟩ : ByteArray) y10).bind fun r11 =>
      (spec_l1Rd_pick k r9.2 3).bind fun r12 =>
      (spec_TakePart k (⟨x6, x10, x7, x11⟩ : DTake) x1 (⟨r11, (r12.1 == 0)⟩ : DPart)).bind fun r13 =>
      spec_l5Draw_l4 k x0 r12.2.b r12.2.p x4 x5 r13.Next r13.Open x8 x9 r13.Held r13.Ready
    ) (
      (spec_l1Rd_pick k (⟨x2, x3⟩ : DL1Rd) 3).bind fun r14 =>
      (idx ([1, 5, 20] : List Int) r14.1).bind fun _ =>
      (([1, 5, 20] : List Int)[(Int.toNat r14.1)]?).bind fun y15 =>
      (spec_l1Many k (⟨#[116]⟩ : ByteArray) y15).bind fun r16 =>
      (spec_l1Rd_pick k r14.2 3).bind fun r17 =>
      (spec_TakePart k (⟨x6, x10, x7, x11⟩ : DTake) x1 (⟨r16, (r17.1 == 0)⟩ : DPart)).bind fun r18 =>
      spec_l5Draw_l4 k x0 r17.2.b r17.2.p x4 x5 r18.Next r18.Open x8 x9 r18.Held r18.Ready
    )
end
noncomputable def spec_l5Draw (k : Nat) (a0 : DL1Rd) : Option (DTake × DL1Rd) :=
  (spec_l1Rd_pick k a0 4).bind fun r1 =>
  (idx ([0, 0, 5, 999996] : List Int) r1.1).bind fun _ =>
  (([0, 0, 5, 999996] : List Int)[(Int.toNat r1.1)]?).bind fun y2 =>
  (spec_l1Rd_pick k r1.2 24).bind fun r3 =>
  spec_l5Draw_l3 k r3.1 r3.2.b r3.2.p 0 (⟨#[]⟩ : ByteArray) y2 (⟨#[]⟩ : ByteArray) ([] : List DHeld) ([] : List ByteArray) ([] : List DHeld) ([] : List ByteArray)
mutual
noncomputable def spec_l5Spoil_l20 : Nat → List Int → Int → Int → ByteArray → Int → ByteArray → List DHeld → List ByteArray → List DHeld → List ByteArray → Option (DTake × DL1Rd)
  | 0, _, _, _, _, _, _, _, _, _, _ => none
  | k + 1, x0, x1, x2, x3, x4, x5, x6, x7, x8, x9 =>
    some ((⟨x4, x8, x5, x9⟩ : DTake), (⟨x0, x1⟩ : DL1Rd))
noncomputable def spec_l5Spoil_l15 : Nat → Int → List Int → Int → Int → ByteArray → Int → ByteArray → List DHeld → List ByteArray → List DHeld → List ByteArray → Option (DTake × DL1Rd)
  | 0, _, _, _, _, _, _, _, _, _, _, _ => none
  | k + 1, x0, x1, x2, x3, x4, x5, x6, x7, x8, x9, x10 =>
    bif (decide ((x10.length : Int) < x0)) then
      (app 16 x10 ([(⟨#[]⟩ : ByteArray)] : List ByteArray)).bind fun l20 =>
      spec_l5Spoil_l15 k x0 x1 x2 x3 x4 x5 x6 x7 x8 x9 l20
    else
      spec_l5Spoil_l20 k x1 x2 x3 x4 x5 x6 x7 x8 x9 x10
end
noncomputable def spec_l5Spoil (k : Nat) (a0 : DL1Rd) (a1 : DTake) : Option (DTake × DL1Rd) :=
  (spec_l5Copy k a1).bind fun r1 =>
  (spec_l1Rd_pick k a0 7).bind fun r2 =>
  bif (r2.1 == 0) then
    both (
      (spec_l1Rd_pick k r2.2 4).bind fun r3 =>
      (idx ([(-1), 1000000, 1000001, (IntKind.wrap .i64 (r1.Next + 1))] : List Int) r3.1).bind fun _ =>
      (([(-1), 1000000, 1000001, (IntKind.wrap .i64 (r1.Next + 1))] : List Int)[(Int.toNat r3.1)]?).bind fun y4 =>
      spec_l5Spoil_l20 k r3.2.b r3.2.p 0 (⟨#[]⟩ : ByteArray) y4 r1.Open ([] : List DHeld) ([] : List ByteArray) r1.Held r1.Ready
    ) (
      (spec_l1Rd_pick k r2.2 4).bind fun r5 =>
      (idx ([(-1), 1000000, 1000001, (IntKind.wrap .i64 (r1.Next + 1))] : List Int) r5.1).bind fun _ =>
      (([(-1), 1000000, 1000001, (IntKind.wrap .i64 (r1.Next + 1))] : List Int)[(Int.toNat r5.1)]?).bind fun y6 =>
      spec_l5Spoil_l20 k r5.2.b r5.2.p 0 (⟨#[]⟩ : ByteArray) y6 r1.Open ([] : List DHeld) ([] : List ByteArray) r1.Held r1.Ready
    )
  else
    bif (r2.1 == 1) then
      (spec_l1Rd_pick k r2.2 10).bind fun r7 =>
      (app 32 r1.Held ([(⟨(IntKind.wrap .i64 (r1.Next + r7.1)), (⟨(⟨#[]⟩ : ByteArray), false⟩ : DPart)⟩ : DHeld)] : List DHeld)).bind fun l8 =>
      spec_l5Spoil_l20 k r7.2.b r7.2.p 0 (⟨#[]⟩ : ByteArray) r1.Next r1.Open ([] : List DHeld) ([] : List ByteArray) l8 r1.Ready
    else
      bif (r2.1 == 2) then
        (spec_l1Rd_pick k r2.2 2).bind fun r9 =>
        (spec_l1Many k (⟨#[111]⟩ : ByteArray) (IntKind.wrap .i64 (200 + r9.1))).bind fun r10 =>
        spec_l5Spoil_l20 k r9.2.b r9.2.p 0 (⟨#[]⟩ : ByteArray) r1.Next r10 ([] : List DHeld) ([] : List ByteArray) r1.Held r1.Ready
      else
        bif (r2.1 == 3) then
          (spec_l1Rd_pick k r2.2 2).bind fun r11 =>
          (spec_l1Many k (⟨#[114]⟩ : ByteArray) (IntKind.wrap .i64 (200 + r11.1))).bind fun r12 =>
          (app 16 r1.Ready ([r12] : List ByteArray)).bind fun l13 =>
          spec_l5Spoil_l20 k r11.2.b r11.2.p 0 (⟨#[]⟩ : ByteArray) r1.Next r1.Open ([] : List DHeld) ([] : List ByteArray) r1.Held l13
        else
          bif (r2.1 == 4) then
            (spec_l1Rd_pick k r2.2 2).bind fun r14 =>
            spec_l5Spoil_l15 k (IntKind.wrap .i64 (4 + r14.1)) r14.2.b r14.2.p 0 (⟨#[]⟩ : ByteArray) r1.Next r1.Open ([] : List DHeld) ([] : List ByteArray) r1.Held r1.Ready
          else
            bif (r2.1 == 5) then
              bif (decide ((r1.Held.length : Int) > 0)) then
                (spec_l1Rd_pick k r2.2 2).bind fun r15 =>
                (spec_l1Many k (⟨#[104]⟩ : ByteArray) (IntKind.wrap .i64 (20 + r15.1))).bind fun r16 =>
                (idx r1.Held 0).bind fun _ =>
                (r1.Held[(Int.toNat 0)]?).bind fun y17 =>
                spec_l5Spoil_l20 k r15.2.b r15.2.p 0 (⟨#[]⟩ : ByteArray) r1.Next r1.Open ([] : List DHeld) ([] : List ByteArray) (r1.Held.set (Int.toNat 0) (⟨y17.Seq, (⟨r16, y17.Part.Last⟩ : DPart)⟩ : DHeld)) r1.Ready
              else
                spec_l5Spoil_l20 k r2.2.b r2.2.p 0 (⟨#[]⟩ : ByteArray) r1.Next r1.Open ([] : List DHeld) ([] : List ByteArray) r1.Held r1.Ready
            else
              bif (decide ((r1.Held.length : Int) > 0)) then
                (idx r1.Held 0).bind fun _ =>
                (r1.Held[(Int.toNat 0)]?).bind fun y18 =>
                (app 32 r1.Held ([y18] : List DHeld)).bind fun l19 =>
                spec_l5Spoil_l20 k r2.2.b r2.2.p 0 (⟨#[]⟩ : ByteArray) r1.Next r1.Open ([] : List DHeld) ([] : List ByteArray) l19 r1.Ready
              else
                spec_l5Spoil_l20 k r2.2.b r2.2.p 0 (⟨#[]⟩ : ByteArray) r1.Next r1.Open ([] : List DHeld) ([] : List ByteArray) r1.Held r1.Ready
noncomputable def spec_l5Any (k : Nat) (a0 : DL1Rd) : Option (DTake × DL1Rd) :=
  (spec_l5Draw k a0).bind fun r1 =>
  (spec_l1Rd_pick k r1.2 8).bind fun r2 =>
  bif (r2.1 == 0) then
    (spec_l5Spoil k r2.2 r1.1).bind fun r3 =>
    some (r3.1, r3.2)
  else
    some (r1.1, r2.2)
noncomputable def spec_l6Spoil_l20 : Nat → List Int → Int → Int → Bool → Int → Int → Int → Bool → Int → Int → ByteArray → Int → Bool → Int → Int → Int → Bool → Int → Int → ByteArray → List DItem → List DHeld → List ByteArray → List DItem → List DHeld → List ByteArray → Option (DEnd × DL1Rd)
  | 0, _, _, _, _, _, _, _, _, _, _, _, _, _, _, _, _, _, _, _, _, _, _, _, _, _, _ => none
  | k + 1, x0, x1, x2, x3, x4, x5, x6, x7, x8, x9, x10, x11, x12, x13, x14, x15, x16, x17, x18, x19, x20, x21, x22, x23, x24, x25 =>
    some ((⟨x11, x12, x13, x14, x15, x16, (⟨x17, x23⟩ : DSend), (⟨x18, x24, x19, x25⟩ : DTake)⟩ : DEnd), (⟨x0, x1⟩ : DL1Rd))
noncomputable def spec_l6Spoil (k : Nat) (a0 : DL1Rd) (a1 : DEnd) : Option (DEnd × DL1Rd) :=
  (spec_l6Copy k a1).bind fun r1 =>
  (spec_l1Rd_pick k a0 9).bind fun r2 =>
  bif (r2.1 == 0) then
    (spec_l1Rd_pick k r2.2 5).bind fun r3 =>
    spec_l6Spoil_l20 k r3.2.b r3.2.p 0 false 0 0 0 false 0 0 (⟨#[]⟩ : ByteArray) (IntKind.wrap .i64 (r3.1 - 1)) r1.Up r1.Life r1.Peer r1.Since r1.Owes r1.Send.Base r1.Take.Next r1.Take.Open ([] : List DItem) ([] : List DHeld) ([] : List ByteArray) r1.Send.Items r1.Take.Held r1.Take.Ready
  else
    bif (r2.1 == 1) then
      spec_l6Spoil_l20 k r2.2.b r2.2.p 0 false 0 0 0 false 0 0 (⟨#[]⟩ : ByteArray) r1.Number (!r1.Up) r1.Life r1.Peer r1.Since r1.Owes r1.Send.Base r1.Take.Next r1.Take.Open ([] : List DItem) ([] : List DHeld) ([] : List ByteArray) r1.Send.Items r1.Take.Held r1.Take.Ready
    else
      bif (r2.1 == 2) then
        (spec_l1Rd_pick k r2.2 3).bind fun r4 =>
        (idx ([0, 1000, 1001] : List Int) r4.1).bind fun _ =>
        (([0, 1000, 1001] : List Int)[(Int.toNat r4.1)]?).bind fun y5 =>
        spec_l6Spoil_l20 k r4.2.b r4.2.p 0 false 0 0 0 false 0 0 (⟨#[]⟩ : ByteArray) r1.Number r1.Up y5 r1.Peer r1.Since r1.Owes r1.Send.Base r1.Take.Next r1.Take.Open ([] : List DItem) ([] : List DHeld) ([] : List ByteArray) r1.Send.Items r1.Take.Held r1.Take.Ready
      else
        bif (r2.1 == 3) then
          (spec_l1Rd_pick k r2.2 4).bind fun r6 =>
          (idx ([(-1), 0, 1000, 1001] : List Int) r6.1).bind fun _ =>
          (([(-1), 0, 1000, 1001] : List Int)[(Int.toNat r6.1)]?).bind fun y7 =>
          spec_l6Spoil_l20 k r6.2.b r6.2.p 0 false 0 0 0 false 0 0 (⟨#[]⟩ : ByteArray) r1.Number r1.Up r1.Life y7 r1.Since r1.Owes r1.Send.Base r1.Take.Next r1.Take.Open ([] : List DItem) ([] : List DHeld) ([] : List ByteArray) r1.Send.Items r1.Take.Held r1.Take.Ready
        else
          bif (r2.1 == 4) then
            (spec_l1Rd_pick k r2.2 3).bind fun r8 =>
            (idx ([(-1), 1000000, 1000001] : List Int) r8.1).bind fun _ =>
            (([(-1), 1000000, 1000001] : List Int)[(Int.toNat r8.1)]?).bind fun y9 =>
            spec_l6Spoil_l20 k r8.2.b r8.2.p 0 false 0 0 0 false 0 0 (⟨#[]⟩ : ByteArray) r1.Number r1.Up r1.Life r1.Peer y9 r1.Owes r1.Send.Base r1.Take.Next r1.Take.Open ([] : List DItem) ([] : List DHeld) ([] : List ByteArray) r1.Send.Items r1.Take.Held r1.Take.Ready
          else
            bif (r2.1 == 5) then
              spec_l6Spoil_l20 k r2.2.b r2.2.p 0 false 0 0 0 false 0 0 (⟨#[]⟩ : ByteArray) r1.Number r1.Up r1.Life r1.Peer r1.Since (!r1.Owes) r1.Send.Base r1.Take.Next r1.Take.Open ([] : List DItem) ([] : List DHeld) ([] : List ByteArray) r1.Send.Items r1.Take.Held r1.Take.Ready
            else
              bif (r2.1 == 6) then
                (spec_l4Any k r2.2).bind fun r10 =>
                spec_l6Spoil_l20 k r10.2.b r10.2.p 0 false 0 0 0 false 0 0 (⟨#[]⟩ : ByteArray) r1.Number r1.Up r1.Life r1.Peer r1.Since r1.Owes r10.1.Base r1.Take.Next r1.Take.Open ([] : List DItem) ([] : List DHeld) ([] : List ByteArray) r10.1.Items r1.Take.Held r1.Take.Ready
              else
                bif (r2.1 == 7) then
                  (spec_l5Any k r2.2).bind fun r11 =>
                  spec_l6Spoil_l20 k r11.2.b r11.2.p 0 false 0 0 0 false 0 0 (⟨#[]⟩ : ByteArray) r1.Number r1.Up r1.Life r1.Peer r1.Since r1.Owes r1.Send.Base r11.1.Next r11.1.Open ([] : List DItem) ([] : List DHeld) ([] : List ByteArray) r1.Send.Items r11.1.Held r11.1.Ready
                else
                  (spec_l5Spoil k r2.2 r1.Take).bind fun r12 =>
                  spec_l6Spoil_l20 k r12.2.b r12.2.p 0 false 0 0 0 false 0 0 (⟨#[]⟩ : ByteArray) r1.Number r1.Up r1.Life r1.Peer r1.Since r1.Owes r1.Send.Base r12.1.Next r12.1.Open ([] : List DItem) ([] : List DHeld) ([] : List ByteArray) r1.Send.Items r12.1.Held r12.1.Ready
noncomputable def spec_DrawReached (k : Nat) (a0 : List Int) : Option (DWorld) :=
  (spec_l1Open k a0).bind fun r1 =>
  (spec_l7Reached k r1).bind fun r2 =>
  some r2.1
mutual
noncomputable def spec_DrawEvents_l5 : Nat → Int → Int → List Int → Int → List DEvent → Option (List DEvent)
  | 0, _, _, _, _, _ => none
  | k + 1, x0, x1, x2, x3, x4 =>
    bif (decide (x1 < x0)) then
      (spec_l7Event k (⟨x2, x3⟩ : DL1Rd)).bind fun r3 =>
      (app 48 x4 ([r3.1] : List DEvent)).bind fun l4 =>
      (spec_l1Rd_pick k r3.2 5).bind fun r5 =>
      bif (r5.1 == 0) then
        (spec_l1Rd_pick k r5.2 6).bind fun r6 =>
        spec_DrawEvents_l10 k x0 x1 r6.1 r6.2.b r6.2.p l4
      else
        spec_DrawEvents_l17 k x0 x1 r5.2.b r5.2.p l4
    else
      some x4
noncomputable def spec_DrawEvents_l10 : Nat → Int → Int → Int → List Int → Int → List DEvent → Option (List DEvent)
  | 0, _, _, _, _, _, _ => none
  | k + 1, x0, x1, x2, x3, x4, x5 =>
    bif (decide (x2 > 0)) then
      (app 48 x5 ([(⟨1, 0, 0, 0, (⟨#[]⟩ : ByteArray)⟩ : DEvent)] : List DEvent)).bind fun l7 =>
      (spec_l1Rd_pick k (⟨x3, x4⟩ : DL1Rd) 5).bind fun r8 =>
      spec_DrawEvents_l14 k x0 x1 x2 r8.1 r8.2.b r8.2.p l7
    else
      spec_DrawEvents_l17 k x0 x1 x3 x4 x5
noncomputable def spec_DrawEvents_l17 : Nat → Int → Int → List Int → Int → List DEvent → Option (List DEvent)
  | 0, _, _, _, _, _ => none
  | k + 1, x0, x1, x2, x3, x4 =>
    (spec_l1Rd_pick k (⟨x2, x3⟩ : DL1Rd) 12).bind fun r9 =>
    bif (r9.1 == 0) then
      (app 48 x4 ([(⟨9, 1, 0, 0, (⟨#[]⟩ : ByteArray)⟩ : DEvent), (⟨9, 2, 0, 0, (⟨#[]⟩ : ByteArray)⟩ : DEvent)] : List DEvent)).bind fun l10 =>
      spec_DrawEvents_l6 k x0 x1 r9.2.b r9.2.p l10
    else
      spec_DrawEvents_l6 k x0 x1 r9.2.b r9.2.p x4
noncomputable def spec_DrawEvents_l14 : Nat → Int → Int → Int → Int → List Int → Int → List DEvent → Option (List DEvent)
  | 0, _, _, _, _, _, _, _ => none
  | k + 1, x0, x1, x2, x3, x4, x5, x6 =>
    bif (decide (x3 > 0)) then
      (app 48 x6 ([(⟨2, 0, 0, 0, (⟨#[]⟩ : ByteArray)⟩ : DEvent)] : List DEvent)).bind fun l11 =>
      spec_DrawEvents_l14 k x0 x1 x2 (IntKind.wrap .i64 (x3 - 1)) x4 x5 l11
    else
      spec_DrawEvents_l10 k x0 x1 (IntKind.wrap .i64 (x2 - 1)) x4 x5 x6
noncomputable def spec_DrawEvents_l6 : Nat → Int → Int → List Int → Int → List DEvent → Option (List DEvent)
  | 0, _, _, _, _, _ => none
  | k + 1, x0, x1, x2, x3, x4 =>
    spec_DrawEvents_l5 k x0 (IntKind.wrap .i64 (x1 + 1)) x2 x3 x4
end
noncomputable def spec_DrawEvents (k : Nat) (a0 : List Int) : Option (List DEvent) :=
  (spec_l1Open k a0).bind fun r1 =>
  (spec_l1Rd_pick k r1 50).bind fun r2 =>
  spec_DrawEvents_l5 k (IntKind.wrap .i64 (10 + r2.1)) 0 r2.2.b r2.2.p ([] : List DEvent)
end Km.X
namespace Km.X
open Go Km
set_option linter.unusedVariables false
set_option maxRecDepth 100000
mutual
noncomputable def laws_FnSends_l13 : Nat → Int → Int → List Int → List Int → List DItem → Option (Bool)
  | 0, _, _, _, _, _ => none
  | k + 1, x0, x1, x2, x3, x4 =>
    bif (decide (x0 < 12)) then
      (impl_SendTick k (⟨x1, x4⟩ : DSend)).bind fun r10 =>
      bif ((r10.1.Items.length : Int) != (x4.length : Int)) then
        some false
      else
        bif (r10.1.Base != x1) then
          some false
        else
          (impl_ValidSend k r10.1).bind fun r11 =>
          bif (!r11) then
            some false
          else
            laws_FnSends_l19 k x0 0 x1 x2 x3 r10.1.Base r10.2 x4 r10.1.Items
    else
      laws_FnSends_l30 k 0 x1 x2 x4
noncomputable def laws_FnSends_l19 : Nat → Int → Int → Int → List Int → List Int → Int → List Int → List DItem → List DItem → Option (Bool)
  | 0, _, _, _, _, _, _, _, _, _ => none
  | k + 1, x0, x1, x2, x3, x4, x5, x6, x7, x8 =>
    bif (decide (x1 < (x6.length : Int))) then
      (idx x6 x1).bind fun _ =>
      (x6[(Int.toNat x1)]?).bind fun y12 =>
      bif (decide ((IntKind.wrap .i64 (y12 - x2)) < 0)) then
        some false
      else
        bif (decide ((IntKind.wrap .i64 (y12 - x2)) ≥ 8)) then
          some false
        else
          bif (decide ((IntKind.wrap .i64 (y12 - x2)) ≥ (x7.length : Int))) then
            some false
          else
            (idx x7 (IntKind.wrap .i64 (y12 - x2))).bind fun _ =>
            (x7[(Int.toNat (IntKind.wrap .i64 (y12 - x2)))]?).bind fun y13 =>
            bif y13.Has then
              some false
            else
              bif (decide (x1 > 0)) then
                (idx x6 (IntKind.wrap .i64 (x1 - 1))).bind fun _ =>
                (x6[(Int.toNat (IntKind.wrap .i64 (x1 - 1)))]?).bind fun y14 =>
                (idx x6 x1).bind fun _ =>
                (x6[(Int.toNat x1)]?).bind fun y15 =>
                bif (decide (y14 ≥ y15)) then
                  some false
                else
                  (idx x3 (IntKind.wrap .i64 (y12 - x2))).bind fun _ =>
                  (x3[(Int.toNat (IntKind.wrap .i64 (y12 - x2)))]?).bind fun y16 =>
                  bif (decide (y16 > 0)) then
                    (idx x4 (IntKind.wrap .i64 (y12 - x2))).bind fun _ =>
                    (x4[(Int.toNat (IntKind.wrap .i64 (y12 - x2)))]?).bind fun y17 =>
                    bif ((IntKind.wrap .i64 (x0 - y17)) != 4) then
                      some false
                    else
                      (idx x3 (IntKind.wrap .i64 (y12 - x2))).bind fun _ =>
                      (x3[(Int.toNat (IntKind.wrap .i64 (y12 - x2)))]?).bind fun y18 =>
                      (idx x3 (IntKind.wrap .i64 (y12 - x2))).bind fun _ =>
                      (x3[(Int.toNat (IntKind.wrap .i64 (y12 - x2)))]?).bind fun y19 =>
                      (idx x4 (IntKind.wrap .i64 (y12 - x2))).bind fun _ =>
                      (x4[(Int.toNat (IntKind.wrap .i64 (y12 - x2)))]?).bind fun y20 =>
                      laws_FnSends_l19 k x0 (IntKind.wrap .i64 (x1 + 1)) x2 (x3.set (Int.toNat (IntKind.wrap .i64 (y12 - x2))) (IntKind.wrap .i64 (y18 + 1))) (x4.set (Int.toNat (IntKind.wrap .i64 (y12 - x2))) x0) x5 x6 x7 x8
                  else
                    (idx x3 (IntKind.wrap .i64 (y12 - x2))).bind fun _ =>
                    (x3[(Int.toNat (IntKind.wrap .i64 (y12 - x2)))]?).bind fun y21 =>
                    (idx x3 (IntKind.wrap .i64 (y12 - x2))).bind fun _ =>
                    (x3[(Int.toNat (IntKind.wrap .i64 (y12 - x2)))]?).bind fun y22 =>
                    (idx x4 (IntKind.wrap .i64 (y12 - x2))).bind fun _ =>
                    (x4[(Int.toNat (IntKind.wrap .i64 (y12 - x2)))]?).bind fun y23 =>
                    laws_FnSends_l19 k x0 (IntKind.wrap .i64 (x1 + 1)) x2 (x3.set (Int.toNat (IntKind.wrap .i64 (y12 - x2))) (IntKind.wrap .i64 (y21 + 1))) (x4.set (Int.toNat (IntKind.wrap .i64 (y12 - x2))) x0) x5 x6 x7 x8
              else
                (idx x3 (IntKind.wrap .i64 (y12 - x2))).bind fun _ =>
                (x3[(Int.toNat (IntKind.wrap .i64 (y12 - x2)))]?).bind fun y24 =>
                bif (decide (y24 > 0)) then
                  (idx x4 (IntKind.wrap .i64 (y12 - x2))).bind fun _ =>
                  (x4[(Int.toNat (IntKind.wrap .i64 (y12 - x2)))]?).bind fun y25 =>
                  bif ((IntKind.wrap .i64 (x0 - y25)) != 4) then
                    some false
                  else
                    (idx x3 (IntKind.wrap .i64 (y12 - x2))).bind fun _ =>
                    (x3[(Int.toNat (IntKind.wrap .i64 (y12 - x2)))]?).bind fun y26 =>
                    (idx x3 (IntKind.wrap .i64 (y12 - x2))).bind fun _ =>
                    (x3[(Int.toNat (IntKind.wrap .i64 (y12 - x2)))]?).bind fun y27 =>
                    (idx x4 (IntKind.wrap .i64 (y12 - x2))).bind fun _ =>
                    (x4[(Int.toNat (IntKind.wrap .i64 (y12 - x2)))]?).bind fun y28 =>
                    laws_FnSends_l19 k x0 (IntKind.wrap .i64 (x1 + 1)) x2 (x3.set (Int.toNat (IntKind.wrap .i64 (y12 - x2))) (IntKind.wrap .i64 (y26 + 1))) (x4.set (Int.toNat (IntKind.wrap .i64 (y12 - x2))) x0) x5 x6 x7 x8
                else
                  (idx x3 (IntKind.wrap .i64 (y12 - x2))).bind fun _ =>
                  (x3[(Int.toNat (IntKind.wrap .i64 (y12 - x2)))]?).bind fun y29 =>
                  (idx x3 (IntKind.wrap .i64 (y12 - x2))).bind fun _ =>
                  (x3[(Int.toNat (IntKind.wrap .i64 (y12 - x2)))]?).bind fun y30 =>
                  (idx x4 (IntKind.wrap .i64 (y12 - x2))).bind fun _ =>
                  (x4[(Int.toNat (IntKind.wrap .i64 (y12 - x2)))]?).bind fun y31 =>
                  laws_FnSends_l19 k x0 (IntKind.wrap .i64 (x1 + 1)) x2 (x3.set (Int.toNat (IntKind.wrap .i64 (y12 - x2))) (IntKind.wrap .i64 (y29 + 1))) (x4.set (Int.toNat (IntKind.wrap .i64 (y12 - x2))) x0) x5 x6 x7 x8
    else
      laws_FnSends_l13 k (IntKind.wrap .i64 (x0 + 1)) x5 x3 x4 x8
noncomputable def laws_FnSends_l30 : Nat → Int → Int → List Int → List DItem → Option (Bool)
  | 0, _, _, _, _ => none
  | k + 1, x0, x1, x2, x3 =>
    bif (decide (x0 < (x3.length : Int))) then
      bif (decide (x0 < 8)) then
        (idx x3 x0).bind fun _ =>
        (x3[(Int.toNat x0)]?).bind fun y32 =>
        bif (!y32.Has) then
          (idx x2 x0).bind fun _ =>
          (x2[(Int.toNat x0)]?).bind fun y33 =>
          bif (y33 != 3) then
            some false
          else
            laws_FnSends_l30 k (IntKind.wrap .i64 (x0 + 1)) x1 x2 x3
        else
          laws_FnSends_l30 k (IntKind.wrap .i64 (x0 + 1)) x1 x2 x3
      else
        some true
    else
      some true
end
noncomputable def laws_FnSends (k : Nat) (a0 : List Int) : Option (Bool) :=
  bif (decide ((a0.length : Int) > 1048576)) then
    some true
  else
    (spec_DrawSendWord k a0).bind fun r1 =>
    (impl_SendWord k r1.1 r1.2.1 r1.2.2).bind fun r2 =>
    (spec_SendWord k r1.1 r1.2.1 r1.2.2).bind fun r3 =>
    (laws_wSend k r2 r3).bind fun r4 =>
    bif (!r4) then
      some false
    else
      (spec_ValidSend k r1.1).bind fun r5 =>
      bif (!r5) then
        (impl_SendTick k r1.1).bind fun r6 =>
        (impl_ValidSend k r1.1).bind fun r7 =>
        bif (!r7) then
          bif ((r2.Items.length : Int) == 0) then
            some ((r6.2.length : Int) == 0)
          else
            some false
        else
          some false
      else
        (if (8 : Int) = 8 then room 8 8 else none).bind fun n8 =>
        (if (8 : Int) = 8 then room 8 8 else none).bind fun n9 =>
        laws_FnSends_l13 k 0 r2.Base (List.replicate n8 0) (List.replicate n9 0) r2.Items
end Km.X
