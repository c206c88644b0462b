/- A part of the proof of FnSafe: the functions that it reads off the program. There is no condition. -/
import Derived.Test.YtnhnpggoknepfaaKxDef1
namespace Km.X
open Go Km
set_option linter.unusedVariables false
set_option maxRecDepth 100000
end Km.X
namespace Km.X
open Go Km
set_option linter.unusedVariables false
set_option maxRecDepth 100000
noncomputable def spec_l1Open_l3 : Nat → List Int → Option (DL1Rd)
  | 0, _ => none
  | k + 1, x0 =>
    some (⟨x0, 0⟩ : DL1Rd)
noncomputable def spec_l1Open (k : Nat) (a0 : List Int) : Option (DL1Rd) :=
  bif (decide ((a0.length : Int) > 2000)) then
    (wnd a0.length 0 2000).bind fun p1 =>
    spec_l1Open_l3 k (dcut a0 p1.1 p1.2)
  else
    spec_l1Open_l3 k a0
noncomputable def spec_l1Rd_pick (k : Nat) (a0 : DL1Rd) (a1 : Int) : Option (Int × DL1Rd) :=
  bif (decide (a1 < 1)) then
    some (0, (⟨a0.b, (IntKind.wrap .i64 (a0.p + 1))⟩ : DL1Rd))
  else
    bif ((a0.b.length : Int) == 0) then
      some (0, (⟨a0.b, (IntKind.wrap .i64 (a0.p + 1))⟩ : DL1Rd))
    else
      bif (decide ((IntKind.wrap .i64 ((IntKind.wrap .i64 (a0.p + 1)) - 1)) < (a0.b.length : Int))) then
        (idx a0.b (IntKind.wrap .i64 ((IntKind.wrap .i64 (a0.p + 1)) - 1))).bind fun y1 =>
        (qrem (IntKind.wrap .i64 y1) a1).bind fun q2 =>
        some (q2, (⟨a0.b, (IntKind.wrap .i64 (a0.p + 1))⟩ : DL1Rd))
      else
        (qrem (IntKind.wrap .i64 ((IntKind.wrap .i64 (a0.p + 1)) - 1)) (a0.b.length : Int)).bind fun q3 =>
        (idx a0.b q3).bind fun y4 =>
        (qrem (IntKind.wrap .i64 ((IntKind.wrap .i64 ((IntKind.wrap .i64 ((IntKind.wrap .i64 (a0.p + 1)) - 1)) * 7)) + 3)) (a0.b.length : Int)).bind fun q5 =>
        (idx a0.b q5).bind fun y6 =>
        (qdiv (IntKind.wrap .i64 ((IntKind.wrap .i64 (a0.p + 1)) - 1)) (a0.b.length : Int)).bind fun q7 =>
        (qdiv (IntKind.wrap .i64 ((IntKind.wrap .i64 ((IntKind.wrap .i64 ((IntKind.wrap .i64 ((IntKind.wrap .i64 y4) * 131)) + (IntKind.wrap .i64 ((IntKind.wrap .i64 y6) * 1117)))) + (IntKind.wrap .i64 ((IntKind.wrap .i64 ((IntKind.wrap .i64 (a0.p + 1)) - 1)) * 29)))) + (IntKind.wrap .i64 ((IntKind.wrap .i64 (q7)) * 53)))) 64).bind fun q8 =>
        (qrem (bitsXor .i64 (IntKind.wrap .i64 ((IntKind.wrap .i64 ((IntKind.wrap .i64 ((IntKind.wrap .i64 ((IntKind.wrap .i64 y4) * 131)) + (IntKind.wrap .i64 ((IntKind.wrap .i64 y6) * 1117)))) + (IntKind.wrap .i64 ((IntKind.wrap .i64 ((IntKind.wrap .i64 (a0.p + 1)) - 1)) * 29)))) + (IntKind.wrap .i64 ((IntKind.wrap .i64 (q7)) * 53)))) (IntKind.wrap .i64 (q8))) a1).bind fun q9 =>
        some (q9, (⟨a0.b, (IntKind.wrap .i64 (a0.p + 1))⟩ : DL1Rd))
mutual
noncomputable def spec_l1Many_l2 : Nat → ByteArray → Int → ByteArray → Option (ByteArray)
  | 0, _, _, _ => none
  | k + 1, x0, x1, x2 =>
    bif (decide (x1 > 0)) then
      (qrem x1 2).bind fun q1 =>
      bif (q1 == 1) then
        (sadd x2 x0).bind fun t2 =>
        spec_l1Many_l5 k x0 x1 t2
      else
        spec_l1Many_l5 k x0 x1 x2
    else
      some x2
noncomputable def spec_l1Many_l5 : Nat → ByteArray → Int → ByteArray → Option (ByteArray)
  | 0, _, _, _ => none
  | k + 1, x0, x1, x2 =>
    (sadd x0 x0).bind fun t3 =>
    (qdiv x1 2).bind fun q4 =>
    spec_l1Many_l2 k t3 (IntKind.wrap .i64 (q4)) x2
end
noncomputable def spec_l1Many (k : Nat) (a0 : ByteArray) (a1 : Int) : Option (ByteArray) :=
  spec_l1Many_l2 k a0 a1 (⟨#[]⟩ : ByteArray)
noncomputable def spec_l1Message_l12 : Nat → ByteArray → Int → List Int → Int → Option (ByteArray × DL1Rd)
  | 0, _, _, _, _ => none
  | k + 1, x0, x1, x2, x3 =>
    bif (decide (x1 > 0)) then
      (spec_l1Rd_pick k (⟨x2, x3⟩ : DL1Rd) 5).bind fun r10 =>
      (wnd (⟨#[97, 98, 99, 100, 32]⟩ : ByteArray).size r10.1 ((⟨#[97, 98, 99, 100, 32]⟩ : ByteArray).size : Int)).bind fun p11 =>
      (wnd ((⟨#[97, 98, 99, 100, 32]⟩ : ByteArray).extract p11.1 p11.2).size 0 1).bind fun p12 =>
      (sadd x0 (((⟨#[97, 98, 99, 100, 32]⟩ : ByteArray).extract p11.1 p11.2).extract p12.1 p12.2)).bind fun t13 =>
      spec_l1Message_l12 k t13 (IntKind.wrap .i64 (x1 - 1)) r10.2.b r10.2.p
    else
      some (x0, (⟨x2, x3⟩ : DL1Rd))
noncomputable def spec_l1Message (k : Nat) (a0 : DL1Rd) : Option (ByteArray × DL1Rd) :=
  (spec_l1Rd_pick k a0 8).bind fun r1 =>
  bif (r1.1 == 0) then
    some ((⟨#[]⟩ : ByteArray), r1.2)
  else
    bif (r1.1 == 1) then
      (spec_l1Rd_pick k r1.2 5).bind fun r2 =>
      (spec_l1Rd_pick k r2.2 3).bind fun r3 =>
      (spec_l1Rd_pick k r3.2 2).bind fun r4 =>
      (spec_l1Rd_pick k r4.2 2).bind fun r5 =>
      (spec_l1Many k (⟨#[109]⟩ : ByteArray) (IntKind.wrap .i64 ((IntKind.wrap .i64 ((IntKind.wrap .i64 (20 * r2.1)) + r3.1)) - (IntKind.wrap .i64 (r4.1 * r5.1))))).bind fun r6 =>
      some (r6, r5.2)
    else
      bif (r1.1 == 2) then
        (spec_l1Rd_pick k r1.2 19).bind fun r7 =>
        (spec_l1Many k (⟨#[48, 49, 50, 51, 52, 53, 54, 55, 56, 57]⟩ : ByteArray) (IntKind.wrap .i64 (1 + r7.1))).bind fun r8 =>
        some (r8, r7.2)
      else
        bif (r1.1 == 3) then
          some ((⟨#[0, 255]⟩ : ByteArray), r1.2)
        else
          (spec_l1Rd_pick k r1.2 30).bind fun r9 =>
          spec_l1Message_l12 k (⟨#[]⟩ : ByteArray) (IntKind.wrap .i64 (1 + r9.1)) r9.2.b r9.2.p
mutual
noncomputable def spec_l4Draw_l3 : Nat → Int → List Int → Int → Int → Int → List DItem → List DItem → Option (DSend × DL1Rd)
  | 0, _, _, _, _, _, _, _ => none
  | k + 1, x0, x1, x2, x3, x4, x5, x6 =>
    bif (decide (x0 > 0)) then
      both (
        (spec_l1Message k (⟨x1, x2⟩ : DL1Rd)).bind fun r4 =>
        (spec_SendPush k (⟨x4, x6⟩ : DSend) r4.1).bind fun r5 =>
        bif (r5.2 == 0) then
          spec_l4Draw_l8 k x0 r4.2.b r4.2.p x3 r5.1.Base x5 r5.1.Items
        else
          spec_l4Draw_l8 k x0 r4.2.b r4.2.p x3 x4 x5 x6
      ) (
        both (
          (spec_l1Message k (⟨x1, x2⟩ : DL1Rd)).bind fun r6 =>
          (spec_SendPush k (⟨x4, x6⟩ : DSend) r6.1).bind fun r7 =>
          bif (r7.2 == 0) then
            spec_l4Draw_l8 k x0 r6.2.b r6.2.p x3 r7.1.Base x5 r7.1.Items
          else
            spec_l4Draw_l8 k x0 r6.2.b r6.2.p x3 x4 x5 x6
        ) (
          (spec_l1Message k (⟨x1, x2⟩ : DL1Rd)).bind fun r8 =>
          (spec_SendPush k (⟨x4, x6⟩ : DSend) r8.1).bind fun r9 =>
          bif (r9.2 == 0) then
            spec_l4Draw_l8 k x0 r8.2.b r8.2.p x3 r9.1.Base x5 r9.1.Items
          else
            spec_l4Draw_l8 k x0 r8.2.b r8.2.p x3 x4 x5 x6
        )
      )
    else
      (spec_l1Rd_pick k (⟨x1, x2⟩ : DL1Rd) 12).bind fun r10 =>
      bif (r10.1 == 0) then
        (spec_l1Rd_pick k r10.2 3).bind fun r11 =>
        spec_l4Draw_l16 k (IntKind.wrap .i64 (60 - r11.1)) r11.2.b r11.2.p x3 x4 x5 x6
      else
        spec_l4Draw_l18 k r10.2.b r10.2.p x3 x4 x5 x6
noncomputable def spec_l4Draw_l8 : Nat → Int → List Int → Int → Int → Int → List DItem → List DItem → Option (DSend × DL1Rd)
  | 0, _, _, _, _, _, _, _ => none
  | k + 1, x0, x1, x2, x3, x4, x5, x6 =>
    (spec_l1Rd_pick k (⟨x1, x2⟩ : DL1Rd) 6).bind fun r12 =>
    spec_l4Draw_l9 k x0 r12.1 r12.2.b r12.2.p x3 x4 x5 x6
noncomputable def spec_l4Draw_l16 : Nat → Int → List Int → Int → Int → Int → List DItem → List DItem → Option (DSend × DL1Rd)
  | 0, _, _, _, _, _, _, _ => none
  | k + 1, x0, x1, x2, x3, x4, x5, x6 =>
    bif (decide ((x6.length : Int) < x0)) then
      bif (decide ((IntKind.wrap .i64 (x4 + (x6.length : Int))) < 1000000)) then
        (app 40 x6 ([(⟨(⟨(⟨#[102]⟩ : ByteArray), true⟩ : DPart), false, (-1)⟩ : DItem)] : List DItem)).bind fun l13 =>
        spec_l4Draw_l16 k x0 x1 x2 x3 x4 x5 l13
      else
        spec_l4Draw_l18 k x1 x2 x3 x4 x5 x6
    else
      spec_l4Draw_l18 k x1 x2 x3 x4 x5 x6
noncomputable def spec_l4Draw_l18 : Nat → List Int → Int → Int → Int → List DItem → List DItem → Option (DSend × DL1Rd)
  | 0, _, _, _, _, _, _ => none
  | k + 1, x0, x1, x2, x3, x4, x5 =>
    (spec_l4Copy k (⟨x3, x5⟩ : DSend)).bind fun r14 =>
    some (r14, (⟨x0, x1⟩ : DL1Rd))
noncomputable def spec_l4Draw_l9 : Nat → Int → Int → List Int → Int → Int → Int → List DItem → List DItem → Option (DSend × DL1Rd)
  | 0, _, _, _, _, _, _, _, _ => none
  | k + 1, x0, x1, x2, x3, x4, x5, x6, x7 =>
    bif (decide (x1 > 0)) then
      (spec_SendTick k (⟨x5, x7⟩ : DSend)).bind fun r15 =>
      spec_l4Draw_l9 k x0 (IntKind.wrap .i64 (x1 - 1)) x2 x3 x4 r15.1.Base x6 r15.1.Items
    else
      (spec_l1Rd_pick k (⟨x2, x3⟩ : DL1Rd) 3).bind fun r16 =>
      bif (r16.1 == 0) then
        (spec_l1Rd_pick k r16.2 4).bind fun r17 =>
        (spec_l1Rd_pick k r17.2 256).bind fun r18 =>
        (spec_SendWord k (⟨x5, x7⟩ : DSend) (IntKind.wrap .i64 (x5 + r17.1)) r18.1).bind fun r19 =>
        spec_l4Draw_l4 k x0 r18.2.b r18.2.p x4 r19.Base x6 r19.Items
      else
        spec_l4Draw_l4 k x0 r16.2.b r16.2.p x4 x5 x6 x7
noncomputable def spec_l4Draw_l4 : Nat → Int → List Int → Int → Int → Int → List DItem → List DItem → Option (DSend × DL1Rd)
  | 0, _, _, _, _, _, _, _ => none
  | k + 1, x0, x1, x2, x3, x4, x5, x6 =>
    spec_l4Draw_l3 k (IntKind.wrap .i64 (x0 - 1)) x1 x2 x3 x4 x5 x6
end
mutual
noncomputable def spec_l4Spoil_l4 : Nat → List Int → Int → Int → Int → List DItem → List DItem → Option (DSend × DL1Rd)
  | 0, _, _, _, _, _, _ => none
  | k + 1, x0, x1, x2, x3, x4, x5 =>
    (spec_l1Rd_pick k (⟨x0, x1⟩ : DL1Rd) (x5.length : Int)).bind fun r2 =>
    (spec_l1Rd_pick k r2.2 6).bind fun r3 =>
    bif (r3.1 == 0) then
      (spec_l1Rd_pick k r3.2 3).bind fun r4 =>
      (idx ([(-1), 1000000, 1000001] : List Int) r4.1).bind fun y5 =>
      spec_l4Spoil_l21 k r4.2.b r4.2.p x2 y5 x4 x5
    else
      bif (r3.1 == 1) then
        (spec_l1Rd_pick k r3.2 5).bind fun r6 =>
        (idx ([(-2), (-1), 0, 3, 4] : List Int) r6.1).bind fun y7 =>
        (idx x5 r2.1).bind fun _ =>
        (x5[(Int.toNat r2.1)]?).bind fun y8 =>
        spec_l4Spoil_l21 k r6.2.b r6.2.p x2 x3 x4 (x5.set (Int.toNat r2.1) (⟨y8.Part, y8.Has, y7⟩ : DItem))
      else
        bif (r3.1 == 2) then
          (idx x5 r2.1).bind fun _ =>
          (x5[(Int.toNat r2.1)]?).bind fun y9 =>
          (idx x5 r2.1).bind fun _ =>
          (x5[(Int.toNat r2.1)]?).bind fun y10 =>
          spec_l4Spoil_l21 k r3.2.b r3.2.p x2 x3 x4 (x5.set (Int.toNat r2.1) (⟨y10.Part, (!y9.Has), y10.Since⟩ : DItem))
        else
          bif (r3.1 == 3) then
            (spec_l1Rd_pick k r3.2 2).bind fun r11 =>
            (spec_l1Many k (⟨#[115]⟩ : ByteArray) (IntKind.wrap .i64 (20 + r11.1))).bind fun r12 =>
            (idx x5 r2.1).bind fun _ =>
            (x5[(Int.toNat r2.1)]?).bind fun y13 =>
            spec_l4Spoil_l21 k r11.2.b r11.2.p x2 x3 x4 (x5.set (Int.toNat r2.1) (⟨(⟨r12, y13.Part.Last⟩ : DPart), y13.Has, y13.Since⟩ : DItem))
          else
            bif (r3.1 == 4) then
              (spec_l1Rd_pick k r3.2 2).bind fun r14 =>
              spec_l4Spoil_l19 k (IntKind.wrap .i64 (60 + r14.1)) r14.2.b r14.2.p x2 x3 x4 x5
            else
              spec_l4Spoil_l6 k r3.2.b r3.2.p x2 x3 x4 x5
noncomputable def spec_l4Spoil_l21 : Nat → List Int → Int → Int → Int → List DItem → List DItem → Option (DSend × DL1Rd)
  | 0, _, _, _, _, _, _ => none
  | k + 1, x0, x1, x2, x3, x4, x5 =>
    some ((⟨x3, x5⟩ : DSend), (⟨x0, x1⟩ : DL1Rd))
noncomputable def spec_l4Spoil_l19 : Nat → Int → List Int → Int → Int → Int → List DItem → List DItem → Option (DSend × DL1Rd)
  | 0, _, _, _, _, _, _, _ => none
  | k + 1, x0, x1, x2, x3, x4, x5, x6 =>
    bif (decide ((x6.length : Int) < x0)) then
      (app 40 x6 ([(⟨(⟨(⟨#[]⟩ : ByteArray), false⟩ : DPart), false, (-1)⟩ : DItem)] : List DItem)).bind fun l15 =>
      spec_l4Spoil_l19 k x0 x1 x2 x3 x4 x5 l15
    else
      spec_l4Spoil_l21 k x1 x2 x3 x4 x5 x6
noncomputable def spec_l4Spoil_l6 : Nat → List Int → Int → Int → Int → List DItem → List DItem → Option (DSend × DL1Rd)
  | 0, _, _, _, _, _, _ => none
  | k + 1, x0, x1, x2, x3, x4, x5 =>
    bif (decide ((x5.length : Int) ≤ 8)) then
      (app 40 x5 ([(⟨(⟨(⟨#[]⟩ : ByteArray), false⟩ : DPart), false, (-1)⟩ : DItem)] : List DItem)).bind fun l16 =>
      spec_l4Spoil_l6 k x0 x1 x2 x3 x4 l16
    else
      (spec_l1Rd_pick k (⟨x0, x1⟩ : DL1Rd) 2).bind fun r17 =>
      (idx x5 8).bind fun _ =>
      (x5[(Int.toNat 8)]?).bind fun y18 =>
      spec_l4Spoil_l21 k r17.2.b r17.2.p x2 x3 x4 (x5.set (Int.toNat 8) (⟨y18.Part, y18.Has, (IntKind.wrap .i64 (r17.1 - 1))⟩ : DItem))
end
noncomputable def spec_l1Key (k : Nat) (a0 : DL1Rd) : Option (ByteArray × DL1Rd) :=
  (spec_l1Many k (⟨#[107]⟩ : ByteArray) 30).bind fun r1 =>
  (spec_l1Rd_pick k a0 4).bind fun r2 =>
  (idx ([(⟨#[107, 101, 121]⟩ : ByteArray), (⟨#[107]⟩ : ByteArray), (⟨#[]⟩ : ByteArray), r1] : List ByteArray) r2.1).bind fun _ =>
  (([(⟨#[107, 101, 121]⟩ : ByteArray), (⟨#[107]⟩ : ByteArray), (⟨#[]⟩ : ByteArray), r1] : List ByteArray)[(Int.toNat r2.1)]?).bind fun y3 =>
  some (y3, r2.2)
noncomputable def spec_l1Width (k : Nat) (a0 : DL1Rd) : Option (Int × DL1Rd) :=
  (spec_l1Rd_pick k a0 5).bind fun r1 =>
  (idx ([8, 8, 4, 2, 1] : List Int) r1.1).bind fun y2 =>
  some (y2, r1.2)
mutual
noncomputable def spec_l7Event_l5 : Nat → Int → Int → List Int → Int → Int → Int → Int → Int → ByteArray → Option (DEvent × DL1Rd)
  | 0, _, _, _, _, _, _, _, _, _ => none
  | k + 1, x0, x1, x2, x3, x4, x5, x6, x7, x8 =>
    (spec_l1Rd_pick k (⟨x2, x3⟩ : DL1Rd) 2).bind fun r5 =>
    bif (decide (x0 < 9)) then
      some ((⟨1, 0, 0, 0, (⟨#[]⟩ : ByteArray)⟩ : DEvent), r5.2)
    else
      bif (decide (x0 < 19)) then
        some ((⟨2, x1, 0, 0, (⟨#[]⟩ : ByteArray)⟩ : DEvent), r5.2)
      else
        bif (decide (x0 < 26)) then
          (spec_l1Message k r5.2).bind fun r6 =>
          some ((⟨10, (IntKind.wrap .i64 (1 + r5.1)), 0, 0, r6.1⟩ : DEvent), r6.2)
        else
          bif (decide (x0 < 30)) then
            some ((⟨11, (IntKind.wrap .i64 (1 + r5.1)), 0, 0, (⟨#[]⟩ : ByteArray)⟩ : DEvent), r5.2)
          else
            bif (x0 == 30) then
              spec_l7Event_l17 k x1 r5.2.b r5.2.p x4 x5 x6 x7 x8
            else
              bif (x0 == 31) then
                spec_l7Event_l17 k x1 r5.2.b r5.2.p x4 x5 x6 x7 x8
              else
                spec_l7Event_l18 k x1 (IntKind.wrap .i64 (1 + r5.1)) x0 r5.2.b r5.2.p x4 x5 x6 x7 x8
noncomputable def spec_l7Event_l17 : Nat → Int → List Int → Int → Int → Int → Int → Int → ByteArray → Option (DEvent × DL1Rd)
  | 0, _, _, _, _, _, _, _, _ => none
  | k + 1, x0, x1, x2, x3, x4, x5, x6, x7 =>
    some ((⟨3, x0, 0, 0, (⟨#[]⟩ : ByteArray)⟩ : DEvent), (⟨x1, x2⟩ : DL1Rd))
noncomputable def spec_l7Event_l18 : Nat → Int → Int → Int → List Int → Int → Int → Int → Int → Int → ByteArray → Option (DEvent × DL1Rd)
  | 0, _, _, _, _, _, _, _, _, _, _ => none
  | k + 1, x0, x1, x2, x3, x4, x5, x6, x7, x8, x9 =>
    bif (x2 == 32) then
      spec_l7Event_l20 k x0 x3 x4 x5 x6 x7 x8 x9
    else
      bif (x2 == 33) then
        spec_l7Event_l20 k x0 x3 x4 x5 x6 x7 x8 x9
      else
        spec_l7Event_l21 k x0 x1 x2 x3 x4 x5 x6 x7 x8 x9
noncomputable def spec_l7Event_l20 : Nat → Int → List Int → Int → Int → Int → Int → Int → ByteArray → Option (DEvent × DL1Rd)
  | 0, _, _, _, _, _, _, _, _ => none
  | k + 1, x0, x1, x2, x3, x4, x5, x6, x7 =>
    some ((⟨4, x0, 0, 0, (⟨#[]⟩ : ByteArray)⟩ : DEvent), (⟨x1, x2⟩ : DL1Rd))
noncomputable def spec_l7Event_l21 : Nat → Int → Int → Int → List Int → Int → Int → Int → Int → Int → ByteArray → Option (DEvent × DL1Rd)
  | 0, _, _, _, _, _, _, _, _, _, _ => none
  | k + 1, x0, x1, x2, x3, x4, x5, x6, x7, x8, x9 =>
    bif (x2 == 34) then
      (spec_l1Rd_pick k (⟨x3, x4⟩ : DL1Rd) 40).bind fun r7 =>
      (spec_l1Rd_pick k r7.2 300).bind fun r8 =>
      some ((⟨5, x0, r7.1, r8.1, (⟨#[]⟩ : ByteArray)⟩ : DEvent), r8.2)
    else
      bif (x2 == 35) then
        (spec_l1Rd_pick k (⟨x3, x4⟩ : DL1Rd) 40).bind fun r9 =>
        some ((⟨6, x0, r9.1, 0, (⟨#[]⟩ : ByteArray)⟩ : DEvent), r9.2)
      else
        bif (x2 == 36) then
          some ((⟨7, x0, 0, 0, (⟨#[]⟩ : ByteArray)⟩ : DEvent), (⟨x3, x4⟩ : DL1Rd))
        else
          bif (x2 == 37) then
            some ((⟨8, x1, 0, 0, (⟨#[]⟩ : ByteArray)⟩ : DEvent), (⟨x3, x4⟩ : DL1Rd))
          else
            some ((⟨9, x1, 0, 0, (⟨#[]⟩ : ByteArray)⟩ : DEvent), (⟨x3, x4⟩ : DL1Rd))
end
noncomputable def spec_l7Event (k : Nat) (a0 : DL1Rd) : Option (DEvent × DL1Rd) :=
  (spec_l1Rd_pick k a0 40).bind fun r1 =>
  (spec_l1Rd_pick k r1.2 24).bind fun r2 =>
  (spec_l1Rd_pick k r2.2 2).bind fun r3 =>
  bif (r3.1 == 0) then
    (spec_l1Rd_pick k r3.2 3).bind fun r4 =>
    spec_l7Event_l5 k r1.1 r4.1 r4.2.b r4.2.p 0 0 0 0 (⟨#[]⟩ : ByteArray)
  else
    spec_l7Event_l5 k r1.1 r2.1 r3.2.b r3.2.p 0 0 0 0 (⟨#[]⟩ : ByteArray)
mutual
noncomputable def spec_l7Reached_l4 : Nat → List Int → Int → ByteArray → Int → ByteArray → ByteArray → Int → ByteArray → List DEnd → List DParcel → List DRecord → List DRecord → List DEnd → List DParcel → List DRecord → List DRecord → Option (DWorld × DL1Rd)
  | 0, _, _, _, _, _, _, _, _, _, _, _, _, _, _, _, _ => none
  | k + 1, x0, x1, x2, x3, x4, x5, x6, x7, x8, x9, x10, x11, x12, x13, x14, x15 =>
    (spec_l1Rd_pick k (⟨x0, x1⟩ : DL1Rd) 50).bind fun r7 =>
    spec_l7Reached_l6 k r7.1 0 r7.2.b r7.2.p x2 x3 x4 x5 x6 x7 x8 x9 x10 x11 x12 x13 x14 x15
noncomputable def spec_l7Reached_l6 : Nat → Int → Int → List Int → Int → ByteArray → Int → ByteArray → ByteArray → Int → ByteArray → List DEnd → List DParcel → List DRecord → List DRecord → List DEnd → List DParcel → List DRecord → List DRecord → Option (DWorld × DL1Rd)
  | 0, _, _, _, _, _, _, _, _, _, _, _, _, _, _, _, _, _, _ => none
  | k + 1, x0, x1, x2, x3, x4, x5, x6, x7, x8, x9, x10, x11, x12, x13, x14, x15, x16, x17 =>
    bif (decide (x1 < x0)) then
      (spec_l7Event k (⟨x2, x3⟩ : DL1Rd)).bind fun r8 =>
      (spec_l7Do k (⟨x7, x8, x14, x15, x9, x16, x17⟩ : DWorld) r8.1).bind fun r9 =>
      (spec_l1Rd_pick k r8.2 5).bind fun r10 =>
      bif (r10.1 == 0) then
        (spec_l7Tick k r9).bind fun r11 =>
        (spec_l1Rd_pick k r10.2 6).bind fun r12 =>
        spec_l7Reached_l12 k x0 x1 r12.1 r12.2.b r12.2.p x4 x5 x6 r11.Key r11.Width r11.Forged x10 x11 x12 x13 r11.Ends r11.Flight r11.Given r11.Taken
      else
        spec_l7Reached_l15 k x0 x1 r10.2.b r10.2.p x4 x5 x6 r9.Key r9.Width r9.Forged x10 x11 x12 x13 r9.Ends r9.Flight r9.Given r9.Taken
    else
      (spec_l7Copy k (⟨x7, x8, x14, x15, x9, x16, x17⟩ : DWorld)).bind fun r13 =>
      some (r13, (⟨x2, x3⟩ : DL1Rd))
noncomputable def spec_l7Reached_l12 : Nat → Int → Int → Int → List Int → Int → ByteArray → Int → ByteArray → ByteArray → Int → ByteArray → List DEnd → List DParcel → List DRecord → List DRecord → List DEnd → List DParcel → List DRecord → List DRecord → Option (DWorld × DL1Rd)
  | 0, _, _, _, _, _, _, _, _, _, _, _, _, _, _, _, _, _, _, _ => none
  | k + 1, x0, x1, x2, x3, x4, x5, x6, x7, x8, x9, x10, x11, x12, x13, x14, x15, x16, x17, x18 =>
    bif (decide (x2 > 0)) then
      bif (decide ((x16.length : Int) > 0)) then
        (spec_l7Bring k (⟨x8, x9, x15, x16, x10, x17, x18⟩ : DWorld) 0).bind fun r14 =>
        spec_l7Reached_l12 k x0 x1 (IntKind.wrap .i64 (x2 - 1)) x3 x4 x5 x6 x7 r14.Key r14.Width r14.Forged x11 x12 x13 x14 r14.Ends r14.Flight r14.Given r14.Taken
      else
        spec_l7Reached_l15 k x0 x1 x3 x4 x5 x6 x7 x8 x9 x10 x11 x12 x13 x14 x15 x16 x17 x18
    else
      spec_l7Reached_l15 k x0 x1 x3 x4 x5 x6 x7 x8 x9 x10 x11 x12 x13 x14 x15 x16 x17 x18
noncomputable def spec_l7Reached_l15 : Nat → Int → Int → List Int → Int → ByteArray → Int → ByteArray → ByteArray → Int → ByteArray → List DEnd → List DParcel → List DRecord → List DRecord → List DEnd → List DParcel → List DRecord → List DRecord → Option (DWorld × DL1Rd)
  | 0, _, _, _, _, _, _, _, _, _, _, _, _, _, _, _, _, _, _ => none
  | k + 1, x0, x1, x2, x3, x4, x5, x6, x7, x8, x9, x10, x11, x12, x13, x14, x15, x16, x17 =>
    (spec_l1Rd_pick k (⟨x2, x3⟩ : DL1Rd) 16).bind fun r15 =>
    bif (r15.1 == 0) then
      (spec_l7Do k (⟨x7, x8, x14, x15, x9, x16, x17⟩ : DWorld) (⟨9, 1, 0, 0, (⟨#[]⟩ : ByteArray)⟩ : DEvent)).bind fun r16 =>
      (spec_l7Do k r16 (⟨9, 2, 0, 0, (⟨#[]⟩ : ByteArray)⟩ : DEvent)).bind fun r17 =>
      spec_l7Reached_l7 k x0 x1 r15.2.b r15.2.p x4 x5 x6 r17.Key r17.Width r17.Forged x10 x11 x12 x13 r17.Ends r17.Flight r17.Given r17.Taken
    else
      spec_l7Reached_l7 k x0 x1 r15.2.b r15.2.p x4 x5 x6 x7 x8 x9 x10 x11 x12 x13 x14 x15 x16 x17
noncomputable def spec_l7Reached_l7 : Nat → Int → Int → List Int → Int → ByteArray → Int → ByteArray → ByteArray → Int → ByteArray → List DEnd → List DParcel → List DRecord → List DRecord → List DEnd → List DParcel → List DRecord → List DRecord → Option (DWorld × DL1Rd)
  | 0, _, _, _, _, _, _, _, _, _, _, _, _, _, _, _, _, _, _ => none
  | k + 1, x0, x1, x2, x3, x4, x5, x6, x7, x8, x9, x10, x11, x12, x13, x14, x15, x16, x17 =>
    spec_l7Reached_l6 k x0 (IntKind.wrap .i64 (x1 + 1)) x2 x3 x4 x5 x6 x7 x8 x9 x10 x11 x12 x13 x14 x15 x16 x17
end
noncomputable def spec_l7Reached (k : Nat) (a0 : DL1Rd) : Option (DWorld × DL1Rd) :=
  (spec_l1Key k a0).bind fun r1 =>
  (spec_l1Width k r1.2).bind fun r2 =>
  (spec_NewWorld k r1.1 r2.1).bind fun r3 =>
  (spec_l1Rd_pick k r2.2 3).bind fun r4 =>
  bif (decide (r4.1 > 0)) then
    (spec_l1Rd_pick k r4.2 4).bind fun r5 =>
    (spec_Calm k r3 (IntKind.wrap .i64 (7 + r5.1)) 1).bind fun r6 =>
    spec_l7Reached_l4 k r5.2.b r5.2.p (⟨#[]⟩ : ByteArray) 0 (⟨#[]⟩ : ByteArray) r6.Key r6.Width r6.Forged ([] : List DEnd) ([] : List DParcel) ([] : List DRecord) ([] : List DRecord) r6.Ends r6.Flight r6.Given r6.Taken
  else
    spec_l7Reached_l4 k r4.2.b r4.2.p (⟨#[]⟩ : ByteArray) 0 (⟨#[]⟩ : ByteArray) r3.Key r3.Width r3.Forged ([] : List DEnd) ([] : List DParcel) ([] : List DRecord) ([] : List DRecord) r3.Ends r3.Flight r3.Given r3.Taken
mutual
noncomputable def spec_l5Draw_l3 : Nat → Int → List Int → Int → Int → ByteArray → Int → ByteArray → List DHeld → List ByteArray → List DHeld → List ByteArray → Option (DTake × DL1Rd)
  | 0, _, _, _, _, _, _, _, _, _, _, _ => none
  | k + 1, x0, x1, x2, x3, x4, x5, x6, x7, x8, x9, x10 =>
    bif (decide (x0 > 0)) then
      (spec_l1Rd_pick k (⟨x1, x2⟩ : DL1Rd) 8).bind fun r4 =>
      bif (r4.1 == 0) then
        (spec_TakePull k (⟨x5, x9, x6, x10⟩ : DTake)).bind fun r5 =>
        spec_l5Draw_l4 k x0 r4.2.b r4.2.p x3 x4 r5.1.Next r5.1.Open x7 x8 r5.1.Held r5.1.Ready
      else
        (spec_l1Rd_pick k r4.2 3).bind fun r6 =>
        bif (r6.1 == 0) then
          (spec_l1Rd_pick k r6.2 9).bind fun r7 =>
          spec_l5Draw_l9 k x0 (IntKind.wrap .i64 (x5 + r7.1)) r7.2.b r7.2.p x3 x4 x5 x6 x7 x8 x9 x10
        else
          spec_l5Draw_l9 k x0 x5 r6.2.b r6.2.p x3 x4 x5 x6 x7 x8 x9 x10
    else
      (spec_l5Copy k (⟨x5, x9, x6, x10⟩ : DTake)).bind fun r8 =>
      some (r8, (⟨x1, x2⟩ : DL1Rd))
noncomputable def spec_l5Draw_l4 : Nat → Int → List Int → Int → Int → ByteArray → Int → ByteArray → List DHeld → List ByteArray → List DHeld → List ByteArray → Option (DTake × DL1Rd)
  | 0, _, _, _, _, _, _, _, _, _, _, _ => none
  | k + 1, x0, x1, x2, x3, x4, x5, x6, x7, x8, x9, x10 =>
    spec_l5Draw_l3 k (IntKind.wrap .i64 (x0 - 1)) x1 x2 x3 x4 x5 x6 x7 x8 x9 x10
noncomputable def spec_l5Draw_l9 : Nat → Int → Int → List Int → Int → Int → ByteArray → Int → ByteArray → List DHeld → List ByteArray → List DHeld → List ByteArray → Option (DTake × DL1Rd)
  | 0, _, _, _, _, _, _, _, _, _, _, _, _ => none
  | k + 1, x0, x1, x2, x3, x4, x5, x6, x7, x8, x9, x10, x11 =>
    (spec_l1Rd_pick k (⟨x2, x3⟩ : DL1Rd) 3).bind fun r9 =>
    (idx ([1, 5, 20] : List Int) r9.1).bind fun y10 =>
    (spec_l1Many k (⟨#[116]⟩ : ByteArray) y10).bind fun r11 =>
    (spec_l1Rd_pick k r9.2 3).bind fun r12 =>
    (spec_TakePart k (⟨x6, x10, x7, x11⟩ : DTake) x1 (⟨r11, (r12.1 == 0)⟩ : DPart)).bind fun r13 =>
    spec_l5Draw_l4 k x0 r12.2.b r12.2.p x4 x5 r13.Next r13.Open x8 x9 r13.Held r13.Ready
end
mutual
noncomputable def spec_l5Spoil_l20 : Nat → List Int → Int → Int → ByteArray → Int → ByteArray → List DHeld → List ByteArray → List DHeld → List ByteArray → Option (DTake × DL1Rd)
  | 0, _, _, _, _, _, _, _, _, _, _ => none
  | k + 1, x0, x1, x2, x3, x4, x5, x6, x7, x8, x9 =>
    some ((⟨x4, x8, x5, x9⟩ : DTake), (⟨x0, x1⟩ : DL1Rd))
noncomputable def spec_l5Spoil_l15 : Nat → Int → List Int → Int → Int → ByteArray → Int → ByteArray → List DHeld → List ByteArray → List DHeld → List ByteArray → Option (DTake × DL1Rd)
  | 0, _, _, _, _, _, _, _, _, _, _, _ => none
  | k + 1, x0, x1, x2, x3, x4, x5, x6, x7, x8, x9, x10 =>
    bif (decide ((x10.length : Int) < x0)) then
      (app 16 x10 ([(⟨#[]⟩ : ByteArray)] : List ByteArray)).bind fun l20 =>
      spec_l5Spoil_l15 k x0 x1 x2 x3 x4 x5 x6 x7 x8 x9 l20
    else
      spec_l5Spoil_l20 k x1 x2 x3 x4 x5 x6 x7 x8 x9 x10
end
noncomputable def spec_DrawReached (k : Nat) (a0 : List Int) : Option (DWorld) :=
  (spec_l1Open k a0).bind fun r1 =>
  (spec_l7Reached k r1).bind fun r2 =>
  some r2.1
mutual
noncomputable def spec_DrawEvents_l5 : Nat → Int → Int → List Int → Int → List DEvent → Option (List DEvent)
  | 0, _, _, _, _, _ => none
  | k + 1, x0, x1, x2, x3, x4 =>
    bif (decide (x1 < x0)) then
      (spec_l7Event k (⟨x2, x3⟩ : DL1Rd)).bind fun r3 =>
      (app 48 x4 ([r3.1] : List DEvent)).bind fun l4 =>
      (spec_l1Rd_pick k r3.2 5).bind fun r5 =>
      bif (r5.1 == 0) then
        (spec_l1Rd_pick k r5.2 6).bind fun r6 =>
        spec_DrawEvents_l10 k x0 x1 r6.1 r6.2.b r6.2.p l4
      else
        spec_DrawEvents_l17 k x0 x1 r5.2.b r5.2.p l4
    else
      some x4
noncomputable def spec_DrawEvents_l10 : Nat → Int → Int → Int → List Int → Int → List DEvent → Option (List DEvent)
  | 0, _, _, _, _, _, _ => none
  | k + 1, x0, x1, x2, x3, x4, x5 =>
    bif (decide (x2 > 0)) then
      (app 48 x5 ([(⟨1, 0, 0, 0, (⟨#[]⟩ : ByteArray)⟩ : DEvent)] : List DEvent)).bind fun l7 =>
      (spec_l1Rd_pick k (⟨x3, x4⟩ : DL1Rd) 5).bind fun r8 =>
      spec_DrawEvents_l14 k x0 x1 x2 r8.1 r8.2.b r8.2.p l7
    else
      spec_DrawEvents_l17 k x0 x1 x3 x4 x5
noncomputable def spec_DrawEvents_l17 : Nat → Int → Int → List Int → Int → List DEvent → Option (List DEvent)
  | 0, _, _, _, _, _ => none
  | k + 1, x0, x1, x2, x3, x4 =>
    (spec_l1Rd_pick k (⟨x2, x3⟩ : DL1Rd) 12).bind fun r9 =>
    bif (r9.1 == 0) then
      (app 48 x4 ([(⟨9, 1, 0, 0, (⟨#[]⟩ : ByteArray)⟩ : DEvent), (⟨9, 2, 0, 0, (⟨#[]⟩ : ByteArray)⟩ : DEvent)] : List DEvent)).bind fun l10 =>
      spec_DrawEvents_l6 k x0 x1 r9.2.b r9.2.p l10
    else
      spec_DrawEvents_l6 k x0 x1 r9.2.b r9.2.p x4
noncomputable def spec_DrawEvents_l14 : Nat → Int → Int → Int → Int → List Int → Int → List DEvent → Option (List DEvent)
  | 0, _, _, _, _, _, _, _ => none
  | k + 1, x0, x1, x2, x3, x4, x5, x6 =>
    bif (decide (x3 > 0)) then
      (app 48 x6 ([(⟨2, 0, 0, 0, (⟨#[]⟩ : ByteArray)⟩ : DEvent)] : List DEvent)).bind fun l11 =>
      spec_DrawEvents_l14 k x0 x1 x2 (IntKind.wrap .i64 (x3 - 1)) x4 x5 l11
    else
      spec_DrawEvents_l10 k x0 x1 (IntKind.wrap .i64 (x2 - 1)) x4 x5 x6
noncomputable def spec_DrawEvents_l6 : Nat → Int → Int → List Int → Int → List DEvent → Option (List DEvent)
  | 0, _, _, _, _, _ => none
  | k + 1, x0, x1, x2, x3, x4 =>
    spec_DrawEvents_l5 k x0 (IntKind.wrap .i64 (x1 + 1)) x2 x3 x4
end
noncomputable def spec_DrawEvents (k : Nat) (a0 : List Int) : Option (List DEvent) :=
  (spec_l1Open k a0).bind fun r1 =>
  (spec_l1Rd_pick k r1 50).bind fun r2 =>
  spec_DrawEvents_l5 k (IntKind.wrap .i64 (10 + r2.1)) 0 r2.2.b r2.2.p ([] : List DEvent)
noncomputable def spec_l6Any_l9 : Nat → List Int → Int → Int → Bool → Int → Int → Int → Bool → Int → Int → ByteArray → Int → Bool → Int → Int → Int → Bool → Int → List DItem → Int → List DHeld → ByteArray → List ByteArray → List DItem → List DHeld → List ByteArray → Option (DEnd × DL1Rd)
  | 0, _, _, _, _, _, _, _, _, _, _, _, _, _, _, _, _, _, _, _, _, _, _, _, _, _, _ => none
  | k + 1, x0, x1, x2, x3, x4, x5, x6, x7, x8, x9, x10, x11, x12, x13, x14, x15, x16, x17, x18, x19, x20, x21, x22, x23, x24, x25 =>
    some ((⟨x11, x12, x13, x14, x15, x16, (⟨x17, x18⟩ : DSend), (⟨x19, x20, x21, x22⟩ : DTake)⟩ : DEnd), (⟨x0, x1⟩ : DL1Rd))
end Km.X
namespace Km.X
open Go Km
set_option linter.unusedVariables false
set_option maxRecDepth 100000
end Km.X
namespace Km.X
open Go Km
set_option linter.unusedVariables false
set_option maxRecDepth 100000
end Km.X
namespace Km.X
open Go Km
set_option linter.unusedVariables false
set_option maxRecDepth 100000
mutual
noncomputable def laws_FnSafe_l6 : Nat → Int → ByteArray → Int → ByteArray → List DEvent → List DEnd → List DParcel → List DRecord → List DRecord → Option (Bool)
  | 0, _, _, _, _, _, _, _, _, _ => none
  | k + 1, x0, x1, x2, x3, x4, x5, x6, x7, x8 =>
    bif (decide (x0 < (x4.length : Int))) then
      bif (decide (x0 < 60)) then
        bif (!(x3.toList == (⟨#[]⟩ : ByteArray).toList)) then
          some true
        else
          (idx x4 x0).bind fun _ =>
          (x4[(Int.toNat x0)]?).bind fun y3 =>
          (laws_wForgery k (⟨x1, x2, x5, x6, x3, x7, x8⟩ : DWorld) y3).bind fun r4 =>
          bif r4 then
            some true
          else
            both (
              (idx x4 x0).bind fun _ =>
              (x4[(Int.toNat x0)]?).bind fun y5 =>
              (impl_Do k (⟨x1, x2, x5, x6, x3, x7, x8⟩ : DWorld) y5).bind fun r6 =>
              bif ((r6.Ends.length : Int) != 2) then
                some false
              else
                (impl_Right k r6).bind fun r7 =>
                bif (!r7) then
                  some false
                else
                  (spec_Right k r6).bind fun r8 =>
                  bif (!r8) then
                    some false
                  else
                    laws_FnSafe_l14 k x0 0 x1 x2 x3 x4 r6.Key r6.Width r6.Forged x5 x6 x7 x8 r6.Ends r6.Flight r6.Given r6.Taken
            ) (
              (idx x4 x0).bind fun _ =>
              (x4[(Int.toNat x0)]?).bind fun y9 =>
              (impl_Do k (⟨x1, x2, x5, x6, x3, x7, x8⟩ : DWorld) y9).bind fun r10 =>
              bif ((r10.Ends.length : Int) != 2) then
                some false
              else
                (impl_Right k r10).bind fun r11 =>
                bif (!r11) then
                  some false
                else
                  (spec_Right k r10).bind fun r12 =>
                  bif (!r12) then
                    some false
                  else
                    laws_FnSafe_l14 k x0 0 x1 x2 x3 x4 r10.Key r10.Width r10.Forged x5 x6 x7 x8 r10.Ends r10.Flight r10.Given r10.Taken
            )
      else
        (spec_ValidWorld k (⟨x1, x2, x5, x6, x3, x7, x8⟩ : DWorld)).bind fun r13 =>
        some r13
    else
      (spec_ValidWorld k (⟨x1, x2, x5, x6, x3, x7, x8⟩ : DWorld)).bind fun r14 =>
      some r14
noncomputable def laws_FnSafe_l14 : Nat → Int → Int → ByteArray → Int → ByteArray → List DEvent → ByteArray → Int → ByteArray → List DEnd → List DParcel → List DRecord → List DRecord → List DEnd → List DParcel → List DRecord → List DRecord → Option (Bool)
  | 0, _, _, _, _, _, _, _, _, _, _, _, _, _, _, _, _, _ => none
  | k + 1, x0, x1, x2, x3, x4, x5, x6, x7, x8, x9, x10, x11, x12, x13, x14, x15, x16 =>
    bif (decide (x1 < 2)) then
      (idx x13 x1).bind fun _ =>
      (x13[(Int.toNat x1)]?).bind fun y15 =>
      (idx x13 (IntKind.wrap .i64 (1 - x1))).bind fun _ =>
      (x13[(Int.toNat (IntKind.wrap .i64 (1 - x1)))]?).bind fun y16 =>
      bif y15.Up then
        bif y16.Up then
          bif (y15.Peer == y16.Life) then
            bif (y16.Peer == y15.Life) then
              bif (decide (y15.Send.Base > y16.Take.Next)) then
                some false
              else
                (idx x9 x1).bind fun _ =>
                (x9[(Int.toNat x1)]?).bind fun y17 =>
                bif y17.Up then
                  bif y15.Up then
                    bif (y17.Life == y15.Life) then
                      bif (y17.Peer == y15.Peer) then
                        bif (decide (y15.Send.Base < y17.Send.Base)) then
                          some false
                        else
                          bif (decide (y15.Take.Next < y17.Take.Next)) then
                            some false
                          else
                            laws_FnSafe_l14 k x0 (IntKind.wrap .i64 (x1 + 1)) x2 x3 x4 x5 x6 x7 x8 x9 x10 x11 x12 x13 x14 x15 x16
                      else
                        laws_FnSafe_l14 k x0 (IntKind.wrap .i64 (x1 + 1)) x2 x3 x4 x5 x6 x7 x8 x9 x10 x11 x12 x13 x14 x15 x16
                    else
                      laws_FnSafe_l14 k x0 (IntKind.wrap .i64 (x1 + 1)) x2 x3 x4 x5 x6 x7 x8 x9 x10 x11 x12 x13 x14 x15 x16
                  else
                    laws_FnSafe_l14 k x0 (IntKind.wrap .i64 (x1 + 1)) x2 x3 x4 x5 x6 x7 x8 x9 x10 x11 x12 x13 x14 x15 x16
                else
                  laws_FnSafe_l14 k x0 (IntKind.wrap .i64 (x1 + 1)) x2 x3 x4 x5 x6 x7 x8 x9 x10 x11 x12 x13 x14 x15 x16
            else
              (idx x9 x1).bind fun _ =>
              (x9[(Int.toNat x1)]?).bind fun y18 =>
              bif y18.Up then
                bif y15.Up then
                  bif (y18.Life == y15.Life) then
                    bif (y18.Peer == y15.Peer) then
                      bif (decide (y15.Send.Base < y18.Send.Base)) then
                        some false
                      else
                        bif (decide (y15.Take.Next < y18.Take.Next)) then
                          some false
                        else
                          laws_FnSafe_l14 k x0 (IntKind.wrap .i64 (x1 + 1)) x2 x3 x4 x5 x6 x7 x8 x9 x10 x11 x12 x13 x14 x15 x16
                    else
                      laws_FnSafe_l14 k x0 (IntKind.wrap .i64 (x1 + 1)) x2 x3 x4 x5 x6 x7 x8 x9 x10 x11 x12 x13 x14 x15 x16
                  else
                    laws_FnSafe_l14 k x0 (IntKind.wrap .i64 (x1 + 1)) x2 x3 x4 x5 x6 x7 x8 x9 x10 x11 x12 x13 x14 x15 x16
                else
                  laws_FnSafe_l14 k x0 (IntKind.wrap .i64 (x1 + 1)) x2 x3 x4 x5 x6 x7 x8 x9 x10 x11 x12 x13 x14 x15 x16
              else
                laws_FnSafe_l14 k x0 (IntKind.wrap .i64 (x1 + 1)) x2 x3 x4 x5 x6 x7 x8 x9 x10 x11 x12 x13 x14 x15 x16
          else
            (idx x9 x1).bind fun _ =>
            (x9[(Int.toNat x1)]?).bind fun y19 =>
            bif y19.Up then
              bif y15.Up then
                bif (y19.Life == y15.Life) then
                  bif (y19.Peer == y15.Peer) then
                    bif (decide (y15.Send.Base < y19.Send.Base)) then
                      some false
                    else
                      bif (decide (y15.Take.Next < y19.Take.Next)) then
                        some false
                      else
                        laws_FnSafe_l14 k x0 (IntKind.wrap .i64 (x1 + 1)) x2 x3 x4 x5 x6 x7 x8 x9 x10 x11 x12 x13 x14 x15 x16
                  else
                    laws_FnSafe_l14 k x0 (IntKind.wrap .i64 (x1 + 1)) x2 x3 x4 x5 x6 x7 x8 x9 x10 x11 x12 x13 x14 x15 x16
                else
                  laws_FnSafe_l14 k x0 (IntKind.wrap .i64 (x1 + 1)) x2 x3 x4 x5 x6 x7 x8 x9 x10 x11 x12 x13 x14 x15 x16
              else
                laws_FnSafe_l14 k x0 (IntKind.wrap .i64 (x1 + 1)) x2 x3 x4 x5 x6 x7 x8 x9 x10 x11 x12 x13 x14 x15 x16
            else
              laws_FnSafe_l14 k x0 (IntKind.wrap .i64 (x1 + 1)) x2 x3 x4 x5 x6 x7 x8 x9 x10 x11 x12 x13 x14 x15 x16
        else
          (idx x9 x1).bind fun _ =>
          (x9[(Int.toNat x1)]?).bind fun y20 =>
          bif y20.Up then
            bif y15.Up then
              bif (y20.Life == y15.Life) then
                bif (y20.Peer == y15.Peer) then
                  bif (decide (y15.Send.Base < y20.Send.Base)) then
                    some false
                  else
                    bif (decide (y15.Take.Next < y20.Take.Next)) then
                      some false
                    else
                      laws_FnSafe_l14 k x0 (IntKind.wrap .i64 (x1 + 1)) x2 x3 x4 x5 x6 x7 x8 x9 x10 x11 x12 x13 x14 x15 x16
                else
                  laws_FnSafe_l14 k x0 (IntKind.wrap .i64 (x1 + 1)) x2 x3 x4 x5 x6 x7 x8 x9 x10 x11 x12 x13 x14 x15 x16
              else
                laws_FnSafe_l14 k x0 (IntKind.wrap .i64 (x1 + 1)) x2 x3 x4 x5 x6 x7 x8 x9 x10 x11 x12 x13 x14 x15 x16
            else
              laws_FnSafe_l14 k x0 (IntKind.wrap .i64 (x1 + 1)) x2 x3 x4 x5 x6 x7 x8 x9 x10 x11 x12 x13 x14 x15 x16
          else
            laws_FnSafe_l14 k x0 (IntKind.wrap .i64 (x1 + 1)) x2 x3 x4 x5 x6 x7 x8 x9 x10 x11 x12 x13 x14 x15 x16
      else
        (idx x9 x1).bind fun _ =>
        (x9[(Int.toNat x1)]?).bind fun y21 =>
        bif y21.Up then
          bif y15.Up then
            bif (y21.Life == y15.Life) then
              bif (y21.Peer == y15.Peer) then
                bif (decide (y15.Send.Base < y21.Send.Base)) then
                  some false
                else
                  bif (decide (y15.Take.Next < y21.Take.Next)) then
                    some false
                  else
                    laws_FnSafe_l14 k x0 (IntKind.wrap .i64 (x1 + 1)) x2 x3 x4 x5 x6 x7 x8 x9 x10 x11 x12 x13 x14 x15 x16
              else
                laws_FnSafe_l14 k x0 (IntKind.wrap .i64 (x1 + 1)) x2 x3 x4 x5 x6 x7 x8 x9 x10 x11 x12 x13 x14 x15 x16
            else
              laws_FnSafe_l14 k x0 (IntKind.wrap .i64 (x1 + 1)) x2 x3 x4 x5 x6 x7 x8 x9 x10 x11 x12 x13 x14 x15 x16
          else
            laws_FnSafe_l14 k x0 (IntKind.wrap .i64 (x1 + 1)) x2 x3 x4 x5 x6 x7 x8 x9 x10 x11 x12 x13 x14 x15 x16
        else
          laws_FnSafe_l14 k x0 (IntKind.wrap .i64 (x1 + 1)) x2 x3 x4 x5 x6 x7 x8 x9 x10 x11 x12 x13 x14 x15 x16
    else
      laws_FnSafe_l6 k (IntKind.wrap .i64 (x0 + 1)) x6 x7 x8 x5 x13 x14 x15 x16
end
noncomputable def laws_FnSafe (k : Nat) (a0 : List Int) (a1 : List Int) : Option (Bool) :=
  bif (decide ((a0.length : Int) > 1048576)) then
    some true
  else
    bif (decide ((a1.length : Int) > 1048576)) then
      some true
    else
      (spec_DrawReached k a0).bind fun r1 =>
      (spec_DrawEvents k a1).bind fun r2 =>
      laws_FnSafe_l6 k 0 r1.Key r1.Width r1.Forged r2 r1.Ends r1.Flight r1.Given r1.Taken
end Km.X
