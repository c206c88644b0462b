/- A part of the proof of FnExactNewWorld: the functions that it reads off the program. There is no condition. -/
import Derived.Test.YthafpbpfnkncmaaKxDef1
namespace Km.X
open Go Km
set_option linter.unusedVariables false
set_option maxRecDepth 100000
noncomputable def impl_NewWorld (k : Nat) (a0 : ByteArray) (a1 : Int) : Option (DWorld) :=
  bif (decide (a1 < 1)) then
    some (⟨(⟨#[]⟩ : ByteArray), 0, ([] : List DEnd), ([] : List DParcel), (⟨#[]⟩ : ByteArray), ([] : List DRecord), ([] : List DRecord)⟩ : DWorld)
  else
    bif (decide (a1 > 8)) then
      some (⟨(⟨#[]⟩ : ByteArray), 0, ([] : List DEnd), ([] : List DParcel), (⟨#[]⟩ : ByteArray), ([] : List DRecord), ([] : List DRecord)⟩ : DWorld)
    else
      bif (decide ((a0.size : Int) > 30)) then
        some (⟨(⟨#[]⟩ : ByteArray), 0, ([] : List DEnd), ([] : List DParcel), (⟨#[]⟩ : ByteArray), ([] : List DRecord), ([] : List DRecord)⟩ : DWorld)
      else
        (impl_NewEnd k 1).bind fun r1 =>
        (impl_NewEnd k 2).bind fun r2 =>
        some (⟨a0, a1, ([r1, r2] : List DEnd), ([] : List DParcel), (⟨#[]⟩ : ByteArray), ([] : List DRecord), ([] : List DRecord)⟩ : DWorld)
noncomputable def spec_NewWorld (k : Nat) (a0 : ByteArray) (a1 : Int) : Option (DWorld) :=
  (spec_l1In k a1 1 8).bind fun r1 =>
  bif (!r1) then
    some (⟨(⟨#[]⟩ : ByteArray), 0, ([] : List DEnd), ([] : List DParcel), (⟨#[]⟩ : ByteArray), ([] : List DRecord), ([] : List DRecord)⟩ : DWorld)
  else
    bif (decide ((a0.size : Int) > 30)) then
      some (⟨(⟨#[]⟩ : ByteArray), 0, ([] : List DEnd), ([] : List DParcel), (⟨#[]⟩ : ByteArray), ([] : List DRecord), ([] : List DRecord)⟩ : DWorld)
    else
      (spec_NewEnd k 1).bind fun r2 =>
      (spec_NewEnd k 2).bind fun r3 =>
      some (⟨a0, a1, ([r2, r3] : List DEnd), ([] : List DParcel), (⟨#[]⟩ : ByteArray), ([] : List DRecord), ([] : List DRecord)⟩ : DWorld)
noncomputable def laws_eqEndS_l4 : Nat → List DEnd → List DEnd → Int → Option (Bool)
  | 0, _, _, _ => none
  | k + 1, x0, x1, x2 =>
    bif (decide (x2 < (x0.length : Int))) then
      (idx x0 x2).bind fun y1 =>
      (idx x1 x2).bind fun y2 =>
      (laws_eqEnd k y1 y2).bind fun r3 =>
      bif (!r3) then
        some false
      else
        laws_eqEndS_l4 k x0 x1 (IntKind.wrap .i64 (x2 + 1))
    else
      some true
noncomputable def laws_eqEndS (k : Nat) (a0 : List DEnd) (a1 : List DEnd) : Option (Bool) :=
  bif ((a0.length : Int) != (a1.length : Int)) then
    some false
  else
    laws_eqEndS_l4 k a0 a1 0
noncomputable def laws_eqParcel (k : Nat) (a0 : DParcel) (a1 : DParcel) : Option (Bool) :=
  bif (a0.To != a1.To) then
    some false
  else
    bif (!(a0.Sent.toList == a1.Sent.toList)) then
      some false
    else
      bif (!(a0.Bytes.toList == a1.Bytes.toList)) then
        some false
      else
        some true
noncomputable def laws_eqParcelS_l4 : Nat → List DParcel → List DParcel → Int → Option (Bool)
  | 0, _, _, _ => none
  | k + 1, x0, x1, x2 =>
    bif (decide (x2 < (x0.length : Int))) then
      (idx x0 x2).bind fun y1 =>
      (idx x1 x2).bind fun y2 =>
      (laws_eqParcel k y1 y2).bind fun r3 =>
      bif (!r3) then
        some false
      else
        laws_eqParcelS_l4 k x0 x1 (IntKind.wrap .i64 (x2 + 1))
    else
      some true
noncomputable def laws_eqParcelS (k : Nat) (a0 : List DParcel) (a1 : List DParcel) : Option (Bool) :=
  bif ((a0.length : Int) != (a1.length : Int)) then
    some false
  else
    laws_eqParcelS_l4 k a0 a1 0
noncomputable def laws_eqRecord (k : Nat) (a0 : DRecord) (a1 : DRecord) : Option (Bool) :=
  bif (a0.From != a1.From) then
    some false
  else
    bif (a0.A != a1.A) then
      some false
    else
      bif (a0.B != a1.B) then
        some false
      else
        bif (!(a0.Text.toList == a1.Text.toList)) then
          some false
        else
          some true
noncomputable def laws_eqRecordS_l4 : Nat → List DRecord → List DRecord → Int → Option (Bool)
  | 0, _, _, _ => none
  | k + 1, x0, x1, x2 =>
    bif (decide (x2 < (x0.length : Int))) then
      (idx x0 x2).bind fun y1 =>
      (idx x1 x2).bind fun y2 =>
      (laws_eqRecord k y1 y2).bind fun r3 =>
      bif (!r3) then
        some false
      else
        laws_eqRecordS_l4 k x0 x1 (IntKind.wrap .i64 (x2 + 1))
    else
      some true
noncomputable def laws_eqRecordS (k : Nat) (a0 : List DRecord) (a1 : List DRecord) : Option (Bool) :=
  bif ((a0.length : Int) != (a1.length : Int)) then
    some false
  else
    laws_eqRecordS_l4 k a0 a1 0
noncomputable def laws_eqWorld (k : Nat) (a0 : DWorld) (a1 : DWorld) : Option (Bool) :=
  bif (!(a0.Key.toList == a1.Key.toList)) then
    some false
  else
    bif (a0.Width != a1.Width) then
      some false
    else
      (laws_eqEndS k a0.Ends a1.Ends).bind fun r1 =>
      bif (!r1) then
        some false
      else
        (laws_eqParcelS k a0.Flight a1.Flight).bind fun r2 =>
        bif (!r2) then
          some false
        else
          bif (!(a0.Forged.toList == a1.Forged.toList)) then
            some false
          else
            (laws_eqRecordS k a0.Given a1.Given).bind fun r3 =>
            bif (!r3) then
              some false
            else
              (laws_eqRecordS k a0.Taken a1.Taken).bind fun r4 =>
              bif (!r4) then
                some false
              else
                some true
noncomputable def laws_markParcelS_l2 : Nat → Int → Int → List DParcel → Option (Int × List DParcel)
  | 0, _, _, _ => none
  | k + 1, x0, x1, x2 =>
    bif (decide (x1 < (x2.length : Int))) then
      (idx x2 x1).bind fun _ =>
      (x2[(Int.toNat x1)]?).bind fun y1 =>
      (laws_markText k (IntKind.wrap .i64 (x0 + 1))).bind fun r2 =>
      (idx (x2.set (Int.toNat x1) (⟨x0, y1.Sent, y1.Bytes⟩ : DParcel)) x1).bind fun _ =>
      ((x2.set (Int.toNat x1) (⟨x0, y1.Sent, y1.Bytes⟩ : DParcel))[(Int.toNat x1)]?).bind fun y3 =>
      (laws_markText k (IntKind.wrap .i64 ((IntKind.wrap .i64 (x0 + 1)) + 1))).bind fun r4 =>
      (idx ((x2.set (Int.toNat x1) (⟨x0, y1.Sent, y1.Bytes⟩ : DParcel)).set (Int.toNat x1) (⟨y3.To, r2, y3.Bytes⟩ : DParcel)) x1).bind fun _ =>
      (((x2.set (Int.toNat x1) (⟨x0, y1.Sent, y1.Bytes⟩ : DParcel)).set (Int.toNat x1) (⟨y3.To, r2, y3.Bytes⟩ : DParcel))[(Int.toNat x1)]?).bind fun y5 =>
      laws_markParcelS_l2 k (IntKind.wrap .i64 ((IntKind.wrap .i64 ((IntKind.wrap .i64 (x0 + 1)) + 1)) + 1)) (IntKind.wrap .i64 (x1 + 1)) (((x2.set (Int.toNat x1) (⟨x0, y1.Sent, y1.Bytes⟩ : DParcel)).set (Int.toNat x1) (⟨y3.To, r2, y3.Bytes⟩ : DParcel)).set (Int.toNat x1) (⟨y5.To, y5.Sent, r4⟩ : DParcel))
    else
      some (x0, x2)
noncomputable def laws_markParcelS (k : Nat) (a0 : List DParcel) (a1 : Int) : Option (Int × List DParcel) :=
  laws_markParcelS_l2 k a1 0 a0
noncomputable def laws_markRecordS_l2 : Nat → Int → Int → List DRecord → Option (Int × List DRecord)
  | 0, _, _, _ => none
  | k + 1, x0, x1, x2 =>
    bif (decide (x1 < (x2.length : Int))) then
      (idx x2 x1).bind fun _ =>
      (x2[(Int.toNat x1)]?).bind fun y1 =>
      (idx (x2.set (Int.toNat x1) (⟨x0, y1.A, y1.B, y1.Text⟩ : DRecord)) x1).bind fun _ =>
      ((x2.set (Int.toNat x1) (⟨x0, y1.A, y1.B, y1.Text⟩ : DRecord))[(Int.toNat x1)]?).bind fun y2 =>
      (idx ((x2.set (Int.toNat x1) (⟨x0, y1.A, y1.B, y1.Text⟩ : DRecord)).set (Int.toNat x1) (⟨y2.From, (IntKind.wrap .i64 (x0 + 1)), y2.B, y2.Text⟩ : DRecord)) x1).bind fun _ =>
      (((x2.set (Int.toNat x1) (⟨x0, y1.A, y1.B, y1.Text⟩ : DRecord)).set (Int.toNat x1) (⟨y2.From, (IntKind.wrap .i64 (x0 + 1)), y2.B, y2.Text⟩ : DRecord))[(Int.toNat x1)]?).bind fun y3 =>
      (laws_markText k (IntKind.wrap .i64 ((IntKind.wrap .i64 ((IntKind.wrap .i64 (x0 + 1)) + 1)) + 1))).bind fun r4 =>
      (idx (((x2.set (Int.toNat x1) (⟨x0, y1.A, y1.B, y1.Text⟩ : DRecord)).set (Int.toNat x1) (⟨y2.From, (IntKind.wrap .i64 (x0 + 1)), y2.B, y2.Text⟩ : DRecord)).set (Int.toNat x1) (⟨y3.From, y3.A, (IntKind.wrap .i64 ((IntKind.wrap .i64 (x0 + 1)) + 1)), y3.Text⟩ : DRecord)) x1).bind fun _ =>
      ((((x2.set (Int.toNat x1) (⟨x0, y1.A, y1.B, y1.Text⟩ : DRecord)).set (Int.toNat x1) (⟨y2.From, (IntKind.wrap .i64 (x0 + 1)), y2.B, y2.Text⟩ : DRecord)).set (Int.toNat x1) (⟨y3.From, y3.A, (IntKind.wrap .i64 ((IntKind.wrap .i64 (x0 + 1)) + 1)), y3.Text⟩ : DRecord))[(Int.toNat x1)]?).bind fun y5 =>
      laws_markRecordS_l2 k (IntKind.wrap .i64 ((IntKind.wrap .i64 ((IntKind.wrap .i64 ((IntKind.wrap .i64 (x0 + 1)) + 1)) + 1)) + 1)) (IntKind.wrap .i64 (x1 + 1)) ((((x2.set (Int.toNat x1) (⟨x0, y1.A, y1.B, y1.Text⟩ : DRecord)).set (Int.toNat x1) (⟨y2.From, (IntKind.wrap .i64 (x0 + 1)), y2.B, y2.Text⟩ : DRecord)).set (Int.toNat x1) (⟨y3.From, y3.A, (IntKind.wrap .i64 ((IntKind.wrap .i64 (x0 + 1)) + 1)), y3.Text⟩ : DRecord)).set (Int.toNat x1) (⟨y5.From, y5.A, y5.B, r4⟩ : DRecord))
    else
      some (x0, x2)
noncomputable def laws_markRecordS (k : Nat) (a0 : List DRecord) (a1 : Int) : Option (Int × List DRecord) :=
  laws_markRecordS_l2 k a1 0 a0
noncomputable def laws_heldEndS_l2 : Nat → List DEnd → Int → Int → Option (Int)
  | 0, _, _, _ => none
  | k + 1, x0, x1, x2 =>
    bif (decide (x2 < (x0.length : Int))) then
      (idx x0 x2).bind fun y1 =>
      bif (y1.Number != x1) then
        some (-1)
      else
        (idx x0 x2).bind fun y2 =>
        (qrem (IntKind.wrap .i64 (x1 + 1)) 3).bind fun q3 =>
        bif (!(y2.Up == (q3 == 0))) then
          some (-1)
        else
          (idx x0 x2).bind fun y4 =>
          bif (y4.Life != (IntKind.wrap .i64 ((IntKind.wrap .i64 (x1 + 1)) + 1))) then
            some (-1)
          else
            (idx x0 x2).bind fun y5 =>
            bif (y5.Peer != (IntKind.wrap .i64 ((IntKind.wrap .i64 ((IntKind.wrap .i64 (x1 + 1)) + 1)) + 1))) then
              some (-1)
            else
              (idx x0 x2).bind fun y6 =>
              bif (y6.Since != (IntKind.wrap .i64 ((IntKind.wrap .i64 ((IntKind.wrap .i64 ((IntKind.wrap .i64 (x1 + 1)) + 1)) + 1)) + 1))) then
                some (-1)
              else
                (idx x0 x2).bind fun y7 =>
                (qrem (IntKind.wrap .i64 ((IntKind.wrap .i64 ((IntKind.wrap .i64 ((IntKind.wrap .i64 ((IntKind.wrap .i64 (x1 + 1)) + 1)) + 1)) + 1)) + 1)) 3).bind fun q8 =>
                bif (!(y7.Owes == (q8 == 0))) then
                  some (-1)
                else
                  (idx x0 x2).bind fun y9 =>
                  bif (y9.Send.Base != (IntKind.wrap .i64 ((IntKind.wrap .i64 ((IntKind.wrap .i64 ((IntKind.wrap .i64 ((IntKind.wrap .i64 ((IntKind.wrap .i64 (x1 + 1)) + 1)) + 1)) + 1)) + 1)) + 1))) then
                    some (-1)
                  else
                    (idx x0 x2).bind fun y10 =>
                    (laws_heldItemS k y10.Send.Items (IntKind.wrap .i64 ((IntKind.wrap .i64 ((IntKind.wrap .i64 ((IntKind.wrap .i64 ((IntKind.wrap .i64 ((IntKind.wrap .i64 ((IntKind.wrap .i64 (x1 + 1)) + 1)) + 1)) + 1)) + 1)) + 1)) + 1))).bind fun r11 =>
                    bif (decide (r11 < 0)) then
                      some (-1)
                    else
                      (idx x0 x2).bind fun y12 =>
                      bif (y12.Take.Next != r11) then
                        some (-1)
                      else
                        (idx x0 x2).bind fun y13 =>
                        (laws_heldHeldS k y13.Take.Held (IntKind.wrap .i64 (r11 + 1))).bind fun r14 =>
                        bif (decide (r14 < 0)) then
                          some (-1)
                        else
                          (idx x0 x2).bind fun y15 =>
                          (laws_markText k r14).bind fun r16 =>
                          bif (!(y15.Take.Open.toList == r16.toList)) then
                            some (-1)
                          else
                            (idx x0 x2).bind fun y17 =>
                            (laws_heldStringS k y17.Take.Ready (IntKind.wrap .i64 (r14 + 1))).bind fun r18 =>
                            bif (decide (r18 < 0)) then
                              some (-1)
                            else
                              laws_heldEndS_l2 k x0 r18 (IntKind.wrap .i64 (x2 + 1))
    else
      some x1
noncomputable def laws_heldEndS (k : Nat) (a0 : List DEnd) (a1 : Int) : Option (Int) :=
  laws_heldEndS_l2 k a0 a1 0
noncomputable def laws_heldParcelS_l2 : Nat → List DParcel → Int → Int → Option (Int)
  | 0, _, _, _ => none
  | k + 1, x0, x1, x2 =>
    bif (decide (x2 < (x0.length : Int))) then
      (idx x0 x2).bind fun y1 =>
      bif (y1.To != x1) then
        some (-1)
      else
        (idx x0 x2).bind fun y2 =>
        (laws_markText k (IntKind.wrap .i64 (x1 + 1))).bind fun r3 =>
        bif (!(y2.Sent.toList == r3.toList)) then
          some (-1)
        else
          (idx x0 x2).bind fun y4 =>
          (laws_markText k (IntKind.wrap .i64 ((IntKind.wrap .i64 (x1 + 1)) + 1))).bind fun r5 =>
          bif (!(y4.Bytes.toList == r5.toList)) then
            some (-1)
          else
            laws_heldParcelS_l2 k x0 (IntKind.wrap .i64 ((IntKind.wrap .i64 ((IntKind.wrap .i64 (x1 + 1)) + 1)) + 1)) (IntKind.wrap .i64 (x2 + 1))
    else
      some x1
noncomputable def laws_heldParcelS (k : Nat) (a0 : List DParcel) (a1 : Int) : Option (Int) :=
  laws_heldParcelS_l2 k a0 a1 0
noncomputable def laws_heldRecordS_l2 : Nat → List DRecord → Int → Int → Option (Int)
  | 0, _, _, _ => none
  | k + 1, x0, x1, x2 =>
    bif (decide (x2 < (x0.length : Int))) then
      (idx x0 x2).bind fun y1 =>
      bif (y1.From != x1) then
        some (-1)
      else
        (idx x0 x2).bind fun y2 =>
        bif (y2.A != (IntKind.wrap .i64 (x1 + 1))) then
          some (-1)
        else
          (idx x0 x2).bind fun y3 =>
          bif (y3.B != (IntKind.wrap .i64 ((IntKind.wrap .i64 (x1 + 1)) + 1))) then
            some (-1)
          else
            (idx x0 x2).bind fun y4 =>
            (laws_markText k (IntKind.wrap .i64 ((IntKind.wrap .i64 ((IntKind.wrap .i64 (x1 + 1)) + 1)) + 1))).bind fun r5 =>
            bif (!(y4.Text.toList == r5.toList)) then
              some (-1)
            else
              laws_heldRecordS_l2 k x0 (IntKind.wrap .i64 ((IntKind.wrap .i64 ((IntKind.wrap .i64 ((IntKind.wrap .i64 (x1 + 1)) + 1)) + 1)) + 1)) (IntKind.wrap .i64 (x2 + 1))
    else
      some x1
noncomputable def laws_heldRecordS (k : Nat) (a0 : List DRecord) (a1 : Int) : Option (Int) :=
  laws_heldRecordS_l2 k a0 a1 0
noncomputable def laws_heldWorld (k : Nat) (a0 : DWorld) (a1 : Int) : Option (Int) :=
  (laws_heldEndS k a0.Ends a1).bind fun r1 =>
  bif (decide (r1 < 0)) then
    some (-1)
  else
    (laws_heldParcelS k a0.Flight r1).bind fun r2 =>
    bif (decide (r2 < 0)) then
      some (-1)
    else
      (laws_heldRecordS k a0.Given r2).bind fun r3 =>
      bif (decide (r3 < 0)) then
        some (-1)
      else
        (laws_heldRecordS k a0.Taken r3).bind fun r4 =>
        bif (decide (r4 < 0)) then
          some (-1)
        else
          some r4
end Km.X
namespace Km.X
open Go Km
set_option linter.unusedVariables false
set_option maxRecDepth 100000
end Km.X
namespace Km.X
open Go Km
set_option linter.unusedVariables false
set_option maxRecDepth 100000
end Km.X
namespace Km.X
open Go Km
set_option linter.unusedVariables false
set_option maxRecDepth 100000
end Km.X
namespace Km.X
open Go Km
set_option linter.unusedVariables false
set_option maxRecDepth 100000
noncomputable def spec_l1Rd_pick (k : Nat) (a0 : DL1Rd) (a1 : Int) : Option (Int × DL1Rd) :=
  bif (decide (a1 < 1)) then
    some (0, (⟨a0.b, (IntKind.wrap .i64 (a0.p + 1))⟩ : DL1Rd))
  else
    bif ((a0.b.length : Int) == 0) then
      some (0, (⟨a0.b, (IntKind.wrap .i64 (a0.p + 1))⟩ : DL1Rd))
    else
      bif (decide ((IntKind.wrap .i64 ((IntKind.wrap .i64 (a0.p + 1)) - 1)) < (a0.b.length : Int))) then
        (idx a0.b (IntKind.wrap .i64 ((IntKind.wrap .i64 (a0.p + 1)) - 1))).bind fun y1 =>
        (qrem (IntKind.wrap .i64 y1) a1).bind fun q2 =>
        some (q2, (⟨a0.b, (IntKind.wrap .i64 (a0.p + 1))⟩ : DL1Rd))
      else
        (qrem (IntKind.wrap .i64 ((IntKind.wrap .i64 (a0.p + 1)) - 1)) (a0.b.length : Int)).bind fun q3 =>
        (idx a0.b q3).bind fun y4 =>
        (qrem (IntKind.wrap .i64 ((IntKind.wrap .i64 ((IntKind.wrap .i64 ((IntKind.wrap .i64 (a0.p + 1)) - 1)) * 7)) + 3)) (a0.b.length : Int)).bind fun q5 =>
        (idx a0.b q5).bind fun y6 =>
        (qdiv (IntKind.wrap .i64 ((IntKind.wrap .i64 (a0.p + 1)) - 1)) (a0.b.length : Int)).bind fun q7 =>
        (qdiv (IntKind.wrap .i64 ((IntKind.wrap .i64 ((IntKind.wrap .i64 ((IntKind.wrap .i64 ((IntKind.wrap .i64 y4) * 131)) + (IntKind.wrap .i64 ((IntKind.wrap .i64 y6) * 1117)))) + (IntKind.wrap .i64 ((IntKind.wrap .i64 ((IntKind.wrap .i64 (a0.p + 1)) - 1)) * 29)))) + (IntKind.wrap .i64 ((IntKind.wrap .i64 (q7)) * 53)))) 64).bind fun q8 =>
        (qrem (bitsXor .i64 (IntKind.wrap .i64 ((IntKind.wrap .i64 ((IntKind.wrap .i64 ((IntKind.wrap .i64 ((IntKind.wrap .i64 y4) * 131)) + (IntKind.wrap .i64 ((IntKind.wrap .i64 y6) * 1117)))) + (IntKind.wrap .i64 ((IntKind.wrap .i64 ((IntKind.wrap .i64 (a0.p + 1)) - 1)) * 29)))) + (IntKind.wrap .i64 ((IntKind.wrap .i64 (q7)) * 53)))) (IntKind.wrap .i64 (q8))) a1).bind fun q9 =>
        some (q9, (⟨a0.b, (IntKind.wrap .i64 (a0.p + 1))⟩ : DL1Rd))
mutual
noncomputable def spec_l1Many_l2 : Nat → ByteArray → Int → ByteArray → Option (ByteArray)
  | 0, _, _, _ => none
  | k + 1, x0, x1, x2 =>
    bif (decide (x1 > 0)) then
      (qrem x1 2).bind fun q1 =>
      bif (q1 == 1) then
        (sadd x2 x0).bind fun t2 =>
        spec_l1Many_l5 k x0 x1 t2
      else
        spec_l1Many_l5 k x0 x1 x2
    else
      some x2
noncomputable def spec_l1Many_l5 : Nat → ByteArray → Int → ByteArray → Option (ByteArray)
  | 0, _, _, _ => none
  | k + 1, x0, x1, x2 =>
    (sadd x0 x0).bind fun t3 =>
    (qdiv x1 2).bind fun q4 =>
    spec_l1Many_l2 k t3 (IntKind.wrap .i64 (q4)) x2
end
noncomputable def spec_l1Many (k : Nat) (a0 : ByteArray) (a1 : Int) : Option (ByteArray) :=
  spec_l1Many_l2 k a0 a1 (⟨#[]⟩ : ByteArray)
noncomputable def spec_l1Message_l12 : Nat → ByteArray → Int → List Int → Int → Option (ByteArray × DL1Rd)
  | 0, _, _, _, _ => none
  | k + 1, x0, x1, x2, x3 =>
    bif (decide (x1 > 0)) then
      (spec_l1Rd_pick k (⟨x2, x3⟩ : DL1Rd) 5).bind fun r10 =>
      (wnd (⟨#[97, 98, 99, 100, 32]⟩ : ByteArray).size r10.1 ((⟨#[97, 98, 99, 100, 32]⟩ : ByteArray).size : Int)).bind fun p11 =>
      (wnd ((⟨#[97, 98, 99, 100, 32]⟩ : ByteArray).extract p11.1 p11.2).size 0 1).bind fun p12 =>
      (sadd x0 (((⟨#[97, 98, 99, 100, 32]⟩ : ByteArray).extract p11.1 p11.2).extract p12.1 p12.2)).bind fun t13 =>
      spec_l1Message_l12 k t13 (IntKind.wrap .i64 (x1 - 1)) r10.2.b r10.2.p
    else
      some (x0, (⟨x2, x3⟩ : DL1Rd))
noncomputable def spec_l1Message (k : Nat) (a0 : DL1Rd) : Option (ByteArray × DL1Rd) :=
  (spec_l1Rd_pick k a0 8).bind fun r1 =>
  bif (r1.1 == 0) then
    some ((⟨#[]⟩ : ByteArray), r1.2)
  else
    bif (r1.1 == 1) then
      (spec_l1Rd_pick k r1.2 5).bind fun r2 =>
      (spec_l1Rd_pick k r2.2 3).bind fun r3 =>
      (spec_l1Rd_pick k r3.2 2).bind fun r4 =>
      (spec_l1Rd_pick k r4.2 2).bind fun r5 =>
      (spec_l1Many k (⟨#[109]⟩ : ByteArray) (IntKind.wrap .i64 ((IntKind.wrap .i64 ((IntKind.wrap .i64 (20 * r2.1)) + r3.1)) - (IntKind.wrap .i64 (r4.1 * r5.1))))).bind fun r6 =>
      some (r6, r5.2)
    else
      bif (r1.1 == 2) then
        (spec_l1Rd_pick k r1.2 19).bind fun r7 =>
        (spec_l1Many k (⟨#[48, 49, 50, 51, 52, 53, 54, 55, 56, 57]⟩ : ByteArray) (IntKind.wrap .i64 (1 + r7.1))).bind fun r8 =>
        some (r8, r7.2)
      else
        bif (r1.1 == 3) then
          some ((⟨#[0, 255]⟩ : ByteArray), r1.2)
        else
          (spec_l1Rd_pick k r1.2 30).bind fun r9 =>
          spec_l1Message_l12 k (⟨#[]⟩ : ByteArray) (IntKind.wrap .i64 (1 + r9.1)) r9.2.b r9.2.p
mutual
noncomputable def spec_l4Draw_l3 : Nat → Int → List Int → Int → Int → Int → List DItem → List DItem → Option (DSend × DL1Rd)
  | 0, _, _, _, _, _, _, _ => none
  | k + 1, x0, x1, x2, x3, x4, x5, x6 =>
    bif (decide (x0 > 0)) then
      both (
        (spec_l1Message k (⟨x1, x2⟩ : DL1Rd)).bind fun r4 =>
        (spec_SendPush k (⟨x4, x6⟩ : DSend) r4.1).bind fun r5 =>
        bif (r5.2 == 0) then
          spec_l4Draw_l8 k x0 r4.2.b r4.2.p x3 r5.1.Base x5 r5.1.Items
        else
          spec_l4Draw_l8 k x0 r4.2.b r4.2.p x3 x4 x5 x6
      ) (
        both (
          (spec_l1Message k (⟨x1, x2⟩ : DL1Rd)).bind fun r6 =>
          (spec_SendPush k (⟨x4, x6⟩ : DSend) r6.1).bind fun r7 =>
          bif (r7.2 == 0) then
            spec_l4Draw_l8 k x0 r6.2.b r6.2.p x3 r7.1.Base x5 r7.1.Items
          else
            spec_l4Draw_l8 k x0 r6.2.b r6.2.p x3 x4 x5 x6
        ) (
          (spec_l1Message k (⟨x1, x2⟩ : DL1Rd)).bind fun r8 =>
          (spec_SendPush k (⟨x4, x6⟩ : DSend) r8.1).bind fun r9 =>
          bif (r9.2 == 0) then
            spec_l4Draw_l8 k x0 r8.2.b r8.2.p x3 r9.1.Base x5 r9.1.Items
          else
            spec_l4Draw_l8 k x0 r8.2.b r8.2.p x3 x4 x5 x6
        )
      )
    else
      (spec_l1Rd_pick k (⟨x1, x2⟩ : DL1Rd) 12).bind fun r10 =>
      bif (r10.1 == 0) then
        (spec_l1Rd_pick k r10.2 3).bind fun r11 =>
        spec_l4Draw_l16 k (IntKind.wrap .i64 (60 - r11.1)) r11.2.b r11.2.p x3 x4 x5 x6
      else
        spec_l4Draw_l18 k r10.2.b r10.2.p x3 x4 x5 x6
noncomputable def spec_l4Draw_l8 : Nat → Int → List Int → Int → Int → Int → List DItem → List DItem → Option (DSend × DL1Rd)
  | 0, _, _, _, _, _, _, _ => none
  | k + 1, x0, x1, x2, x3, x4, x5, x6 =>
    (spec_l1Rd_pick k (⟨x1, x2⟩ : DL1Rd) 6).bind fun r12 =>
    spec_l4Draw_l9 k x0 r12.1 r12.2.b r12.2.p x3 x4 x5 x6
noncomputable def spec_l4Draw_l16 : Nat → Int → List Int → Int → Int → Int → List DItem → List DItem → Option (DSend × DL1Rd)
  | 0, _, _, _, _, _, _, _ => none
  | k + 1, x0, x1, x2, x3, x4, x5, x6 =>
    bif (decide ((x6.length : Int) < x0)) then
      bif (decide ((IntKind.wrap .i64 (x4 + (x6.length : Int))) < 1000000)) then
        (app 40 x6 ([(⟨(⟨(⟨#[102]⟩ : ByteArray), true⟩ : DPart), false, (-1)⟩ : DItem)] : List DItem)).bind fun l13 =>
        spec_l4Draw_l16 k x0 x1 x2 x3 x4 x5 l13
      else
        spec_l4Draw_l18 k x1 x2 x3 x4 x5 x6
    else
      spec_l4Draw_l18 k x1 x2 x3 x4 x5 x6
noncomputable def spec_l4Draw_l18 : Nat → List Int → Int → Int → Int → List DItem → List DItem → Option (DSend × DL1Rd)
  | 0, _, _, _, _, _, _ => none
  | k + 1, x0, x1, x2, x3, x4, x5 =>
    (spec_l4Copy k (⟨x3, x5⟩ : DSend)).bind fun r14 =>
    some (r14, (⟨x0, x1⟩ : DL1Rd))
noncomputable def spec_l4Draw_l9 : Nat → Int → Int → List Int → Int → Int → Int → List DItem → List DItem → Option (DSend × DL1Rd)
  | 0, _, _, _, _, _, _, _, _ => none
  | k + 1, x0, x1, x2, x3, x4, x5, x6, x7 =>
    bif (decide (x1 > 0)) then
      (spec_SendTick k (⟨x5, x7⟩ : DSend)).bind fun r15 =>
      spec_l4Draw_l9 k x0 (IntKind.wrap .i64 (x1 - 1)) x2 x3 x4 r15.1.Base x6 r15.1.Items
    else
      (spec_l1Rd_pick k (⟨x2, x3⟩ : DL1Rd) 3).bind fun r16 =>
      bif (r16.1 == 0) then
        (spec_l1Rd_pick k r16.2 4).bind fun r17 =>
        (spec_l1Rd_pick k r17.2 256).bind fun r18 =>
        (spec_SendWord k (⟨x5, x7⟩ : DSend) (IntKind.wrap .i64 (x5 + r17.1)) r18.1).bind fun r19 =>
        spec_l4Draw_l4 k x0 r18.2.b r18.2.p x4 r19.Base x6 r19.Items
      else
        spec_l4Draw_l4 k x0 r16.2.b r16.2.p x4 x5 x6 x7
noncomputable def spec_l4Draw_l4 : Nat → Int → List Int → Int → Int → Int → List DItem → List DItem → Option (DSend × DL1Rd)
  | 0, _, _, _, _, _, _, _ => none
  | k + 1, x0, x1, x2, x3, x4, x5, x6 =>
    spec_l4Draw_l3 k (IntKind.wrap .i64 (x0 - 1)) x1 x2 x3 x4 x5 x6
end
end Km.X
namespace Km.X
open Go Km
set_option linter.unusedVariables false
set_option maxRecDepth 100000
noncomputable def laws_markHeldS_e_l2 : Nat → List DHeld → Int → Int → Option (Int)
  | 0, _, _, _ => none
  | k + 1, x0, x1, x2 =>
    bif (decide (x2 < (x0.length : Int))) then
      (idx x0 x2).bind fun y1 =>
      none
    else
      some x1
noncomputable def laws_markHeldS_e (k : Nat) (a0 : List DHeld) (a1 : Int) : Option (Int) :=
  laws_markHeldS_e_l2 k a0 a1 0
noncomputable def laws_markStringS_e_l2 : Nat → List ByteArray → Int → Int → Option (Int)
  | 0, _, _, _ => none
  | k + 1, x0, x1, x2 =>
    bif (decide (x2 < (x0.length : Int))) then
      (laws_markText k x1).bind fun r1 =>
      (idx x0 x2).bind fun y2 =>
      none
    else
      some x1
noncomputable def laws_markStringS_e (k : Nat) (a0 : List ByteArray) (a1 : Int) : Option (Int) :=
  laws_markStringS_e_l2 k a0 a1 0
noncomputable def laws_markItemS_e_l2 : Nat → List DItem → Int → Int → Option (Int)
  | 0, _, _, _ => none
  | k + 1, x0, x1, x2 =>
    bif (decide (x2 < (x0.length : Int))) then
      (laws_markText k x1).bind fun r1 =>
      (idx x0 x2).bind fun y2 =>
      none
    else
      some x1
noncomputable def laws_markItemS_e (k : Nat) (a0 : List DItem) (a1 : Int) : Option (Int) :=
  laws_markItemS_e_l2 k a0 a1 0
noncomputable def laws_markEndS_l2 : Nat → Int → Int → List DEnd → Option (Int × List DEnd)
  | 0, _, _, _ => none
  | k + 1, x0, x1, x2 =>
    bif (decide (x1 < (x2.length : Int))) then
      (idx x2 x1).bind fun _ =>
      (x2[(Int.toNat x1)]?).bind fun y1 =>
      (qrem (IntKind.wrap .i64 (x0 + 1)) 3).bind fun q2 =>
      (idx (x2.set (Int.toNat x1) (⟨x0, y1.Up, y1.Life, y1.Peer, y1.Since, y1.Owes, y1.Send, y1.Take⟩ : DEnd)) x1).bind fun _ =>
      ((x2.set (Int.toNat x1) (⟨x0, y1.Up, y1.Life, y1.Peer, y1.Since, y1.Owes, y1.Send, y1.Take⟩ : DEnd))[(Int.toNat x1)]?).bind fun y3 =>
      (idx ((x2.set (Int.toNat x1) (⟨x0, y1.Up, y1.Life, y1.Peer, y1.Since, y1.Owes, y1.Send, y1.Take⟩ : DEnd)).set (Int.toNat x1) (⟨y3.Number, (q2 == 0), y3.Life, y3.Peer, y3.Since, y3.Owes, y3.Send, y3.Take⟩ : DEnd)) x1).bind fun _ =>
      (((x2.set (Int.toNat x1) (⟨x0, y1.Up, y1.Life, y1.Peer, y1.Since, y1.Owes, y1.Send, y1.Take⟩ : DEnd)).set (Int.toNat x1) (⟨y3.Number, (q2 == 0), y3.Life, y3.Peer, y3.Since, y3.Owes, y3.Send, y3.Take⟩ : DEnd))[(Int.toNat x1)]?).bind fun y4 =>
      (idx (((x2.set (Int.toNat x1) (⟨x0, y1.Up, y1.Life, y1.Peer, y1.Since, y1.Owes, y1.Send, y1.Take⟩ : DEnd)).set (Int.toNat x1) (⟨y3.Number, (q2 == 0), y3.Life, y3.Peer, y3.Since, y3.Owes, y3.Send, y3.Take⟩ : DEnd)).set (Int.toNat x1) (⟨y4.Number, y4.Up, (IntKind.wrap .i64 ((IntKind.wrap .i64 (x0 + 1)) + 1)), y4.Peer, y4.Since, y4.Owes, y4.Send, y4.Take⟩ : DEnd)) x1).bind fun _ =>
      ((((x2.set (Int.toNat x1) (⟨x0, y1.Up, y1.Life, y1.Peer, y1.Since, y1.Owes, y1.Send, y1.Take⟩ : DEnd)).set (Int.toNat x1) (⟨y3.Number, (q2 == 0), y3.Life, y3.Peer, y3.Since, y3.Owes, y3.Send, y3.Take⟩ : DEnd)).set (Int.toNat x1) (⟨y4.Number, y4.Up, (IntKind.wrap .i64 ((IntKind.wrap .i64 (x0 + 1)) + 1)), y4.Peer, y4.Since, y4.Owes, y4.Send, y4.Take⟩ : DEnd))[(Int.toNat x1)]?).bind fun y5 =>
      (idx ((((x2.set (Int.toNat x1) (⟨x0, y1.Up, y1.Life, y1.Peer, y1.Since, y1.Owes, y1.Send, y1.Take⟩ : DEnd)).set (Int.toNat x1) (⟨y3.Number, (q2 == 0), y3.Life, y3.Peer, y3.Since, y3.Owes, y3.Send, y3.Take⟩ : DEnd)).set (Int.toNat x1) (⟨y4.Number, y4.Up, (IntKind.wrap .i64 ((IntKind.wrap .i64 (x0 + 1)) + 1)), y4.Peer, y4.Since, y4.Owes, y4.Send, y4.Take⟩ : DEnd)).set (Int.toNat x1) (⟨y5.Number, y5.Up, y5.Life, (IntKind.wrap .i64 ((IntKind.wrap .i64 ((IntKind.wrap .i64 (x0 + 1)) + 1)) + 1)), y5.Since, y5.Owes, y5.Send, y5.Take⟩ : DEnd)) x1).bind fun _ =>
      (((((x2.set (Int.toNat x1) (⟨x0, y1.Up, y1.Life, y1.Peer, y1.Since, y1.Owes, y1.Send, y1.Take⟩ : DEnd)).set (Int.toNat x1) (⟨y3.Number, (q2 == 0), y3.Life, y3.Peer, y3.Since, y3.Owes, y3.Send, y3.Take⟩ : DEnd)).set (Int.toNat x1) (⟨y4.Number, y4.Up, (IntKind.wrap .i64 ((IntKind.wrap .i64 (x0 + 1)) + 1)), y4.Peer, y4.Since, y4.Owes, y4.Send, y4.Take⟩ : DEnd)).set (Int.toNat x1) (⟨y5.Number, y5.Up, y5.Life, (IntKind.wrap .i64 ((IntKind.wrap .i64 ((IntKind.wrap .i64 (x0 + 1)) + 1)) + 1)), y5.Since, y5.Owes, y5.Send, y5.Take⟩ : DEnd))[(Int.toNat x1)]?).bind fun y6 =>
      (qrem (IntKind.wrap .i64 ((IntKind.wrap .i64 ((IntKind.wrap .i64 ((IntKind.wrap .i64 ((IntKind.wrap .i64 (x0 + 1)) + 1)) + 1)) + 1)) + 1)) 3).bind fun q7 =>
      (idx (((((x2.set (Int.toNat x1) (⟨x0, y1.Up, y1.Life, y1.Peer, y1.Since, y1.Owes, y1.Send, y1.Take⟩ : DEnd)).set (Int.toNat x1) (⟨y3.Number, (q2 == 0), y3.Life, y3.Peer, y3.Since, y3.Owes, y3.Send, y3.Take⟩ : DEnd)).set (Int.toNat x1) (⟨y4.Number, y4.Up, (IntKind.wrap .i64 ((IntKind.wrap .i64 (x0 + 1)) + 1)), y4.Peer, y4.Since, y4.Owes, y4.Send, y4.Take⟩ : DEnd)).set (Int.toNat x1) (⟨y5.Number, y5.Up, y5.Life, (IntKind.wrap .i64 ((IntKind.wrap .i64 ((IntKind.wrap .i64 (x0 + 1)) + 1)) + 1)), y5.Since, y5.Owes, y5.Send, y5.Take⟩ : DEnd)).set (Int.toNat x1) (⟨y6.Number, y6.Up, y6.Life, y6.Peer, (IntKind.wrap .i64 ((IntKind.wrap .i64 ((IntKind.wrap .i64 ((IntKind.wrap .i64 (x0 + 1)) + 1)) + 1)) + 1)), y6.Owes, y6.Send, y6.Take⟩ : DEnd)) x1).bind fun _ =>
      ((((((x2.set (Int.toNat x1) (⟨x0, y1.Up, y1.Life, y1.Peer, y1.Since, y1.Owes, y1.Send, y1.Take⟩ : DEnd)).set (Int.toNat x1) (⟨y3.Number, (q2 == 0), y3.Life, y3.Peer, y3.Since, y3.Owes, y3.Send, y3.Take⟩ : DEnd)).set (Int.toNat x1) (⟨y4.Number, y4.Up, (IntKind.wrap .i64 ((IntKind.wrap .i64 (x0 + 1)) + 1)), y4.Peer, y4.Since, y4.Owes, y4.Send, y4.Take⟩ : DEnd)).set (Int.toNat x1) (⟨y5.Number, y5.Up, y5.Life, (IntKind.wrap .i64 ((IntKind.wrap .i64 ((IntKind.wrap .i64 (x0 + 1)) + 1)) + 1)), y5.Since, y5.Owes, y5.Send, y5.Take⟩ : DEnd)).set (Int.toNat x1) (⟨y6.Number, y6.Up, y6.Life, y6.Peer, (IntKind.wrap .i64 ((IntKind.wrap .i64 ((IntKind.wrap .i64 ((IntKind.wrap .i64 (x0 + 1)) + 1)) + 1)) + 1)), y6.Owes, y6.Send, y6.Take⟩ : DEnd))[(Int.toNat x1)]?).bind fun y8 =>
      (idx ((((((x2.set (Int.toNat x1) (⟨x0, y1.Up, y1.Life, y1.Peer, y1.Since, y1.Owes, y1.Send, y1.Take⟩ : DEnd)).set (Int.toNat x1) (⟨y3.Number, (q2 == 0), y3.Life, y3.Peer, y3.Since, y3.Owes, y3.Send, y3.Take⟩ : DEnd)).set (Int.toNat x1) (⟨y4.Number, y4.Up, (IntKind.wrap .i64 ((IntKind.wrap .i64 (x0 + 1)) + 1)), y4.Peer, y4.Since, y4.Owes, y4.Send, y4.Take⟩ : DEnd)).set (Int.toNat x1) (⟨y5.Number, y5.Up, y5.Life, (IntKind.wrap .i64 ((IntKind.wrap .i64 ((IntKind.wrap .i64 (x0 + 1)) + 1)) + 1)), y5.Since, y5.Owes, y5.Send, y5.Take⟩ : DEnd)).set (Int.toNat x1) (⟨y6.Number, y6.Up, y6.Life, y6.Peer, (IntKind.wrap .i64 ((IntKind.wrap .i64 ((IntKind.wrap .i64 ((IntKind.wrap .i64 (x0 + 1)) + 1)) + 1)) + 1)), y6.Owes, y6.Send, y6.Take⟩ : DEnd)).set (Int.toNat x1) (⟨y8.Number, y8.Up, y8.Life, y8.Peer, y8.Since, (q7 == 0), y8.Send, y8.Take⟩ : DEnd)) x1).bind fun _ =>
      (((((((x2.set (Int.toNat x1) (⟨x0, y1.Up, y1.Life, y1.Peer, y1.Since, y1.Owes, y1.Send, y1.Take⟩ : DEnd)).set (Int.toNat x1) (⟨y3.Number, (q2 == 0), y3.Life, y3.Peer, y3.Since, y3.Owes, y3.Send, y3.Take⟩ : DEnd)).set (Int.toNat x1) (⟨y4.Number, y4.Up, (IntKind.wrap .i64 ((IntKind.wrap .i64 (x0 + 1)) + 1)), y4.Peer, y4.Since, y4.Owes, y4.Send, y4.Take⟩ : DEnd)).set (Int.toNat x1) (⟨y5.Number, y5.Up, y5.Life, (IntKind.wrap .i64 ((IntKind.wrap .i64 ((IntKind.wrap .i64 (x0 + 1)) + 1)) + 1)), y5.Since, y5.Owes, y5.Send, y5.Take⟩ : DEnd)).set (Int.toNat x1) (⟨y6.Number, y6.Up, y6.Life, y6.Peer, (IntKind.wrap .i64 ((IntKind.wrap .i64 ((IntKind.wrap .i64 ((IntKind.wrap .i64 (x0 + 1)) + 1)) + 1)) + 1)), y6.Owes, y6.Send, y6.Take⟩ : DEnd)).set (Int.toNat x1) (⟨y8.Number, y8.Up, y8.Life, y8.Peer, y8.Since, (q7 == 0), y8.Send, y8.Take⟩ : DEnd))[(Int.toNat x1)]?).bind fun y9 =>
      (idx (((((((x2.set (Int.toNat x1) (⟨x0, y1.Up, y1.Life, y1.Peer, y1.Since, y1.Owes, y1.Send, y1.Take⟩ : DEnd)).set (Int.toNat x1) (⟨y3.Number, (q2 == 0), y3.Life, y3.Peer, y3.Since, y3.Owes, y3.Send, y3.Take⟩ : DEnd)).set (Int.toNat x1) (⟨y4.Number, y4.Up, (IntKind.wrap .i64 ((IntKind.wrap .i64 (x0 + 1)) + 1)), y4.Peer, y4.Since, y4.Owes, y4.Send, y4.Take⟩ : DEnd)).set (Int.toNat x1) (⟨y5.Number, y5.Up, y5.Life, (IntKind.wrap .i64 ((IntKind.wrap .i64 ((IntKind.wrap .i64 (x0 + 1)) + 1)) + 1)), y5.Since, y5.Owes, y5.Send, y5.Take⟩ : DEnd)).set (Int.toNat x1) (⟨y6.Number, y6.Up, y6.Life, y6.Peer, (IntKind.wrap .i64 ((IntKind.wrap .i64 ((IntKind.wrap .i64 ((IntKind.wrap .i64 (x0 + 1)) + 1)) + 1)) + 1)), y6.Owes, y6.Send, y6.Take⟩ : DEnd)).set (Int.toNat x1) (⟨y8.Number, y8.Up, y8.Life, y8.Peer, y8.Since, (q7 == 0), y8.Send, y8.Take⟩ : DEnd)).set (Int.toNat x1) (⟨y9.Number, y9.Up, y9.Life, y9.Peer, y9.Since, y9.Owes, (⟨(IntKind.wrap .i64 ((IntKind.wrap .i64 ((IntKind.wrap .i64 ((IntKind.wrap .i64 ((IntKind.wrap .i64 ((IntKind.wrap .i64 (x0 + 1)) + 1)) + 1)) + 1)) + 1)) + 1)), y9.Send.Items⟩ : DSend), y9.Take⟩ : DEnd)) x1).bind fun _ =>
      ((((((((x2.set (Int.toNat x1) (⟨x0, y1.Up, y1.Life, y1.Peer, y1.Since, y1.Owes, y1.Send, y1.Take⟩ : DEnd)).set (Int.toNat x1) (⟨y3.Number, (q2 == 0), y3.Life, y3.Peer, y3.Since, y3.Owes, y3.Send, y3.Take⟩ : DEnd)).set (Int.toNat x1) (⟨y4.Number, y4.Up, (IntKind.wrap .i64 ((IntKind.wrap .i64 (x0 + 1)) + 1)), y4.Peer, y4.Since, y4.Owes, y4.Send, y4.Take⟩ : DEnd)).set (Int.toNat x1) (⟨y5.Number, y5.Up, y5.Life, (IntKind.wrap .i64 ((IntKind.wrap .i64 ((IntKind.wrap .i64 (x0 + 1)) + 1)) + 1)), y5.Since, y5.Owes, y5.Send, y5.Take⟩ : DEnd)).set (Int.toNat x1) (⟨y6.Number, y6.Up, y6.Life, y6.Peer, (IntKind.wrap .i64 ((IntKind.wrap .i64 ((IntKind.wrap .i64 ((IntKind.wrap .i64 (x0 + 1)) + 1)) + 1)) + 1)), y6.Owes, y6.Send, y6.Take⟩ : DEnd)).set (Int.toNat x1) (⟨y8.Number, y8.Up, y8.Life, y8.Peer, y8.Since, (q7 == 0), y8.Send, y8.Take⟩ : DEnd)).set (Int.toNat x1) (⟨y9.Number, y9.Up, y9.Life, y9.Peer, y9.Since, y9.Owes, (⟨(IntKind.wrap .i64 ((IntKind.wrap .i64 ((IntKind.wrap .i64 ((IntKind.wrap .i64 ((IntKind.wrap .i64 ((IntKind.wrap .i64 (x0 + 1)) + 1)) + 1)) + 1)) + 1)) + 1)), y9.Send.Items⟩ : DSend), y9.Take⟩ : DEnd))[(Int.toNat x1)]?).bind fun y10 =>
      (laws_markItemS_e k y10.Send.Items (IntKind.wrap .i64 ((IntKind.wrap .i64 ((IntKind.wrap .i64 ((IntKind.wrap .i64 ((IntKind.wrap .i64 ((IntKind.wrap .i64 ((IntKind.wrap .i64 (x0 + 1)) + 1)) + 1)) + 1)) + 1)) + 1)) + 1))).bind fun r11 =>
      (idx (((((((x2.set (Int.toNat x1) (⟨x0, y1.Up, y1.Life, y1.Peer, y1.Since, y1.Owes, y1.Send, y1.Take⟩ : DEnd)).set (Int.toNat x1) (⟨y3.Number, (q2 == 0), y3.Life, y3.Peer, y3.Since, y3.Owes, y3.Send, y3.Take⟩ : DEnd)).set (Int.toNat x1) (⟨y4.Number, y4.Up, (IntKind.wrap .i64 ((IntKind.wrap .i64 (x0 + 1)) + 1)), y4.Peer, y4.Since, y4.Owes, y4.Send, y4.Take⟩ : DEnd)).set (Int.toNat x1) (⟨y5.Number, y5.Up, y5.Life, (IntKind.wrap .i64 ((IntKind.wrap .i64 ((IntKind.wrap .i64 (x0 + 1)) + 1)) + 1)), y5.Since, y5.Owes, y5.Send, y5.Take⟩ : DEnd)).set (Int.toNat x1) (⟨y6.Number, y6.Up, y6.Life, y6.Peer, (IntKind.wrap .i64 ((IntKind.wrap .i64 ((IntKind.wrap .i64 ((IntKind.wrap .i64 (x0 + 1)) + 1)) + 1)) + 1)), y6.Owes, y6.Send, y6.Take⟩ : DEnd)).set (Int.toNat x1) (⟨y8.Number, y8.Up, y8.Life, y8.Peer, y8.Since, (q7 == 0), y8.Send, y8.Take⟩ : DEnd)).set (Int.toNat x1) (⟨y9.Number, y9.Up, y9.Life, y9.Peer, y9.Since, y9.Owes, (⟨(IntKind.wrap .i64 ((IntKind.wrap .i64 ((IntKind.wrap .i64 ((IntKind.wrap .i64 ((IntKind.wrap .i64 ((IntKind.wrap .i64 (x0 + 1)) + 1)) + 1)) + 1)) + 1)) + 1)), y9.Send.Items⟩ : DSend), y9.Take⟩ : DEnd)) x1).bind fun _ =>
      ((((((((x2.set (Int.toNat x1) (⟨x0, y1.Up, y1.Life, y1.Peer, y1.Since, y1.Owes, y1.Send, y1.Take⟩ : DEnd)).set (Int.toNat x1) (⟨y3.Number, (q2 == 0), y3.Life, y3.Peer, y3.Since, y3.Owes, y3.Send, y3.Take⟩ : DEnd)).set (Int.toNat x1) (⟨y4.Number, y4.Up, (IntKind.wrap .i64 ((IntKind.wrap .i64 (x0 + 1)) + 1)), y4.Peer, y4.Since, y4.Owes, y4.Send, y4.Take⟩ : DEnd)).set (Int.toNat x1) (⟨y5.Number, y5.Up, y5.Life, (IntKind.wrap .i64 ((IntKind.wrap .i64 ((IntKind.wrap .i64 (x0 + 1)) + 1)) + 1)), y5.Since, y5.Owes, y5.Send, y5.Take⟩ : DEnd)).set (Int.toNat x1) (⟨y6.Number, y6.Up, y6.Life, y6.Peer, (IntKind.wrap .i64 ((IntKind.wrap .i64 ((IntKind.wrap .i64 ((IntKind.wrap .i64 (x0 + 1)) + 1)) + 1)) + 1)), y6.Owes, y6.Send, y6.Take⟩ : DEnd)).set (Int.toNat x1) (⟨y8.Number, y8.Up, y8.Life, y8.Peer, y8.Since, (q7 == 0), y8.Send, y8.Take⟩ : DEnd)).set (Int.toNat x1) (⟨y9.Number, y9.Up, y9.Life, y9.Peer, y9.Since, y9.Owes, (⟨(IntKind.wrap .i64 ((IntKind.wrap .i64 ((IntKind.wrap .i64 ((IntKind.wrap .i64 ((IntKind.wrap .i64 ((IntKind.wrap .i64 (x0 + 1)) + 1)) + 1)) + 1)) + 1)) + 1)), y9.Send.Items⟩ : DSend), y9.Take⟩ : DEnd))[(Int.toNat x1)]?).bind fun y12 =>
      (idx ((((((((x2.set (Int.toNat x1) (⟨x0, y1.Up, y1.Life, y1.Peer, y1.Since, y1.Owes, y1.Send, y1.Take⟩ : DEnd)).set (Int.toNat x1) (⟨y3.Number, (q2 == 0), y3.Life, y3.Peer, y3.Since, y3.Owes, y3.Send, y3.Take⟩ : DEnd)).set (Int.toNat x1) (⟨y4.Number, y4.Up, (IntKind.wrap .i64 ((IntKind.wrap .i64 (x0 + 1)) + 1)), y4.Peer, y4.Since, y4.Owes, y4.Send, y4.Take⟩ : DEnd)).set (Int.toNat x1) (⟨y5.Number, y5.Up, y5.Life, (IntKind.wrap .i64 ((IntKind.wrap .i64 ((IntKind.wrap .i64 (x0 + 1)) + 1)) + 1)), y5.Since, y5.Owes, y5.Send, y5.Take⟩ : DEnd)).set (Int.toNat x1) (⟨y6.Number, y6.Up, y6.Life, y6.Peer, (IntKind.wrap .i64 ((IntKind.wrap .i64 ((IntKind.wrap .i64 ((IntKind.wrap .i64 (x0 + 1)) + 1)) + 1)) + 1)), y6.Owes, y6.Send, y6.Take⟩ : DEnd)).set (Int.toNat x1) (⟨y8.Number, y8.Up, y8.Life, y8.Peer, y8.Since, (q7 == 0), y8.Send, y8.Take⟩ : DEnd)).set (Int.toNat x1) (⟨y9.Number, y9.Up, y9.Life, y9.Peer, y9.Since, y9.Owes, (⟨(IntKind.wrap .i64 ((IntKind.wrap .i64 ((IntKind.wrap .i64 ((IntKind.wrap .i64 ((IntKind.wrap .i64 ((IntKind.wrap .i64 (x0 + 1)) + 1)) + 1)) + 1)) + 1)) + 1)), y9.Send.Items⟩ : DSend), y9.Take⟩ : DEnd)).set (Int.toNat x1) (⟨y12.Number, y12.Up, y12.Life, y12.Peer, y12.Since, y12.Owes, y12.Send, (⟨r11, y12.Take.Held, y12.Take.Open, y12.Take.Ready⟩ : DTake)⟩ : DEnd)) x1).bind fun _ =>
      (((((((((x2.set (Int.toNat x1) (⟨x0, y1.Up, y1.Life, y1.Peer, y1.Since, y1.Owes, y1.Send, y1.Take⟩ : DEnd)).set (Int.toNat x1) (⟨y3.Number, (q2 == 0), y3.Life, y3.Peer, y3.Since, y3.Owes, y3.Send, y3.Take⟩ : DEnd)).set (Int.toNat x1) (⟨y4.Number, y4.Up, (IntKind.wrap .i64 ((IntKind.wrap .i64 (x0 + 1)) + 1)), y4.Peer, y4.Since, y4.Owes, y4.Send, y4.Take⟩ : DEnd)).set (Int.toNat x1) (⟨y5.Number, y5.Up, y5.Life, (IntKind.wrap .i64 ((IntKind.wrap .i64 ((IntKind.wrap .i64 (x0 + 1)) + 1)) + 1)), y5.Since, y5.Owes, y5.Send, y5.Take⟩ : DEnd)).set (Int.toNat x1) (⟨y6.Number, y6.Up, y6.Life, y6.Peer, (IntKind.wrap .i64 ((IntKind.wrap .i64 ((IntKind.wrap .i64 ((IntKind.wrap .i64 (x0 + 1)) + 1)) + 1)) + 1)), y6.Owes, y6.Send, y6.Take⟩ : DEnd)).set (Int.toNat x1) (⟨y8.Number, y8.Up, y8.Life, y8.Peer, y8.Since, (q7 == 0), y8.Send, y8.Take⟩ : DEnd)).set (Int.toNat x1) (⟨y9.Number, y9.Up, y9.Life, y9.Peer, y9.Since, y9.Owes, (⟨(IntKind.wrap .i64 ((IntKind.wrap .i64 ((IntKind.wrap .i64 ((IntKind.wrap .i64 ((IntKind.wrap .i64 ((IntKind.wrap .i64 (x0 + 1)) + 1)) + 1)) + 1)) + 1)) + 1)), y9.Send.Items⟩ : DSend), y9.Take⟩ : DEnd)).set (Int.toNat x1) (⟨y12.Number, y12.Up, y12.Life, y12.Peer, y12.Since, y12.Owes, y12.Send, (⟨r11, y12.Take.Held, y12.Take.Open, y12.Take.Ready⟩ : DTake)⟩ : DEnd))[(Int.toNat x1)]?).bind fun y13 =>
      (laws_markHeldS_e k y13.Take.Held (IntKind.wrap .i64 (r11 + 1))).bind fun r14 =>
      (laws_markText k r14).bind fun r15 =>
      (idx ((((((((x2.set (Int.toNat x1) (⟨x0, y1.Up, y1.Life, y1.Peer, y1.Since, y1.Owes, y1.Send, y1.Take⟩ : DEnd)).set (Int.toNat x1) (⟨y3.Number, (q2 == 0), y3.Life, y3.Peer, y3.Since, y3.Owes, y3.Send, y3.Take⟩ : DEnd)).set (Int.toNat x1) (⟨y4.Number, y4.Up, (IntKind.wrap .i64 ((IntKind.wrap .i64 (x0 + 1)) + 1)), y4.Peer, y4.Since, y4.Owes, y4.Send, y4.Take⟩ : DEnd)).set (Int.toNat x1) (⟨y5.Number, y5.Up, y5.Life, (IntKind.wrap .i64 ((IntKind.wrap .i64 ((IntKind.wrap .i64 (x0 + 1)) + 1)) + 1)), y5.Since, y5.Owes, y5.Send, y5.Take⟩ : DEnd)).set (Int.toNat x1) (⟨y6.Number, y6.Up, y6.Life, y6.Peer, (IntKind.wrap .i64 ((IntKind.wrap .i64 ((IntKind.wrap .i64 ((IntKind.wrap .i64 (x0 + 1)) + 1)) + 1)) + 1)), y6.Owes, y6.Send, y6.Take⟩ : DEnd)).set (Int.toNat x1) (⟨y8.Number, y8.Up, y8.Life, y8.Peer, y8.Since, (q7 == 0), y8.Send, y8.Take⟩ : DEnd)).set (Int.toNat x1) (⟨y9.Number, y9.Up, y9.Life, y9.Peer, y9.Since, y9.Owes, (⟨(IntKind.wrap .i64 ((IntKind.wrap .i64 ((IntKind.wrap .i64 ((IntKind.wrap .i64 ((IntKind.wrap .i64 ((IntKind.wrap .i64 (x0 + 1)) + 1)) + 1)) + 1)) + 1)) + 1)), y9.Send.Items⟩ : DSend), y9.Take⟩ : DEnd)).set (Int.toNat x1) (⟨y12.Number, y12.Up, y12.Life, y12.Peer, y12.Since, y12.Owes, y12.Send, (⟨r11, y12.Take.Held, y12.Take.Open, y12.Take.Ready⟩ : DTake)⟩ : DEnd)) x1).bind fun _ =>
      (((((((((x2.set (Int.toNat x1) (⟨x0, y1.Up, y1.Life, y1.Peer, y1.Since, y1.Owes, y1.Send, y1.Take⟩ : DEnd)).set (Int.toNat x1) (⟨y3.Number, (q2 == 0), y3.Life, y3.Peer, y3.Since, y3.Owes, y3.Send, y3.Take⟩ : DEnd)).set (Int.toNat x1) (⟨y4.Number, y4.Up, (IntKind.wrap .i64 ((IntKind.wrap .i64 (x0 + 1)) + 1)), y4.Peer, y4.Since, y4.Owes, y4.Send, y4.Take⟩ : DEnd)).set (Int.toNat x1) (⟨y5.Number, y5.Up, y5.Life, (IntKind.wrap .i64 ((IntKind.wrap .i64 ((IntKind.wrap .i64 (x0 + 1)) + 1)) + 1)), y5.Since, y5.Owes, y5.Send, y5.Take⟩ : DEnd)).set (Int.toNat x1) (⟨y6.Number, y6.Up, y6.Life, y6.Peer, (IntKind.wrap .i64 ((IntKind.wrap .i64 ((IntKind.wrap .i64 ((IntKind.wrap .i64 (x0 + 1)) + 1)) + 1)) + 1)), y6.Owes, y6.Send, y6.Take⟩ : DEnd)).set (Int.toNat x1) (⟨y8.Number, y8.Up, y8.Life, y8.Peer, y8.Since, (q7 == 0), y8.Send, y8.Take⟩ : DEnd)).set (Int.toNat x1) (⟨y9.Number, y9.Up, y9.Life, y9.Peer, y9.Since, y9.Owes, (⟨(IntKind.wrap .i64 ((IntKind.wrap .i64 ((IntKind.wrap .i64 ((IntKind.wrap .i64 ((IntKind.wrap .i64 ((IntKind.wrap .i64 (x0 + 1)) + 1)) + 1)) + 1)) + 1)) + 1)), y9.Send.Items⟩ : DSend), y9.Take⟩ : DEnd)).set (Int.toNat x1) (⟨y12.Number, y12.Up, y12.Life, y12.Peer, y12.Since, y12.Owes, y12.Send, (⟨r11, y12.Take.Held, y12.Take.Open, y12.Take.Ready⟩ : DTake)⟩ : DEnd))[(Int.toNat x1)]?).bind fun y16 =>
      (idx (((((((((x2.set (Int.toNat x1) (⟨x0, y1.Up, y1.Life, y1.Peer, y1.Since, y1.Owes, y1.Send, y1.Take⟩ : DEnd)).set (Int.toNat x1) (⟨y3.Number, (q2 == 0), y3.Life, y3.Peer, y3.Since, y3.Owes, y3.Send, y3.Take⟩ : DEnd)).set (Int.toNat x1) (⟨y4.Number, y4.Up, (IntKind.wrap .i64 ((IntKind.wrap .i64 (x0 + 1)) + 1)), y4.Peer, y4.Since, y4.Owes, y4.Send, y4.Take⟩ : DEnd)).set (Int.toNat x1) (⟨y5.Number, y5.Up, y5.Life, (IntKind.wrap .i64 ((IntKind.wrap .i64 ((IntKind.wrap .i64 (x0 + 1)) + 1)) + 1)), y5.Since, y5.Owes, y5.Send, y5.Take⟩ : DEnd)).set (Int.toNat x1) (⟨y6.Number, y6.Up, y6.Life, y6.Peer, (IntKind.wrap .i64 ((IntKind.wrap .i64 ((IntKind.wrap .i64 ((IntKind.wrap .i64 (x0 + 1)) + 1)) + 1)) + 1)), y6.Owes, y6.Send, y6.Take⟩ : DEnd)).set (Int.toNat x1) (⟨y8.Number, y8.Up, y8.Life, y8.Peer, y8.Since, (q7 == 0), y8.Send, y8.Take⟩ : DEnd)).set (Int.toNat x1) (⟨y9.Number, y9.Up, y9.Life, y9.Peer, y9.Since, y9.Owes, (⟨(IntKind.wrap .i64 ((IntKind.wrap .i64 ((IntKind.wrap .i64 ((IntKind.wrap .i64 ((IntKind.wrap .i64 ((IntKind.wrap .i64 (x0 + 1)) + 1)) + 1)) + 1)) + 1)) + 1)), y9.Send.Items⟩ : DSend), y9.Take⟩ : DEnd)).set (Int.toNat x1) (⟨y12.Number, y12.Up, y12.Life, y12.Peer, y12.Since, y12.Owes, y12.Send, (⟨r11, y12.Take.Held, y12.Take.Open, y12.Take.Ready⟩ : DTake)⟩ : DEnd)).set (Int.toNat x1) (⟨y16.Number, y16.Up, y16.Life, y16.Peer, y16.Since, y16.Owes, y16.Send, (⟨y16.Take.Next, y16.Take.Held, r15, y16.Take.Ready⟩ : DTake)⟩ : DEnd)) x1).bind fun _ =>
      ((((((((((x2.set (Int.toNat x1) (⟨x0, y1.Up, y1.Life, y1.Peer, y1.Since, y1.Owes, y1.Send, y1.Take⟩ : DEnd)).set (Int.toNat x1) (⟨y3.Number, (q2 == 0), y3.Life, y3.Peer, y3.Since, y3.Owes, y3.Send, y3.Take⟩ : DEnd)).set (Int.toNat x1) (⟨y4.Number, y4.Up, (IntKind.wrap .i64 ((IntKind.wrap .i64 (x0 + 1)) + 1)), y4.Peer, y4.Since, y4.Owes, y4.Send, y4.Take⟩ : DEnd)).set (Int.toNat x1) (⟨y5.Number, y5.Up, y5.Life, (IntKind.wrap .i64 ((IntKind.wrap .i64 ((IntKind.wrap .i64 (x0 + 1)) + 1)) + 1)), y5.Since, y5.Owes, y5.Send, y5.Take⟩ : DEnd)).set (Int.toNat x1) (⟨y6.Number, y6.Up, y6.Life, y6.Peer, (IntKind.wrap .i64 ((IntKind.wrap .i64 ((IntKind.wrap .i64 ((IntKind.wrap .i64 (x0 + 1)) + 1)) + 1)) + 1)), y6.Owes, y6.Send, y6.Take⟩ : DEnd)).set (Int.toNat x1) (⟨y8.Number, y8.Up, y8.Life, y8.Peer, y8.Since, (q7 == 0), y8.Send, y8.Take⟩ : DEnd)).set (Int.toNat x1) (⟨y9.Number, y9.Up, y9.Life, y9.Peer, y9.Since, y9.Owes, (⟨(IntKind.wrap .i64 ((IntKind.wrap .i64 ((IntKind.wrap .i64 ((IntKind.wrap .i64 ((IntKind.wrap .i64 ((IntKind.wrap .i64 (x0 + 1)) + 1)) + 1)) + 1)) + 1)) + 1)), y9.Send.Items⟩ : DSend), y9.Take⟩ : DEnd)).set (Int.toNat x1) (⟨y12.Number, y12.Up, y12.Life, y12.Peer, y12.Since, y12.Owes, y12.Send, (⟨r11, y12.Take.Held, y12.Take.Open, y12.Take.Ready⟩ : DTake)⟩ : DEnd)).set (Int.toNat x1) (⟨y16.Number, y16.Up, y16.Life, y16.Peer, y16.Since, y16.Owes, y16.Send, (⟨y16.Take.Next, y16.Take.Held, r15, y16.Take.Ready⟩ : DTake)⟩ : DEnd))[(Int.toNat x1)]?).bind fun y17 =>
      (laws_markStringS_e k y17.Take.Ready (IntKind.wrap .i64 (r14 + 1))).bind fun r18 =>
      laws_markEndS_l2 k r18 (IntKind.wrap .i64 (x1 + 1)) (((((((((x2.set (Int.toNat x1) (⟨x0, y1.Up, y1.Life, y1.Peer, y1.Since, y1.Owes, y1.Send, y1.Take⟩ : DEnd)).set (Int.toNat x1) (⟨y3.Number, (q2 == 0), y3.Life, y3.Peer, y3.Since, y3.Owes, y3.Send, y3.Take⟩ : DEnd)).set (Int.toNat x1) (⟨y4.Number, y4.Up, (IntKind.wrap .i64 ((IntKind.wrap .i64 (x0 + 1)) + 1)), y4.Peer, y4.Since, y4.Owes, y4.Send, y4.Take⟩ : DEnd)).set (Int.toNat x1) (⟨y5.Number, y5.Up, y5.Life, (IntKind.wrap .i64 ((IntKind.wrap .i64 ((IntKind.wrap .i64 (x0 + 1)) + 1)) + 1)), y5.Since, y5.Owes, y5.Send, y5.Take⟩ : DEnd)).set (Int.toNat x1) (⟨y6.Number, y6.Up, y6.Life, y6.Peer, (IntKind.wrap .i64 ((IntKind.wrap .i64 ((IntKind.wrap .i64 ((IntKind.wrap .i64 (x0 + 1)) + 1)) + 1)) + 1)), y6.Owes, y6.Send, y6.Take⟩ : DEnd)).set (Int.toNat x1) (⟨y8.Number, y8.Up, y8.Life, y8.Peer, y8.Since, (q7 == 0), y8.Send, y8.Take⟩ : DEnd)).set (Int.toNat x1) (⟨y9.Number, y9.Up, y9.Life, y9.Peer, y9.Since, y9.Owes, (⟨(IntKind.wrap .i64 ((IntKind.wrap .i64 ((IntKind.wrap .i64 ((IntKind.wrap .i64 ((IntKind.wrap .i64 ((IntKind.wrap .i64 (x0 + 1)) + 1)) + 1)) + 1)) + 1)) + 1)), y9.Send.Items⟩ : DSend), y9.Take⟩ : DEnd)).set (Int.toNat x1) (⟨y12.Number, y12.Up, y12.Life, y12.Peer, y12.Since, y12.Owes, y12.Send, (⟨r11, y12.Take.Held, y12.Take.Open, y12.Take.Ready⟩ : DTake)⟩ : DEnd)).set (Int.toNat x1) (⟨y16.Number, y16.Up, y16.Life, y16.Peer, y16.Since, y16.Owes, y16.Send, (⟨y16.Take.Next, y16.Take.Held, r15, y16.Take.Ready⟩ : DTake)⟩ : DEnd))
    else
      some (x0, x2)
noncomputable def laws_markEndS (k : Nat) (a0 : List DEnd) (a1 : Int) : Option (Int × List DEnd) :=
  laws_markEndS_l2 k a1 0 a0
noncomputable def laws_markWorld (k : Nat) (a0 : DWorld) (a1 : Int) : Option (Int × List DEnd × List DParcel × List DRecord × List DRecord) :=
  (laws_markEndS k a0.Ends a1).bind fun r1 =>
  (laws_markParcelS k a0.Flight r1.1).bind fun r2 =>
  (laws_markRecordS k a0.Given r2.1).bind fun r3 =>
  (laws_markRecordS k a0.Taken r3.1).bind fun r4 =>
  some (r4.1, r1.2, r2.2, r3.2, r4.2)
noncomputable def laws_FnExactNewWorld (k : Nat) (a0 : ByteArray) (a1 : Int) : Option (Bool) :=
  bif (decide ((a0.size : Int) > 1048576)) then
    some true
  else
    (spec_NewWorld k a0 a1).bind fun r1 =>
    (impl_NewWorld k a0 a1).bind fun r2 =>
    (laws_eqWorld k r2 r1).bind fun r3 =>
    bif (!r3) then
      some false
    else
      (laws_markWorld k r2 1).bind fun r4 =>
      (laws_heldWorld k (⟨r2.Key, r2.Width, r4.2.1, r4.2.2.1, r2.Forged, r4.2.2.2.1, r4.2.2.2.2⟩ : DWorld) 1).bind fun r5 =>
      bif (decide (r5 < 0)) then
        some false
      else
        bif (r5 != r4.1) then
          some false
        else
          (impl_NewWorld k a0 a1).bind fun r6 =>
          (laws_eqWorld k r6 r1).bind fun r7 =>
          bif (!r7) then
            some false
          else
            (laws_heldWorld k (⟨r2.Key, r2.Width, r4.2.1, r4.2.2.1, r2.Forged, r4.2.2.2.1, r4.2.2.2.2⟩ : DWorld) 1).bind fun r8 =>
            bif (decide (r8 < 0)) then
              some false
            else
              bif (r8 != r4.1) then
                some false
              else
                some true
end Km.X
