/- A part of the proof of FnExactRight: the functions that it reads off the program. There is no condition. -/
import Derived.Test.YthafpbpfnkncmaaKxDef1
namespace Km.X
open Go Km
set_option linter.unusedVariables false
set_option maxRecDepth 100000
mutual
noncomputable def impl_ValidWorld_l4 : Nat → List DEnd → Int → Int → ByteArray → Int → List DEnd → List DParcel → ByteArray → List DRecord → List DRecord → Option (Bool)
  | 0, _, _, _, _, _, _, _, _, _, _ => none
  | k + 1, x0, x1, x2, x3, x4, x5, x6, x7, x8, x9 =>
    bif (decide (x2 < x1)) then
      (idx x0 x2).bind fun y1 =>
      (impl_ValidEnd k y1).bind fun r2 =>
      bif (!r2) then
        some false
      else
        bif (y1.Number != (IntKind.wrap .i64 (x2 + 1))) then
          some false
        else
          impl_ValidWorld_l4 k x0 x1 (IntKind.wrap .i64 (x2 + 1)) x3 x4 x5 x6 x7 x8 x9
    else
      impl_ValidWorld_l10 k x6 (x6.length : Int) 0 x3 x4 x5 x6 x7 x8 x9
noncomputable def impl_ValidWorld_l10 : Nat → List DParcel → Int → Int → ByteArray → Int → List DEnd → List DParcel → ByteArray → List DRecord → List DRecord → Option (Bool)
  | 0, _, _, _, _, _, _, _, _, _, _ => none
  | k + 1, x0, x1, x2, x3, x4, x5, x6, x7, x8, x9 =>
    bif (decide (x2 < x1)) then
      (idx x0 x2).bind fun y3 =>
      bif (y3.To != 1) then
        bif (y3.To != 2) then
          some false
        else
          bif (decide ((y3.Sent.size : Int) > 100)) then
            some false
          else
            bif (decide ((y3.Bytes.size : Int) > 100)) then
              some false
            else
              impl_ValidWorld_l10 k x0 x1 (IntKind.wrap .i64 (x2 + 1)) x3 x4 x5 x6 x7 x8 x9
      else
        bif (decide ((y3.Sent.size : Int) > 100)) then
          some false
        else
          bif (decide ((y3.Bytes.size : Int) > 100)) then
            some false
          else
            impl_ValidWorld_l10 k x0 x1 (IntKind.wrap .i64 (x2 + 1)) x3 x4 x5 x6 x7 x8 x9
    else
      impl_ValidWorld_l16 k (([x8, x9] : List (List DRecord)).length : Int) 0 ([x8, x9] : List (List DRecord))
noncomputable def impl_ValidWorld_l16 : Nat → Int → Int → List (List DRecord) → Option (Bool)
  | 0, _, _, _ => none
  | k + 1, x0, x1, x2 =>
    bif (decide (x1 < x0)) then
      (idx x2 x1).bind fun _ =>
      (x2[(Int.toNat x1)]?).bind fun y4 =>
      impl_ValidWorld_l19 k x0 x1 y4 (y4.length : Int) 0 x2
    else
      some true
noncomputable def impl_ValidWorld_l19 : Nat → Int → Int → List DRecord → Int → Int → List (List DRecord) → Option (Bool)
  | 0, _, _, _, _, _, _ => none
  | k + 1, x0, x1, x2, x3, x4, x5 =>
    bif (decide (x4 < x3)) then
      (idx x2 x4).bind fun y5 =>
      bif (y5.From != 1) then
        bif (y5.From != 2) then
          some false
        else
          (impl_in k y5.A 1 1000).bind fun r6 =>
          bif (!r6) then
            some false
          else
            (impl_in k y5.B 1 1000).bind fun r7 =>
            bif (!r7) then
              some false
            else
              bif (decide ((y5.Text.size : Int) > 200)) then
                some false
              else
                impl_ValidWorld_l19 k x0 x1 x2 x3 (IntKind.wrap .i64 (x4 + 1)) x5
      else
        (impl_in k y5.A 1 1000).bind fun r8 =>
        bif (!r8) then
          some false
        else
          (impl_in k y5.B 1 1000).bind fun r9 =>
          bif (!r9) then
            some false
          else
            bif (decide ((y5.Text.size : Int) > 200)) then
              some false
            else
              impl_ValidWorld_l19 k x0 x1 x2 x3 (IntKind.wrap .i64 (x4 + 1)) x5
    else
      impl_ValidWorld_l16 k x0 (IntKind.wrap .i64 (x1 + 1)) x5
end
noncomputable def impl_ValidWorld (k : Nat) (a0 : DWorld) : Option (Bool) :=
  bif (decide (a0.Width < 1)) then
    some false
  else
    bif (decide (a0.Width > 8)) then
      some false
    else
      bif (decide ((a0.Key.size : Int) > 30)) then
        some false
      else
        bif ((a0.Ends.length : Int) != 2) then
          some false
        else
          bif (decide ((a0.Flight.length : Int) > 1000)) then
            some false
          else
            bif (decide ((IntKind.wrap .i64 ((a0.Given.length : Int) + (a0.Taken.length : Int))) > 400)) then
              some false
            else
              impl_ValidWorld_l4 k a0.Ends (a0.Ends.length : Int) 0 a0.Key a0.Width a0.Ends a0.Flight a0.Forged a0.Given a0.Taken
noncomputable def spec_l7RecordsOk_l2 : Nat → List DRecord → Int → Option (Bool)
  | 0, _, _ => none
  | k + 1, x0, x1 =>
    bif (decide (x1 < (x0.length : Int))) then
      (idx x0 x1).bind fun y1 =>
      (spec_l1In k y1.From 1 2).bind fun r2 =>
      bif (!r2) then
        some false
      else
        (spec_l1In k y1.A 1 1000).bind fun r3 =>
        bif (!r3) then
          some false
        else
          (spec_l1In k y1.B 1 1000).bind fun r4 =>
          bif (!r4) then
            some false
          else
            bif (decide ((y1.Text.size : Int) > 200)) then
              some false
            else
              spec_l7RecordsOk_l2 k x0 (IntKind.wrap .i64 (x1 + 1))
    else
      some true
noncomputable def spec_l7RecordsOk (k : Nat) (a0 : List DRecord) : Option (Bool) :=
  spec_l7RecordsOk_l2 k a0 0
mutual
noncomputable def spec_ValidWorld_l4 : Nat → Int → ByteArray → Int → List DEnd → List DParcel → ByteArray → List DRecord → List DRecord → Option (Bool)
  | 0, _, _, _, _, _, _, _, _ => none
  | k + 1, x0, x1, x2, x3, x4, x5, x6, x7 =>
    bif (decide (x0 < 2)) then
      (idx x3 x0).bind fun y2 =>
      (spec_ValidEnd k y2).bind fun r3 =>
      bif (!r3) then
        some false
      else
        (idx x3 x0).bind fun y4 =>
        bif (y4.Number != (IntKind.wrap .i64 (x0 + 1))) then
          some false
        else
          spec_ValidWorld_l4 k (IntKind.wrap .i64 (x0 + 1)) x1 x2 x3 x4 x5 x6 x7
    else
      spec_ValidWorld_l9 k 0 x1 x2 x3 x4 x5 x6 x7
noncomputable def spec_ValidWorld_l9 : Nat → Int → ByteArray → Int → List DEnd → List DParcel → ByteArray → List DRecord → List DRecord → Option (Bool)
  | 0, _, _, _, _, _, _, _, _ => none
  | k + 1, x0, x1, x2, x3, x4, x5, x6, x7 =>
    bif (decide (x0 < (x4.length : Int))) then
      (idx x4 x0).bind fun y5 =>
      (spec_l1In k y5.To 1 2).bind fun r6 =>
      bif (!r6) then
        some false
      else
        bif (decide ((y5.Sent.size : Int) > 100)) then
          some false
        else
          bif (decide ((y5.Bytes.size : Int) > 100)) then
            some false
          else
            spec_ValidWorld_l9 k (IntKind.wrap .i64 (x0 + 1)) x1 x2 x3 x4 x5 x6 x7
    else
      (spec_l7RecordsOk k x6).bind fun r7 =>
      bif r7 then
        (spec_l7RecordsOk k x7).bind fun r8 =>
        some r8
      else
        some false
end
noncomputable def spec_ValidWorld (k : Nat) (a0 : DWorld) : Option (Bool) :=
  (spec_l1In k a0.Width 1 8).bind fun r1 =>
  bif (!r1) then
    some false
  else
    bif (decide ((a0.Key.size : Int) > 30)) then
      some false
    else
      bif ((a0.Ends.length : Int) != 2) then
        some false
      else
        bif (decide ((a0.Flight.length : Int) > 1000)) then
          some false
        else
          bif (decide ((IntKind.wrap .i64 ((a0.Given.length : Int) + (a0.Taken.length : Int))) > 400)) then
            some false
          else
            spec_ValidWorld_l4 k 0 a0.Key a0.Width a0.Ends a0.Flight a0.Forged a0.Given a0.Taken
mutual
noncomputable def impl_Right_l5 : Nat → List DRecord → Int → Int → ByteArray → Int → List DEnd → List DParcel → ByteArray → List DRecord → List DRecord → List (DPair × List ByteArray) → Option (Bool)
  | 0, _, _, _, _, _, _, _, _, _, _, _ => none
  | k + 1, x0, x1, x2, x3, x4, x5, x6, x7, x8, x9, x10 =>
    bif (decide (x2 < x1)) then
      (idx x0 x2).bind fun y2 =>
      optK (mfind (eq_pair (⟨y2.From, y2.A, y2.B⟩ : DPair)) x10 0) (
        (app 16 ([] : List ByteArray) ([y2.Text] : List ByteArray)).bind fun l4 =>
        (idx (x10 ++ [((⟨y2.From, y2.A, y2.B⟩ : DPair), ([] : List ByteArray))]) (x10.length : Int)).bind fun e5 =>
        impl_Right_l5 k x0 x1 (IntKind.wrap .i64 (x2 + 1)) x3 x4 x5 x6 x7 x8 x9 ((x10 ++ [((⟨y2.From, y2.A, y2.B⟩ : DPair), ([] : List ByteArray))]).set (Int.toNat (x10.length : Int)) (e5.1, l4))
      ) (fun p3 =>
        (app 16 p3.2 ([y2.Text] : List ByteArray)).bind fun l6 =>
        bif Nat.beq p3.1 (Int.toNat (p3.1 : Int)) then
          (idx x10 (p3.1 : Int)).bind fun e7 =>
          impl_Right_l5 k x0 x1 (IntKind.wrap .i64 (x2 + 1)) x3 x4 x5 x6 x7 x8 x9 (x10.set (Int.toNat (p3.1 : Int)) (e7.1, l6))
        else
          none
      )
    else
      impl_Right_l12 k x9 (x9.length : Int) 0 x10 ([] : List (DPair × Int))
noncomputable def impl_Right_l12 : Nat → List DRecord → Int → Int → List (DPair × List ByteArray) → List (DPair × Int) → Option (Bool)
  | 0, _, _, _, _, _ => none
  | k + 1, x0, x1, x2, x3, x4 =>
    bif (decide (x2 < x1)) then
      (idx x0 x2).bind fun y8 =>
      optK (mfind (eq_pair (⟨y8.From, y8.A, y8.B⟩ : DPair)) x4 0) (
        optK (mfind (eq_pair (⟨y8.From, y8.A, y8.B⟩ : DPair)) x3 0) (
          bif (decide ((0 : Int) ≥ (([] : List ByteArray).length : Int))) then
            some false
          else
            optK (mfind (eq_pair (⟨y8.From, y8.A, y8.B⟩ : DPair)) x3 0) (
              optK (mfind (eq_pair (⟨y8.From, y8.A, y8.B⟩ : DPair)) x4 0) (
                none
              ) (fun p12 =>
                none
              )
            ) (fun p11 =>
              optK (mfind (eq_pair (⟨y8.From, y8.A, y8.B⟩ : DPair)) x4 0) (
                (idx p11.2 0).bind fun _ =>
                (p11.2[(Int.toNat 0)]?).bind fun y14 =>
                bif (!(y14.toList == y8.Text.toList)) then
                  some false
                else
                  impl_Right_l17 k x0 x1 x2 (x3.modify p11.1 fun e => (e.1, p11.2)) x4 y8.From y8.A y8.B
              ) (fun p13 =>
                (idx p11.2 p13.2).bind fun _ =>
                (p11.2[(Int.toNat p13.2)]?).bind fun y15 =>
                bif (!(y15.toList == y8.Text.toList)) then
                  some false
                else
                  impl_Right_l17 k x0 x1 x2 (x3.modify p11.1 fun e => (e.1, p11.2)) x4 y8.From y8.A y8.B
              )
            )
        ) (fun p10 =>
          bif (decide ((0 : Int) ≥ (p10.2.length : Int))) then
            some false
          else
            optK (mfind (eq_pair (⟨y8.From, y8.A, y8.B⟩ : DPair)) (x3.modify p10.1 fun e => (e.1, p10.2)) 0) (
              optK (mfind (eq_pair (⟨y8.From, y8.A, y8.B⟩ : DPair)) x4 0) (
                none
              ) (fun p17 =>
                none
              )
            ) (fun p16 =>
              optK (mfind (eq_pair (⟨y8.From, y8.A, y8.B⟩ : DPair)) x4 0) (
                (idx p16.2 0).bind fun _ =>
                (p16.2[(Int.toNat 0)]?).bind fun y19 =>
                bif (!(y19.toList == y8.Text.toList)) then
                  some false
                else
                  impl_Right_l17 k x0 x1 x2 ((x3.modify p10.1 fun e => (e.1, p10.2)).modify p16.1 fun e => (e.1, p16.2)) x4 y8.From y8.A y8.B
              ) (fun p18 =>
                (idx p16.2 p18.2).bind fun _ =>
                (p16.2[(Int.toNat p18.2)]?).bind fun y20 =>
                bif (!(y20.toList == y8.Text.toList)) then
                  some false
                else
                  impl_Right_l17 k x0 x1 x2 ((x3.modify p10.1 fun e => (e.1, p10.2)).modify p16.1 fun e => (e.1, p16.2)) x4 y8.From y8.A y8.B
              )
            )
        )
      ) (fun p9 =>
        optK (mfind (eq_pair (⟨y8.From, y8.A, y8.B⟩ : DPair)) x3 0) (
          bif (decide (p9.2 ≥ (([] : List ByteArray).length : Int))) then
            some false
          else
            optK (mfind (eq_pair (⟨y8.From, y8.A, y8.B⟩ : DPair)) x3 0) (
              optK (mfind (eq_pair (⟨y8.From, y8.A, y8.B⟩ : DPair)) x4 0) (
                none
              ) (fun p23 =>
                none
              )
            ) (fun p22 =>
              optK (mfind (eq_pair (⟨y8.From, y8.A, y8.B⟩ : DPair)) x4 0) (
                (idx p22.2 0).bind fun _ =>
                (p22.2[(Int.toNat 0)]?).bind fun y25 =>
                bif (!(y25.toList == y8.Text.toList)) then
                  some false
                else
                  impl_Right_l17 k x0 x1 x2 (x3.modify p22.1 fun e => (e.1, p22.2)) x4 y8.From y8.A y8.B
              ) (fun p24 =>
                (idx p22.2 p24.2).bind fun _ =>
                (p22.2[(Int.toNat p24.2)]?).bind fun y26 =>
                bif (!(y26.toList == y8.Text.toList)) then
                  some false
                else
                  impl_Right_l17 k x0 x1 x2 (x3.modify p22.1 fun e => (e.1, p22.2)) x4 y8.From y8.A y8.B
              )
            )
        ) (fun p21 =>
          bif (decide (p9.2 ≥ (p21.2.length : Int))) then
            some false
          else
            optK (mfind (eq_pair (⟨y8.From, y8.A, y8.B⟩ : DPair)) (x3.modify p21.1 fun e => (e.1, p21.2)) 0) (
              optK (mfind (eq_pair (⟨y8.From, y8.A, y8.B⟩ : DPair)) x4 0) (
                none
              ) (fun p28 =>
                none
              )
            ) (fun p27 =>
              optK (mfind (eq_pair (⟨y8.From, y8.A, y8.B⟩ : DPair)) x4 0) (
                (idx p27.2 0).bind fun _ =>
                (p27.2[(Int.toNat 0)]?).bind fun y30 =>
                bif (!(y30.toList == y8.Text.toList)) then
                  some false
                else
                  impl_Right_l17 k x0 x1 x2 ((x3.modify p21.1 fun e => (e.1, p21.2)).modify p27.1 fun e => (e.1, p27.2)) x4 y8.From y8.A y8.B
              ) (fun p29 =>
                (idx p27.2 p29.2).bind fun _ =>
                (p27.2[(Int.toNat p29.2)]?).bind fun y31 =>
                bif (!(y31.toList == y8.Text.toList)) then
                  some false
                else
                  impl_Right_l17 k x0 x1 x2 ((x3.modify p21.1 fun e => (e.1, p21.2)).modify p27.1 fun e => (e.1, p27.2)) x4 y8.From y8.A y8.B
              )
            )
        )
      )
    else
      some true
noncomputable def impl_Right_l17 : Nat → List DRecord → Int → Int → List (DPair × List ByteArray) → List (DPair × Int) → Int → Int → Int → Option (Bool)
  | 0, _, _, _, _, _, _, _, _ => none
  | k + 1, x0, x1, x2, x3, x4, x5, x6, x7 =>
    both (
      optK (mfind (eq_pair (⟨x5, x6, x7⟩ : DPair)) x4 0) (
        optK (mfind (eq_pair (⟨x5, x6, x7⟩ : DPair)) x4 0) (
          (idx (x4 ++ [((⟨x5, x6, x7⟩ : DPair), 0)]) (x4.length : Int)).bind fun e34 =>
          impl_Right_l12 k x0 x1 (IntKind.wrap .i64 (x2 + 1)) x3 ((x4 ++ [((⟨x5, x6, x7⟩ : DPair), 0)]).set (Int.toNat (x4.length : Int)) (e34.1, (IntKind.wrap .i64 (0 + 1))))
        ) (fun p33 =>
          (idx x4 (p33.1 : Int)).bind fun e35 =>
          impl_Right_l12 k x0 x1 (IntKind.wrap .i64 (x2 + 1)) x3 (x4.set (Int.toNat (p33.1 : Int)) (e35.1, (IntKind.wrap .i64 (0 + 1))))
        )
      ) (fun p32 =>
        optK (mfind (eq_pair (⟨x5, x6, x7⟩ : DPair)) x4 0) (
          (idx (x4 ++ [((⟨x5, x6, x7⟩ : DPair), 0)]) (x4.length : Int)).bind fun e37 =>
          impl_Right_l12 k x0 x1 (IntKind.wrap .i64 (x2 + 1)) x3 ((x4 ++ [((⟨x5, x6, x7⟩ : DPair), 0)]).set (Int.toNat (x4.length : Int)) (e37.1, (IntKind.wrap .i64 (p32.2 + 1))))
        ) (fun p36 =>
          (idx x4 (p36.1 : Int)).bind fun e38 =>
          impl_Right_l12 k x0 x1 (IntKind.wrap .i64 (x2 + 1)) x3 (x4.set (Int.toNat (p36.1 : Int)) (e38.1, (IntKind.wrap .i64 (p32.2 + 1))))
        )
      )
    ) (
      optK (mfind (eq_pair (⟨x5, x6, x7⟩ : DPair)) x4 0) (
        optK (mfind (eq_pair (⟨x5, x6, x7⟩ : DPair)) (x4 ++ [((⟨x5, x6, x7⟩ : DPair), 0)]) 0) (
          (idx (x4 ++ [((⟨x5, x6, x7⟩ : DPair), 0)]) (x4.length : Int)).bind fun e41 =>
          impl_Right_l12 k x0 x1 (IntKind.wrap .i64 (x2 + 1)) x3 ((x4 ++ [((⟨x5, x6, x7⟩ : DPair), 0)]).set (Int.toNat (x4.length : Int)) (e41.1, (IntKind.wrap .i64 (0 + 1))))
        ) (fun p40 =>
          (idx (x4 ++ [((⟨x5, x6, x7⟩ : DPair), 0)]) (x4.length : Int)).bind fun e42 =>
          impl_Right_l12 k x0 x1 (IntKind.wrap .i64 (x2 + 1)) x3 ((x4 ++ [((⟨x5, x6, x7⟩ : DPair), 0)]).set (Int.toNat (x4.length : Int)) (e42.1, (IntKind.wrap .i64 (p40.2 + 1))))
        )
      ) (fun p39 =>
        optK (mfind (eq_pair (⟨x5, x6, x7⟩ : DPair)) x4 0) (
          (idx x4 (p39.1 : Int)).bind fun e44 =>
          impl_Right_l12 k x0 x1 (IntKind.wrap .i64 (x2 + 1)) x3 (x4.set (Int.toNat (p39.1 : Int)) (e44.1, (IntKind.wrap .i64 (0 + 1))))
        ) (fun p43 =>
          (idx x4 (p39.1 : Int)).bind fun e45 =>
          impl_Right_l12 k x0 x1 (IntKind.wrap .i64 (x2 + 1)) x3 (x4.set (Int.toNat (p39.1 : Int)) (e45.1, (IntKind.wrap .i64 (p43.2 + 1))))
        )
      )
    )
end
noncomputable def impl_Right (k : Nat) (a0 : DWorld) : Option (Bool) :=
  (impl_ValidWorld k a0).bind fun r1 =>
  bif (!r1) then
    some false
  else
    impl_Right_l5 k a0.Given (a0.Given.length : Int) 0 a0.Key a0.Width a0.Ends a0.Flight a0.Forged a0.Given a0.Taken ([] : List (DPair × List ByteArray))
mutual
noncomputable def spec_Right_l4 : Nat → Int → ByteArray → Int → List DEnd → List DParcel → ByteArray → List DRecord → List DRecord → Option (Bool)
  | 0, _, _, _, _, _, _, _, _ => none
  | k + 1, x0, x1, x2, x3, x4, x5, x6, x7 =>
    bif (decide (x0 < (x7.length : Int))) then
      (idx x7 x0).bind fun y2 =>
      spec_Right_l9 k x0 0 0 x1 x2 x3 x4 x5 x6 x7 y2.From y2.A y2.B y2.Text
    else
      some true
noncomputable def spec_Right_l9 : Nat → Int → Int → Int → ByteArray → Int → List DEnd → List DParcel → ByteArray → List DRecord → List DRecord → Int → Int → Int → ByteArray → Option (Bool)
  | 0, _, _, _, _, _, _, _, _, _, _, _, _, _, _ => none
  | k + 1, x0, x1, x2, x3, x4, x5, x6, x7, x8, x9, x10, x11, x12, x13 =>
    bif (decide (x2 < x0)) then
      (idx x9 x2).bind fun y3 =>
      bif (y3.From == x10) then
        (idx x9 x2).bind fun y4 =>
        bif (y4.A == x11) then
          (idx x9 x2).bind fun y5 =>
          bif (y5.B == x12) then
            spec_Right_l10 k x0 (IntKind.wrap .i64 (x1 + 1)) x2 x3 x4 x5 x6 x7 x8 x9 x10 x11 x12 x13
          else
            spec_Right_l10 k x0 x1 x2 x3 x4 x5 x6 x7 x8 x9 x10 x11 x12 x13
        else
          spec_Right_l10 k x0 x1 x2 x3 x4 x5 x6 x7 x8 x9 x10 x11 x12 x13
      else
        spec_Right_l10 k x0 x1 x2 x3 x4 x5 x6 x7 x8 x9 x10 x11 x12 x13
    else
      spec_Right_l15 k x0 x1 false 0 x3 x4 x5 x6 x7 x8 x9 x10 x11 x12 x13
noncomputable def spec_Right_l10 : Nat → Int → Int → Int → ByteArray → Int → List DEnd → List DParcel → ByteArray → List DRecord → List DRecord → Int → Int → Int → ByteArray → Option (Bool)
  | 0, _, _, _, _, _, _, _, _, _, _, _, _, _, _ => none
  | k + 1, x0, x1, x2, x3, x4, x5, x6, x7, x8, x9, x10, x11, x12, x13 =>
    spec_Right_l9 k x0 x1 (IntKind.wrap .i64 (x2 + 1)) x3 x4 x5 x6 x7 x8 x9 x10 x11 x12 x13
noncomputable def spec_Right_l15 : Nat → Int → Int → Bool → Int → ByteArray → Int → List DEnd → List DParcel → ByteArray → List DRecord → List DRecord → Int → Int → Int → ByteArray → Option (Bool)
  | 0, _, _, _, _, _, _, _, _, _, _, _, _, _, _, _ => none
  | k + 1, x0, x1, x2, x3, x4, x5, x6, x7, x8, x9, x10, x11, x12, x13, x14 =>
    bif (decide (x3 < (x9.length : Int))) then
      (idx x9 x3).bind fun y6 =>
      bif (y6.From == x11) then
        bif (y6.A == x12) then
          bif (y6.B == x13) then
            bif x2 then
              spec_Right_l16 k x0 (IntKind.wrap .i64 (x1 - 1)) true x3 x4 x5 x6 x7 x8 x9 x10 x11 x12 x13 x14
            else
              bif (x1 == 0) then
                spec_Right_l16 k x0 (IntKind.wrap .i64 (x1 - 1)) (y6.Text.toList == x14.toList) x3 x4 x5 x6 x7 x8 x9 x10 x11 x12 x13 x14
              else
                spec_Right_l16 k x0 (IntKind.wrap .i64 (x1 - 1)) false x3 x4 x5 x6 x7 x8 x9 x10 x11 x12 x13 x14
          else
            spec_Right_l16 k x0 x1 x2 x3 x4 x5 x6 x7 x8 x9 x10 x11 x12 x13 x14
        else
          spec_Right_l16 k x0 x1 x2 x3 x4 x5 x6 x7 x8 x9 x10 x11 x12 x13 x14
      else
        spec_Right_l16 k x0 x1 x2 x3 x4 x5 x6 x7 x8 x9 x10 x11 x12 x13 x14
    else
      bif (!x2) then
        some false
      else
        spec_Right_l4 k (IntKind.wrap .i64 (x0 + 1)) x4 x5 x6 x7 x8 x9 x10
noncomputable def spec_Right_l16 : Nat → Int → Int → Bool → Int → ByteArray → Int → List DEnd → List DParcel → ByteArray → List DRecord → List DRecord → Int → Int → Int → ByteArray → Option (Bool)
  | 0, _, _, _, _, _, _, _, _, _, _, _, _, _, _, _ => none
  | k + 1, x0, x1, x2, x3, x4, x5, x6, x7, x8, x9, x10, x11, x12, x13, x14 =>
    spec_Right_l15 k x0 x1 x2 (IntKind.wrap .i64 (x3 + 1)) x4 x5 x6 x7 x8 x9 x10 x11 x12 x13 x14
end
noncomputable def spec_Right (k : Nat) (a0 : DWorld) : Option (Bool) :=
  (spec_ValidWorld k a0).bind fun r1 =>
  bif (!r1) then
    some false
  else
    spec_Right_l4 k 0 a0.Key a0.Width a0.Ends a0.Flight a0.Forged a0.Given a0.Taken
noncomputable def laws_szEndS_l5 : Nat → List DEnd → Int → Int → Option (Int)
  | 0, _, _, _ => none
  | k + 1, x0, x1, x2 =>
    bif (decide (x2 < (x0.length : Int))) then
      (idx x0 x2).bind fun y1 =>
      (laws_szEnd k y1 x1).bind fun r2 =>
      bif (decide (r2 < 0)) then
        some (-1)
      else
        laws_szEndS_l5 k x0 r2 (IntKind.wrap .i64 (x2 + 1))
    else
      some x1
noncomputable def laws_szEndS (k : Nat) (a0 : List DEnd) (a1 : Int) : Option (Int) :=
  bif (decide ((IntKind.wrap .i64 (a1 - (a0.length : Int))) < 0)) then
    some (-1)
  else
    laws_szEndS_l5 k a0 (IntKind.wrap .i64 (a1 - (a0.length : Int))) 0
noncomputable def laws_szParcel (k : Nat) (a0 : DParcel) (a1 : Int) : Option (Int) :=
  bif (decide ((IntKind.wrap .i64 (a1 - (a0.Sent.size : Int))) < 0)) then
    some (-1)
  else
    bif (decide ((IntKind.wrap .i64 ((IntKind.wrap .i64 (a1 - (a0.Sent.size : Int))) - (a0.Bytes.size : Int))) < 0)) then
      some (-1)
    else
      some (IntKind.wrap .i64 ((IntKind.wrap .i64 (a1 - (a0.Sent.size : Int))) - (a0.Bytes.size : Int)))
noncomputable def laws_szParcelS_l5 : Nat → List DParcel → Int → Int → Option (Int)
  | 0, _, _, _ => none
  | k + 1, x0, x1, x2 =>
    bif (decide (x2 < (x0.length : Int))) then
      (idx x0 x2).bind fun y1 =>
      (laws_szParcel k y1 x1).bind fun r2 =>
      bif (decide (r2 < 0)) then
        some (-1)
      else
        laws_szParcelS_l5 k x0 r2 (IntKind.wrap .i64 (x2 + 1))
    else
      some x1
noncomputable def laws_szParcelS (k : Nat) (a0 : List DParcel) (a1 : Int) : Option (Int) :=
  bif (decide ((IntKind.wrap .i64 (a1 - (a0.length : Int))) < 0)) then
    some (-1)
  else
    laws_szParcelS_l5 k a0 (IntKind.wrap .i64 (a1 - (a0.length : Int))) 0
noncomputable def laws_szRecord (k : Nat) (a0 : DRecord) (a1 : Int) : Option (Int) :=
  bif (decide ((IntKind.wrap .i64 (a1 - (a0.Text.size : Int))) < 0)) then
    some (-1)
  else
    some (IntKind.wrap .i64 (a1 - (a0.Text.size : Int)))
noncomputable def laws_szRecordS_l5 : Nat → List DRecord → Int → Int → Option (Int)
  | 0, _, _, _ => none
  | k + 1, x0, x1, x2 =>
    bif (decide (x2 < (x0.length : Int))) then
      (idx x0 x2).bind fun y1 =>
      (laws_szRecord k y1 x1).bind fun r2 =>
      bif (decide (r2 < 0)) then
        some (-1)
      else
        laws_szRecordS_l5 k x0 r2 (IntKind.wrap .i64 (x2 + 1))
    else
      some x1
noncomputable def laws_szRecordS (k : Nat) (a0 : List DRecord) (a1 : Int) : Option (Int) :=
  bif (decide ((IntKind.wrap .i64 (a1 - (a0.length : Int))) < 0)) then
    some (-1)
  else
    laws_szRecordS_l5 k a0 (IntKind.wrap .i64 (a1 - (a0.length : Int))) 0
noncomputable def laws_szWorld (k : Nat) (a0 : DWorld) (a1 : Int) : Option (Int) :=
  bif (decide ((IntKind.wrap .i64 (a1 - (a0.Key.size : Int))) < 0)) then
    some (-1)
  else
    (laws_szEndS k a0.Ends (IntKind.wrap .i64 (a1 - (a0.Key.size : Int)))).bind fun r1 =>
    bif (decide (r1 < 0)) then
      some (-1)
    else
      (laws_szParcelS k a0.Flight r1).bind fun r2 =>
      bif (decide (r2 < 0)) then
        some (-1)
      else
        bif (decide ((IntKind.wrap .i64 (r2 - (a0.Forged.size : Int))) < 0)) then
          some (-1)
        else
          (laws_szRecordS k a0.Given (IntKind.wrap .i64 (r2 - (a0.Forged.size : Int)))).bind fun r3 =>
          bif (decide (r3 < 0)) then
            some (-1)
          else
            (laws_szRecordS k a0.Taken r3).bind fun r4 =>
            bif (decide (r4 < 0)) then
              some (-1)
            else
              some r4
noncomputable def laws_toEndS_l3 : Nat → List DEnd → Int → List DEnd → Option (List DEnd)
  | 0, _, _, _ => none
  | k + 1, x0, x1, x2 =>
    bif (decide (x1 < (x0.length : Int))) then
      (idx x0 x1).bind fun y2 =>
      (laws_toEnd k y2).bind fun r3 =>
      (idx x2 x1).bind fun _ =>
      (x2[(Int.toNat x1)]?).bind fun y4 =>
      laws_toEndS_l3 k x0 (IntKind.wrap .i64 (x1 + 1)) (x2.set (Int.toNat x1) r3)
    else
      some x2
noncomputable def laws_toEndS (k : Nat) (a0 : List DEnd) : Option (List DEnd) :=
  (if ((a0.length : Int) : Int) = (a0.length : Int) then room 152 (a0.length : Int) else none).bind fun n1 =>
  laws_toEndS_l3 k a0 0 (List.replicate n1 (⟨0, false, 0, 0, 0, false, (⟨0, ([] : List DItem)⟩ : DSend), (⟨0, ([] : List DHeld), (⟨#[]⟩ : ByteArray), ([] : List ByteArray)⟩ : DTake)⟩ : DEnd))
noncomputable def laws_toParcel (k : Nat) (a0 : DParcel) : Option (DParcel) :=
  some a0
noncomputable def laws_toParcelS_l3 : Nat → List DParcel → Int → List DParcel → Option (List DParcel)
  | 0, _, _, _ => none
  | k + 1, x0, x1, x2 =>
    bif (decide (x1 < (x0.length : Int))) then
      (idx x0 x1).bind fun y2 =>
      (laws_toParcel k y2).bind fun r3 =>
      (idx x2 x1).bind fun _ =>
      (x2[(Int.toNat x1)]?).bind fun y4 =>
      laws_toParcelS_l3 k x0 (IntKind.wrap .i64 (x1 + 1)) (x2.set (Int.toNat x1) r3)
    else
      some x2
noncomputable def laws_toParcelS (k : Nat) (a0 : List DParcel) : Option (List DParcel) :=
  (if ((a0.length : Int) : Int) = (a0.length : Int) then room 40 (a0.length : Int) else none).bind fun n1 =>
  laws_toParcelS_l3 k a0 0 (List.replicate n1 (⟨0, (⟨#[]⟩ : ByteArray), (⟨#[]⟩ : ByteArray)⟩ : DParcel))
noncomputable def laws_toRecord (k : Nat) (a0 : DRecord) : Option (DRecord) :=
  some a0
noncomputable def laws_toRecordS_l3 : Nat → List DRecord → Int → List DRecord → Option (List DRecord)
  | 0, _, _, _ => none
  | k + 1, x0, x1, x2 =>
    bif (decide (x1 < (x0.length : Int))) then
      (idx x0 x1).bind fun y2 =>
      (laws_toRecord k y2).bind fun r3 =>
      (idx x2 x1).bind fun _ =>
      (x2[(Int.toNat x1)]?).bind fun y4 =>
      laws_toRecordS_l3 k x0 (IntKind.wrap .i64 (x1 + 1)) (x2.set (Int.toNat x1) r3)
    else
      some x2
noncomputable def laws_toRecordS (k : Nat) (a0 : List DRecord) : Option (List DRecord) :=
  (if ((a0.length : Int) : Int) = (a0.length : Int) then room 40 (a0.length : Int) else none).bind fun n1 =>
  laws_toRecordS_l3 k a0 0 (List.replicate n1 (⟨0, 0, 0, (⟨#[]⟩ : ByteArray)⟩ : DRecord))
noncomputable def laws_toWorld (k : Nat) (a0 : DWorld) : Option (DWorld) :=
  (laws_toEndS k a0.Ends).bind fun r1 =>
  (laws_toParcelS k a0.Flight).bind fun r2 =>
  (laws_toRecordS k a0.Given).bind fun r3 =>
  (laws_toRecordS k a0.Taken).bind fun r4 =>
  some (⟨a0.Key, a0.Width, r1, r2, a0.Forged, r3, r4⟩ : DWorld)
noncomputable def laws_eqEndS_l4 : Nat → List DEnd → List DEnd → Int → Option (Bool)
  | 0, _, _, _ => none
  | k + 1, x0, x1, x2 =>
    bif (decide (x2 < (x0.length : Int))) then
      (idx x0 x2).bind fun y1 =>
      (idx x1 x2).bind fun y2 =>
      (laws_eqEnd k y1 y2).bind fun r3 =>
      bif (!r3) then
        some false
      else
        laws_eqEndS_l4 k x0 x1 (IntKind.wrap .i64 (x2 + 1))
    else
      some true
noncomputable def laws_eqEndS (k : Nat) (a0 : List DEnd) (a1 : List DEnd) : Option (Bool) :=
  bif ((a0.length : Int) != (a1.length : Int)) then
    some false
  else
    laws_eqEndS_l4 k a0 a1 0
noncomputable def laws_eqParcel (k : Nat) (a0 : DParcel) (a1 : DParcel) : Option (Bool) :=
  bif (a0.To != a1.To) then
    some false
  else
    bif (!(a0.Sent.toList == a1.Sent.toList)) then
      some false
    else
      bif (!(a0.Bytes.toList == a1.Bytes.toList)) then
        some false
      else
        some true
noncomputable def laws_eqParcelS_l4 : Nat → List DParcel → List DParcel → Int → Option (Bool)
  | 0, _, _, _ => none
  | k + 1, x0, x1, x2 =>
    bif (decide (x2 < (x0.length : Int))) then
      (idx x0 x2).bind fun y1 =>
      (idx x1 x2).bind fun y2 =>
      (laws_eqParcel k y1 y2).bind fun r3 =>
      bif (!r3) then
        some false
      else
        laws_eqParcelS_l4 k x0 x1 (IntKind.wrap .i64 (x2 + 1))
    else
      some true
noncomputable def laws_eqParcelS (k : Nat) (a0 : List DParcel) (a1 : List DParcel) : Option (Bool) :=
  bif ((a0.length : Int) != (a1.length : Int)) then
    some false
  else
    laws_eqParcelS_l4 k a0 a1 0
noncomputable def laws_eqRecord (k : Nat) (a0 : DRecord) (a1 : DRecord) : Option (Bool) :=
  bif (a0.From != a1.From) then
    some false
  else
    bif (a0.A != a1.A) then
      some false
    else
      bif (a0.B != a1.B) then
        some false
      else
        bif (!(a0.Text.toList == a1.Text.toList)) then
          some false
        else
          some true
noncomputable def laws_eqRecordS_l4 : Nat → List DRecord → List DRecord → Int → Option (Bool)
  | 0, _, _, _ => none
  | k + 1, x0, x1, x2 =>
    bif (decide (x2 < (x0.length : Int))) then
      (idx x0 x2).bind fun y1 =>
      (idx x1 x2).bind fun y2 =>
      (laws_eqRecord k y1 y2).bind fun r3 =>
      bif (!r3) then
        some false
      else
        laws_eqRecordS_l4 k x0 x1 (IntKind.wrap .i64 (x2 + 1))
    else
      some true
noncomputable def laws_eqRecordS (k : Nat) (a0 : List DRecord) (a1 : List DRecord) : Option (Bool) :=
  bif ((a0.length : Int) != (a1.length : Int)) then
    some false
  else
    laws_eqRecordS_l4 k a0 a1 0
noncomputable def laws_eqWorld (k : Nat) (a0 : DWorld) (a1 : DWorld) : Option (Bool) :=
  bif (!(a0.Key.toList == a1.Key.toList)) then
    some false
  else
    bif (a0.Width != a1.Width) then
      some false
    else
      (laws_eqEndS k a0.Ends a1.Ends).bind fun r1 =>
      bif (!r1) then
        some false
      else
        (laws_eqParcelS k a0.Flight a1.Flight).bind fun r2 =>
        bif (!r2) then
          some false
        else
          bif (!(a0.Forged.toList == a1.Forged.toList)) then
            some false
          else
            (laws_eqRecordS k a0.Given a1.Given).bind fun r3 =>
            bif (!r3) then
              some false
            else
              (laws_eqRecordS k a0.Taken a1.Taken).bind fun r4 =>
              bif (!r4) then
                some false
              else
                some true
end Km.X
namespace Km.X
open Go Km
set_option linter.unusedVariables false
set_option maxRecDepth 100000
end Km.X
namespace Km.X
open Go Km
set_option linter.unusedVariables false
set_option maxRecDepth 100000
end Km.X
namespace Km.X
open Go Km
set_option linter.unusedVariables false
set_option maxRecDepth 100000
noncomputable def laws_FnExactRight (k : Nat) (a0 : DWorld) : Option (Bool) :=
  (laws_szWorld k a0 1048576).bind fun r1 =>
  bif (decide (r1 < 0)) then
    some true
  else
    (laws_toWorld k a0).bind fun r2 =>
    (spec_Right k r2).bind fun r3 =>
    (laws_toWorld k a0).bind fun r4 =>
    (impl_Right k r4).bind fun r5 =>
    bif (!(r5 == r3)) then
      some false
    else
      (laws_toWorld k a0).bind fun r6 =>
      (laws_eqWorld k r4 r6).bind fun r7 =>
      bif (!r7) then
        some false
      else
        some true
end Km.X
