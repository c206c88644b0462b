/- A part of the proof of FnExactEndTake: the functions that it reads off the program. There is no condition. -/
import Derived.Test.YtnhnpggoknepfaaKxDef1
namespace Km.X
open Go Km
set_option linter.unusedVariables false
set_option maxRecDepth 100000
noncomputable def laws_FnExactEndTake (k : Nat) (a0 : DEnd) (a1 : DPacket) : Option (Bool) :=
  (laws_szEnd k a0 1048576).bind fun r1 =>
  bif (decide (r1 < 0)) then
    some true
  else
    (laws_szPacket k a1 r1).bind fun r2 =>
    bif (decide (r2 < 0)) then
      some true
    else
      both (
        (laws_toEnd k a0).bind fun r3 =>
        (laws_toPacket k a1).bind fun r4 =>
        (spec_EndTake k r3 r4).bind fun r5 =>
        (laws_toEnd k a0).bind fun r6 =>
        both (
          (laws_toPacket k a1).bind fun r7 =>
          (impl_EndTake k r6 r7).bind fun r8 =>
          (laws_eqActed k r8 r5).bind fun r9 =>
          bif (!r9) then
            some false
          else
            (laws_toEnd k a0).bind fun r10 =>
            (laws_eqEnd k r6 r10).bind fun r11 =>
            bif (!r11) then
              some false
            else
              (laws_markEnd k r6 1).bind fun r12 =>
              bif (decide (r12.1 < 0)) then
                some false
              else
                (laws_eqActed k r8 r5).bind fun r13 =>
                bif (!r13) then
                  some false
                else
                  (laws_markActed k r8 1).bind fun r14 =>
                  (laws_heldActed k (⟨r8.Code, (⟨r8.End.Number, r8.End.Up, r8.End.Life, r8.End.Peer, r8.End.Since, r8.End.Owes, (⟨r8.End.Send.Base, r14.2.1⟩ : DSend), (⟨r8.End.Take.Next, r14.2.2.1, r8.End.Take.Open, r14.2.2.2.1⟩ : DTake)⟩ : DEnd), r14.2.2.2.2, r8.Text⟩ : DActed) 1).bind fun r15 =>
                  bif (decide (r15 < 0)) then
                    some false
                  else
                    bif (r15 != r14.1) then
                      some false
                    else
                      both (
                        (laws_toEnd k a0).bind fun r16 =>
                        (laws_toPacket k a1).bind fun r17 =>
                        (impl_EndTake k r16 r17).bind fun r18 =>
                        (laws_eqActed k r18 r5).bind fun r19 =>
                        bif (!r19) then
                          some false
                        else
                          (laws_heldActed k (⟨r8.Code, (⟨r8.End.Number, r8.End.Up, r8.End.Life, r8.End.Peer, r8.End.Since, r8.End.Owes, (⟨r8.End.Send.Base, r14.2.1⟩ : DSend), (⟨r8.End.Take.Next, r14.2.2.1, r8.End.Take.Open, r14.2.2.2.1⟩ : DTake)⟩ : DEnd), r14.2.2.2.2, r8.Text⟩ : DActed) 1).bind fun r20 =>
                          bif (decide (r20 < 0)) then
                            some false
                          else
                            bif (r20 != r14.1) then
                              some false
                            else
                              some true
                      ) (
                        both (
                          (laws_toEnd k a0).bind fun r21 =>
                          (laws_toPacket k a1).bind fun r22 =>
                          (impl_EndTake k r21 r22).bind fun r23 =>
                          (laws_eqActed k r23 r5).bind fun r24 =>
                          bif (!r24) then
                            some false
                          else
                            (laws_heldActed k (⟨r8.Code, (⟨r8.End.Number, r8.End.Up, r8.End.Life, r8.End.Peer, r8.End.Since, r8.End.Owes, (⟨r8.End.Send.Base, r14.2.1⟩ : DSend), (⟨r8.End.Take.Next, r14.2.2.1, r8.End.Take.Open, r14.2.2.2.1⟩ : DTake)⟩ : DEnd), r14.2.2.2.2, r8.Text⟩ : DActed) 1).bind fun r25 =>
                            bif (decide (r25 < 0)) then
                              some false
                            else
                              bif (r25 != r14.1) then
                                some false
                              else
                                some true
                        ) (
                          (laws_toEnd k a0).bind fun r26 =>
                          (laws_toPacket k a1).bind fun r27 =>
                          (impl_EndTake k r26 r27).bind fun r28 =>
                          (laws_eqActed k r28 r5).bind fun r29 =>
                          bif (!r29) then
                            some false
                          else
                            (laws_heldActed k (⟨r8.Code, (⟨r8.End.Number, r8.End.Up, r8.End.Life, r8.End.Peer, r8.End.Since, r8.End.Owes, (⟨r8.End.Send.Base, r14.2.1⟩ : DSend), (⟨r8.End.Take.Next, r14.2.2.1, r8.End.Take.Open, r14.2.2.2.1⟩ : DTake)⟩ : DEnd), r14.2.2.2.2, r8.Text⟩ : DActed) 1).bind fun r30 =>
                            bif (decide (r30 < 0)) then
                              some false
                            else
                              bif (r30 != r14.1) then
                                some false
                              else
                                some true
                        )
                      )
        ) (
          (laws_toPacket k a1).bind fun r31 =>
          (impl_EndTake k r6 r31).bind fun r32 =>
          (laws_eqActed k r32 r5).bind fun r33 =>
          bif (!r33) then
            some false
          else
            (laws_toEnd k a0).bind fun r34 =>
            (laws_eqEnd k r6 r34).bind fun r35 =>
            bif (!r35) then
              some false
            else
              (laws_markEnd k r6 1).bind fun r36 =>
              bif (decide (r36.1 < 0)) then
                some false
              else
                (laws_eqActed k r32 r5).bind fun r37 =>
                bif (!r37) then
                  some false
                else
                  (laws_markActed k r32 1).bind fun r38 =>
                  (laws_heldActed k (⟨r32.Code, (⟨r32.End.Number, r32.End.Up, r32.End.Life, r32.End.Peer, r32.End.Since, r32.End.Owes, (⟨r32.End.Send.Base, r38.2.1⟩ : DSend), (⟨r32.End.Take.Next, r38.2.2.1, r32.End.Take.Open, r38.2.2.2.1⟩ : DTake)⟩ : DEnd), r38.2.2.2.2, r32.Text⟩ : DActed) 1).bind fun r39 =>
                  bif (decide (r39 < 0)) then
                    some false
                  else
                    bif (r39 != r38.1) then
                      some false
                    else
                      both (
                        (laws_toEnd k a0).bind fun r40 =>
                        (laws_toPacket k a1).bind fun r41 =>
                        (impl_EndTake k r40 r41).bind fun r42 =>
                        (laws_eqActed k r42 r5).bind fun r43 =>
                        bif (!r43) then
                          some false
                        else
                          (laws_heldActed k (⟨r32.Code, (⟨r32.End.Number, r32.End.Up, r32.End.Life, r32.End.Peer, r32.End.Since, r32.End.Owes, (⟨r32.End.Send.Base, r38.2.1⟩ : DSend), (⟨r32.End.Take.Next, r38.2.2.1, r32.End.Take.Open, r38.2.2.2.1⟩ : DTake)⟩ : DEnd), r38.2.2.2.2, r32.Text⟩ : DActed) 1).bind fun r44 =>
                          bif (decide (r44 < 0)) then
                            some false
                          else
                            bif (r44 != r38.1) then
                              some false
                            else
                              some true
                      ) (
                        both (
                          (laws_toEnd k a0).bind fun r45 =>
                          (laws_toPacket k a1).bind fun r46 =>
                          (impl_EndTake k r45 r46).bind fun r47 =>
                          (laws_eqActed k r47 r5).bind fun r48 =>
                          bif (!r48) then
                            some false
                          else
                            (laws_heldActed k (⟨r32.Code, (⟨r32.End.Number, r32.End.Up, r32.End.Life, r32.End.Peer, r32.End.Since, r32.End.Owes, (⟨r32.End.Send.Base, r38.2.1⟩ : DSend), (⟨r32.End.Take.Next, r38.2.2.1, r32.End.Take.Open, r38.2.2.2.1⟩ : DTake)⟩ : DEnd), r38.2.2.2.2, r32.Text⟩ : DActed) 1).bind fun r49 =>
                            bif (decide (r49 < 0)) then
                              some false
                            else
                              bif (r49 != r38.1) then
                                some false
                              else
                                some true
                        ) (
                          (laws_toEnd k a0).bind fun r50 =>
                          (laws_toPacket k a1).bind fun r51 =>
                          (impl_EndTake k r50 r51).bind fun r52 =>
                          (laws_eqActed k r52 r5).bind fun r53 =>
                          bif (!r53) then
                            some false
                          else
                            (laws_heldActed k (⟨r32.Code, (⟨r32.End.Number, r32.End.Up, r32.End.Life, r32.End.Peer, r32.End.Since, r32.End.Owes, (⟨r32.End.Send.Base, r38.2.1⟩ : DSend), (⟨r32.End.Take.Next, r38.2.2.1, r32.End.Take.Open, r38.2.2.2.1⟩ : DTake)⟩ : DEnd), r38.2.2.2.2, r32.Text⟩ : DActed) 1).bind fun r54 =>
                            bif (decide (r54 < 0)) then
                              some false
                            else
                              bif (r54 != r38.1) then
                                some false
                              else
                                some true
                        )
                      )
        )
      ) (
        both (
          (laws_toEnd k a0).bind fun r55 =>
          (laws_toPacket k a1).bind fun r56 =>
          (spec_EndTake k r55 r56).bind fun r57 =>
          (laws_toEnd k a0).bind fun r58 =>
          both (
            (laws_toPacket k a1).bind fun r59 =>
            (impl_EndTake k r58 r59).bind fun r60 =>
            (laws_eqActed k r60 r57).bind fun r61 =>
            bif (!r61) then
              some false
            else
              (laws_toEnd k a0).bind fun r62 =>
              (laws_eqEnd k r58 r62).bind fun r63 =>
              bif (!r63) then
                some false
              else
                (laws_markEnd k r58 1).bind fun r64 =>
                bif (decide (r64.1 < 0)) then
                  some false
                else
                  (laws_eqActed k r60 r57).bind fun r65 =>
                  bif (!r65) then
                    some false
                  else
                    (laws_markActed k r60 1).bind fun r66 =>
                    (laws_heldActed k (⟨r60.Code, (⟨r60.End.Number, r60.End.Up, r60.End.Life, r60.End.Peer, r60.End.Since, r60.End.Owes, (⟨r60.End.Send.Base, r66.2.1⟩ : DSend), (⟨r60.End.Take.Next, r66.2.2.1, r60.End.Take.Open, r66.2.2.2.1⟩ : DTake)⟩ : DEnd), r66.2.2.2.2, r60.Text⟩ : DActed) 1).bind fun r67 =>
                    bif (decide (r67 < 0)) then
                      some false
                    else
                      bif (r67 != r66.1) then
                        some false
                      else
                        both (
                          (laws_toEnd k a0).bind fun r68 =>
                          (laws_toPacket k a1).bind fun r69 =>
                          (impl_EndTake k r68 r69).bind fun r70 =>
                          (laws_eqActed k r70 r57).bind fun r71 =>
                          bif (!r71) then
                            some false
                          else
                            (laws_heldActed k (⟨r60.Code, (⟨r60.End.Number, r60.End.Up, r60.End.Life, r60.End.Peer, r60.End.Since, r60.End.Owes, (⟨r60.End.Send.Base, r66.2.1⟩ : DSend), (⟨r60.End.Take.Next, r66.2.2.1, r60.End.Take.Open, r66.2.2.2.1⟩ : DTake)⟩ : DEnd), r66.2.2.2.2, r60.Text⟩ : DActed) 1).bind fun r72 =>
                            bif (decide (r72 < 0)) then
                              some false
                            else
                              bif (r72 != r66.1) then
                                some false
                              else
                                some true
                        ) (
                          both (
                            (laws_toEnd k a0).bind fun r73 =>
                            (laws_toPacket k a1).bind fun r74 =>
                            (impl_EndTake k r73 r74).bind fun r75 =>
                            (laws_eqActed k r75 r57).bind fun r76 =>
                            bif (!r76) then
                              some false
                            else
                              (laws_heldActed k (⟨r60.Code, (⟨r60.End.Number, r60.End.Up, r60.End.Life, r60.End.Peer, r60.End.Since, r60.End.Owes, (⟨r60.End.Send.Base, r66.2.1⟩ : DSend), (⟨r60.End.Take.Next, r66.2.2.1, r60.End.Take.Open, r66.2.2.2.1⟩ : DTake)⟩ : DEnd), r66.2.2.2.2, r60.Text⟩ : DActed) 1).bind fun r77 =>
                              bif (decide (r77 < 0)) then
                                some false
                              else
                                bif (r77 != r66.1) then
                                  some false
                                else
                                  some true
                          ) (
                            (laws_toEnd k a0).bind fun r78 =>
                            (laws_toPacket k a1).bind fun r79 =>
                            (impl_EndTake k r78 r79).bind fun r80 =>
                            (laws_eqActed k r80 r57).bind fun r81 =>
                            bif (!r81) then
                              some false
                            else
                              (laws_heldActed k (⟨r60.Code, (⟨r60.End.Number, r60.End.Up, r60.End.Life, r60.End.Peer, r60.End.Since, r60.End.Owes, (⟨r60.End.Send.Base, r66.2.1⟩ : DSend), (⟨r60.End.Take.Next, r66.2.2.1, r60.End.Take.Open, r66.2.2.2.1⟩ : DTake)⟩ : DEnd), r66.2.2.2.2, r60.Text⟩ : DActed) 1).bind fun r82 =>
                              bif (decide (r82 < 0)) then
                                some false
                              else
                                bif (r82 != r66.1) then
                                  some false
                                else
                                  some true
                          )
                        )
          ) (
            (laws_toPacket k a1).bind fun r83 =>
            (impl_EndTake k r58 r83).bind fun r84 =>
            (laws_eqActed k r84 r57).bind fun r85 =>
            bif (!r85) then
              some false
            else
              (laws_toEnd k a0).bind fun r86 =>
              (laws_eqEnd k r58 r86).bind fun r87 =>
              bif (!r87) then
                some false
              else
                (laws_markEnd k r58 1).bind fun r88 =>
                bif (decide (r88.1 < 0)) then
                  some false
                else
                  (laws_eqActed k r84 r57).bind fun r89 =>
                  bif (!r89) then
                    some false
                  else
                    (laws_markActed k r84 1).bind fun r90 =>
                    (laws_heldActed k (⟨r84.Code, (⟨r84.End.Number, r84.End.Up, r84.End.Life, r84.End.Peer, r84.End.Since, r84.End.Owes, (⟨r84.End.Send.Base, r90.2.1⟩ : DSend), (⟨r84.End.Take.Next, r90.2.2.1, r84.End.Take.Open, r90.2.2.2.1⟩ : DTake)⟩ : DEnd), r90.2.2.2.2, r84.Text⟩ : DActed) 1).bind fun r91 =>
                    bif (decide (r91 < 0)) then
                      some false
                    else
                      bif (r91 != r90.1) then
                        some false
                      else
                        both (
                          (laws_toEnd k a0).bind fun r92 =>
                          (laws_toPacket k a1).bind fun r93 =>
                          (impl_EndTake k r92 r93).bind fun r94 =>
                          (laws_eqActed k r94 r57).bind fun r95 =>
                          bif (!r95) then
                            some false
                          else
                            (laws_heldActed k (⟨r84.Code, (⟨r84.End.Number, r84.End.Up, r84.End.Life, r84.End.Peer, r84.End.Since, r84.End.Owes, (⟨r84.End.Send.Base, r90.2.1⟩ : DSend), (⟨r84.End.Take.Next, r90.2.2.1, r84.End.Take.Open, r90.2.2.2.1⟩ : DTake)⟩ : DEnd), r90.2.2.2.2, r84.Text⟩ : DActed) 1).bind fun r96 =>
                            bif (decide (r96 < 0)) then
                              some false
                            else
                              bif (r96 != r90.1) then
                                some false
                              else
                                some true
                        ) (
                          both (
                            (laws_toEnd k a0).bind fun r97 =>
                            (laws_toPacket k a1).bind fun r98 =>
                            (impl_EndTake k r97 r98).bind fun r99 =>
                            (laws_eqActed k r99 r57).bind fun r100 =>
                            bif (!r100) then
                              some false
                            else
                              (laws_heldActed k (⟨r84.Code, (⟨r84.End.Number, r84.End.Up, r84.End.Life, r84.End.Peer, r84.End.Since, r84.End.Owes, (⟨r84.End.Send.Base, r90.2.1⟩ : DSend), (⟨r84.End.Take.Next, r90.2.2.1, r84.End.Take.Open, r90.2.2.2.1⟩ : DTake)⟩ : DEnd), r90.2.2.2.2, r84.Text⟩ : DActed) 1).bind fun r101 =>
                              bif (decide (r101 < 0)) then
                                some false
                              else
                                bif (r101 != r90.1) then
                                  some false
                                else
                                  some true
                          ) (
                            (laws_toEnd k a0).bind fun r102 =>
                            (laws_toPacket k a1).bind fun r103 =>
                            (impl_EndTake k r102 r103).bind fun r104 =>
                            (laws_eqActed k r104 r57).bind fun r105 =>
                            bif (!r105) then
                              some false
                            else
                              (laws_heldActed k (⟨r84.Code, (⟨r84.End.Number, r84.End.Up, r84.End.Life, r84.End.Peer, r84.End.Since, r84.End.Owes, (⟨r84.End.Send.Base, r90.2.1⟩ : DSend), (⟨r84.End.Take.Next, r90.2.2.1, r84.End.Take.Open, r90.2.2.2.1⟩ : DTake)⟩ : DEnd), r90.2.2.2.2, r84.Text⟩ : DActed) 1).bind fun r106 =>
                              bif (decide (r106 < 0)) then
                                some false
                              else
                                bif (r106 != r90.1) then
                                  some false
                                else
                                  some true
                          )
                        )
          )
        ) (
          (laws_toEnd k a0).bind fun r107 =>
          (laws_toPacket k a1).bind fun r108 =>
          (spec_EndTake k r107 r108).bind fun r109 =>
          (laws_toEnd k a0).bind fun r110 =>
          both (
            (laws_toPacket k a1).bind fun r111 =>
            (impl_EndTake k r110 r111).bind fun r112 =>
            (laws_eqActed k r112 r109).bind fun r113 =>
            bif (!r113) then
              some false
            else
              (laws_toEnd k a0).bind fun r114 =>
              (laws_eqEnd k r110 r114).bind fun r115 =>
              bif (!r115) then
                some false
              else
                (laws_markEnd k r110 1).bind fun r116 =>
                bif (decide (r116.1 < 0)) then
                  some false
                else
                  (laws_eqActed k r112 r109).bind fun r117 =>
                  bif (!r117) then
                    some false
                  else
                    (laws_markActed k r112 1).bind fun r118 =>
                    (laws_heldActed k (⟨r112.Code, (⟨r112.End.Number, r112.End.Up, r112.End.Life, r112.End.Peer, r112.End.Since, r112.End.Owes, (⟨r112.End.Send.Base, r118.2.1⟩ : DSend), (⟨r112.End.Take.Next, r118.2.2.1, r112.End.Take.Open, r118.2.2.2.1⟩ : DTake)⟩ : DEnd), r118.2.2.2.2, r112.Text⟩ : DActed) 1).bind fun r119 =>
                    bif (decide (r119 < 0)) then
                      some false
                    else
                      bif (r119 != r118.1) then
                        some false
                      else
                        both (
                          (laws_toEnd k a0).bind fun r120 =>
                          (laws_toPacket k a1).bind fun r121 =>
                          (impl_EndTake k r120 r121).bind fun r122 =>
                          (laws_eqActed k r122 r109).bind fun r123 =>
                          bif (!r123) then
                            some false
                          else
                            (laws_heldActed k (⟨r112.Code, (⟨r112.End.Number, r112.End.Up, r112.End.Life, r112.End.Peer, r112.End.Since, r112.End.Owes, (⟨r112.End.Send.Base, r118.2.1⟩ : DSend), (⟨r112.End.Take.Next, r118.2.2.1, r112.End.Take.Open, r118.2.2.2.1⟩ : DTake)⟩ : DEnd), r118.2.2.2.2, r112.Text⟩ : DActed) 1).bind fun r124 =>
                            bif (decide (r124 < 0)) then
                              some false
                            else
                              bif (r124 != r118.1) then
                                some false
                              else
                                some true
                        ) (
                          both (
                            (laws_toEnd k a0).bind fun r125 =>
                            (laws_toPacket k a1).bind fun r126 =>
                            (impl_EndTake k r125 r126).bind fun r127 =>
                            (laws_eqActed k r127 r109).bind fun r128 =>
                            bif (!r128) then
                              some false
                            else
                              (laws_heldActed k (⟨r112.Code, (⟨r112.End.Number, r112.End.Up, r112.End.Life, r112.End.Peer, r112.End.Since, r112.End.Owes, (⟨r112.End.Send.Base, r118.2.1⟩ : DSend), (⟨r112.End.Take.Next, r118.2.2.1, r112.End.Take.Open, r118.2.2.2.1⟩ : DTake)⟩ : DEnd), r118.2.2.2.2, r112.Text⟩ : DActed) 1).bind fun r129 =>
                              bif (decide (r129 < 0)) then
                                some false
                              else
                                bif (r129 != r118.1) then
                                  some false
                                else
                                  some true
                          ) (
                            (laws_toEnd k a0).bind fun r130 =>
                            (laws_toPacket k a1).bind fun r131 =>
                            (impl_EndTake k r130 r131).bind fun r132 =>
                            (laws_eqActed k r132 r109).bind fun r133 =>
                            bif (!r133) then
                              some false
                            else
                              (laws_heldActed k (⟨r112.Code, (⟨r112.End.Number, r112.End.Up, r112.End.Life, r112.End.Peer, r112.End.Since, r112.End.Owes, (⟨r112.End.Send.Base, r118.2.1⟩ : DSend), (⟨r112.End.Take.Next, r118.2.2.1, r112.End.Take.Open, r118.2.2.2.1⟩ : DTake)⟩ : DEnd), r118.2.2.2.2, r112.Text⟩ : DActed) 1).bind fun r134 =>
                              bif (decide (r134 < 0)) then
                                some false
                              else
                                bif (r134 != r118.1) then
                                  some false
                                else
                                  some true
                          )
                        )
          ) (
            (laws_toPacket k a1).bind fun r135 =>
            (impl_EndTake k r110 r135).bind fun r136 =>
            (laws_eqActed k r136 r109).bind fun r137 =>
            bif (!r137) then
              some false
            else
              (laws_toEnd k a0).bind fun r138 =>
              (laws_eqEnd k r110 r138).bind fun r139 =>
              bif (!r139) then
                some false
              else
                (laws_markEnd k r110 1).bind fun r140 =>
                bif (decide (r140.1 < 0)) then
                  some false
                else
                  (laws_eqActed k r136 r109).bind fun r141 =>
                  bif (!r141) then
                    some false
                  else
                    (laws_markActed k r136 1).bind fun r142 =>
                    (laws_heldActed k (⟨r136.Code, (⟨r136.End.Number, r136.End.Up, r136.End.Life, r136.End.Peer, r136.End.Since, r136.End.Owes, (⟨r136.End.Send.Base, r142.2.1⟩ : DSend), (⟨r136.End.Take.Next, r142.2.2.1, r136.End.Take.Open, r142.2.2.2.1⟩ : DTake)⟩ : DEnd), r142.2.2.2.2, r136.Text⟩ : DActed) 1).bind fun r143 =>
                    bif (decide (r143 < 0)) then
                      some false
                    else
                      bif (r143 != r142.1) then
                        some false
                      else
                        both (
                          (laws_toEnd k a0).bind fun r144 =>
                          (laws_toPacket k a1).bind fun r145 =>
                          (impl_EndTake k r144 r145).bind fun r146 =>
                          (laws_eqActed k r146 r109).bind fun r147 =>
                          bif (!r147) then
                            some false
                          else
                            (laws_heldActed k (⟨r136.Code, (⟨r136.End.Number, r136.End.Up, r136.End.Life, r136.End.Peer, r136.End.Since, r136.End.Owes, (⟨r136.End.Send.Base, r142.2.1⟩ : DSend), (⟨r136.End.Take.Next, r142.2.2.1, r136.End.Take.Open, r142.2.2.2.1⟩ : DTake)⟩ : DEnd), r142.2.2.2.2, r136.Text⟩ : DActed) 1).bind fun r148 =>
                            bif (decide (r148 < 0)) then
                              some false
                            else
                              bif (r148 != r142.1) then
                                some false
                              else
                                some true
                        ) (
                          both (
                            (laws_toEnd k a0).bind fun r149 =>
                            (laws_toPacket k a1).bind fun r150 =>
                            (impl_EndTake k r149 r150).bind fun r151 =>
                            (laws_eqActed k r151 r109).bind fun r152 =>
                            bif (!r152) then
                              some false
                            else
                              (laws_heldActed k (⟨r136.Code, (⟨r136.End.Number, r136.End.Up, r136.End.Life, r136.End.Peer, r136.End.Since, r136.End.Owes, (⟨r136.End.Send.Base, r142.2.1⟩ : DSend), (⟨r136.End.Take.Next, r142.2.2.1, r136.End.Take.Open, r142.2.2.2.1⟩ : DTake)⟩ : DEnd), r142.2.2.2.2, r136.Text⟩ : DActed) 1).bind fun r153 =>
                              bif (decide (r153 < 0)) then
                                some false
                              else
                                bif (r153 != r142.1) then
                                  some false
                                else
                                  some true
                          ) (
                            (laws_toEnd k a0).bind fun r154 =>
                            (laws_toPacket k a1).bind fun r155 =>
                            (impl_EndTake k r154 r155).bind fun r156 =>
                            (laws_eqActed k r156 r109).bind fun r157 =>
                            bif (!r157) then
                              some false
                            else
                              (laws_heldActed k (⟨r136.Code, (⟨r136.End.Number, r136.End.Up, r136.End.Life, r136.End.Peer, r136.End.Since, r136.End.Owes, (⟨r136.End.Send.Base, r142.2.1⟩ : DSend), (⟨r136.End.Take.Next, r142.2.2.1, r136.End.Take.Open, r142.2.2.2.1⟩ : DTake)⟩ : DEnd), r142.2.2.2.2, r136.Text⟩ : DActed) 1).bind fun r158 =>
                              bif (decide (r158 < 0)) then
                                some false
                              else
                                bif (r158 != r142.1) then
                                  some false
                                else
                                  some true
                          )
                        )
          )
        )
      )
end Km.X
