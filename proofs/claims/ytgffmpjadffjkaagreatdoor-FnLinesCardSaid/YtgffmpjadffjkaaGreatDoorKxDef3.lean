/- A part of the proof of FnLines: the functions that it reads off the program. There is no condition. -/
import Derived.Test.YtgffmpjadffjkaaGreatDoorKxDef2
import Derived.Test.YtgffmpjadffjkaaGreatDoorKxDef1
set_option linter.unusedVariables false
namespace Km.X
open Go Km
set_option maxRecDepth 100000
mutual
noncomputable def kE:Nat→ByteArray→Int→Int→Int→List ByteArray→Option (List ByteArray)
 | 0,_,_,_,_,_=>none
 | k+1,A,B,C,D,E=>
 bif (decide (D<(A.size:Int))) then
 (zN A D).bind fun c1=>
 bif ((c1.toNat:Int)==B) then
 (wnd A.size C D).bind fun p2=>
 (app 16 E ([(A.extract p2.1 p2.2)]:List ByteArray)).bind fun l3=>
 nL k A B (IntKind.wrap .i64 (D+1)) D l3
 else
 nL k A B C D E
 else
 (wnd A.size C (A.size:Int)).bind fun p4=>
 (app 16 E ([(A.extract p4.1 p4.2)]:List ByteArray)).bind fun l5=>
 some l5
noncomputable def nL:Nat→ByteArray→Int→Int→Int→List ByteArray→Option (List ByteArray)
 | 0,_,_,_,_,_=>none
 | k+1,A,B,C,D,E=>
 kE k A B C (IntKind.wrap .i64 (D+1)) E
end
noncomputable def yE (k:Nat) (a0:ByteArray) (a1:Int):Option (List ByteArray):=
 kE k a0 a1 0 0 ([]:List ByteArray)
noncomputable def aW:Nat→Int→Option (ByteArray)
 | 0,_=>none
 | k+1,a0=>
 bif (decide (a0<10)) then
 some (mD ([(IntKind.wrap .u8 (IntKind.wrap .i64 (48+a0)))]:List Int))
 else
 (UH a0 10).bind fun q1=>
 (aW k (IntKind.wrap .i64 (q1))).bind fun r2=>
 (J0 a0 10).bind fun q3=>
 (dK r2 (mD ([(IntKind.wrap .u8 (IntKind.wrap .i64 (48+q3)))]:List Int))).bind fun t4=>
 some t4
noncomputable def fT:Nat→ByteArray→Int→Int→Option (Int)
 | 0,_,_,_=>none
 | k+1,A,B,C=>
 bif (decide (C<(A.size:Int))) then
 (zN A C).bind fun c1=>
 bif (decide ((c1.toNat:Int)<48)) then
 some (-1)
 else
 (zN A C).bind fun c2=>
 bif (decide ((c2.toNat:Int)>57)) then
 some (-1)
 else
 (zN A C).bind fun c3=>
 fT k A (IntKind.wrap .i64 ((IntKind.wrap .i64 (B*10))+(IntKind.wrap .i64 (IntKind.wrap .u8 ((c3.toNat:Int)-48))))) (IntKind.wrap .i64 (C+1))
 else
 (aW k B).bind fun r4=>
 bif (!(r4.toList==A.toList)) then
 some (-1)
 else
 some B
noncomputable def gG (k:Nat) (a0:ByteArray):Option (Int):=
 bif ((a0.size:Int)==0) then
 some (-1)
 else
 bif (decide ((a0.size:Int)>6)) then
 some (-1)
 else
 fT k a0 0 0
noncomputable def jD:Nat→ByteArray→Int→ByteArray→Int→ByteArray→ByteArray→Int→ByteArray→List aN→List aE→List aA→List aA→List aN→List aE→List aA→List aA→Option (aC×ByteArray)
 | 0,_,_,_,_,_,_,_,_,_,_,_,_,_,_,_,_=>none
 | k+1,A,B,C,D,E,F,G,H,I,J,K,L,M,N,O,P=>
 bif (decide (B<(A.size:Int))) then
 (zN A B).bind fun c2=>
 bif ((c2.toNat:Int) !=32) then
 jD k A (IntKind.wrap .i64 (B+1)) C D E F G H I J K L M N O P
 else
 (wnd A.size 0 B).bind fun p3=>
 (gG k (A.extract p3.1 p3.2)).bind fun r4=>
 bif (decide (r4<0)) then
 some ((⟨C,D,I,J,E,K,L⟩:aC),(⟨#[98,97,100]⟩:ByteArray))
 else
 bif (decide ((IntKind.wrap .i64 (B+1))≥(A.size:Int))) then
 some ((⟨C,D,I,J,E,K,L⟩:aC),(⟨#[98,97,100]⟩:ByteArray))
 else
 bif (decide (r4<1)) then
 some ((⟨C,D,I,J,E,K,L⟩:aC),(⟨#[99,111,100,101,32,49]⟩:ByteArray))
 else
 bif (decide (r4>2)) then
 some ((⟨C,D,I,J,E,K,L⟩:aC),(⟨#[99,111,100,101,32,49]⟩:ByteArray))
 else
 (wnd A.size (IntKind.wrap .i64 (B+1)) (A.size:Int)).bind fun p5=>
 (idx I (IntKind.wrap .i64 (r4-1))).bind fun _=>
 (I[(Int.toNat (IntKind.wrap .i64 (r4-1)))]?).bind fun y6=>
 (jR k y6 (A.extract p5.1 p5.2)).bind fun r7=>
 (uU k (⟨C,D,I,J,E,K,L⟩:aC) (⟨10,r4,0,0,(A.extract p5.1 p5.2)⟩:bI)).bind fun r8=>
 (aW k r7.Code).bind fun r9=>
 (dK (⟨#[99,111,100,101,32]⟩:ByteArray) r9).bind fun t10=>
 some (r8,t10)
 else
 (wnd A.size 0 B).bind fun p11=>
 (gG k (A.extract p11.1 p11.2)).bind fun r12=>
 bif (decide (r12<0)) then
 some ((⟨C,D,I,J,E,K,L⟩:aC),(⟨#[98,97,100]⟩:ByteArray))
 else
 bif (decide ((IntKind.wrap .i64 (B+1))≥(A.size:Int))) then
 some ((⟨C,D,I,J,E,K,L⟩:aC),(⟨#[98,97,100]⟩:ByteArray))
 else
 bif (decide (r12<1)) then
 some ((⟨C,D,I,J,E,K,L⟩:aC),(⟨#[99,111,100,101,32,49]⟩:ByteArray))
 else
 bif (decide (r12>2)) then
 some ((⟨C,D,I,J,E,K,L⟩:aC),(⟨#[99,111,100,101,32,49]⟩:ByteArray))
 else
 (wnd A.size (IntKind.wrap .i64 (B+1)) (A.size:Int)).bind fun p13=>
 (idx I (IntKind.wrap .i64 (r12-1))).bind fun _=>
 (I[(Int.toNat (IntKind.wrap .i64 (r12-1)))]?).bind fun y14=>
 (jR k y14 (A.extract p13.1 p13.2)).bind fun r15=>
 (uU k (⟨C,D,I,J,E,K,L⟩:aC) (⟨10,r12,0,0,(A.extract p13.1 p13.2)⟩:bI)).bind fun r16=>
 (aW k r15.Code).bind fun r17=>
 (dK (⟨#[99,111,100,101,32]⟩:ByteArray) r17).bind fun t18=>
 some (r16,t18)
noncomputable def u6 (k:Nat) (a0:aC) (a1:ByteArray):Option (aC×ByteArray):=
 (wnd a1.size 5 (a1.size:Int)).bind fun p1=>
 jD k (a1.extract p1.1 p1.2) 0 a0.Key a0.Width a0.Forged (⟨#[]⟩:ByteArray) 0 (⟨#[]⟩:ByteArray) a0.Ends a0.Flight a0.Given a0.Taken ([]:List aN) ([]:List aE) ([]:List aA) ([]:List aA)
noncomputable def uA (k:Nat) (a0:aN):Option (ByteArray):=
 bif (!a0.Up) then
 (aW k a0.Life).bind fun r1=>
 (dK (⟨#[100,111,119,110,32]⟩:ByteArray) r1).bind fun t2=>
 some t2
 else
 (aW k a0.Life).bind fun r3=>
 (dK r3 (⟨#[32]⟩:ByteArray)).bind fun t4=>
 (aW k a0.Peer).bind fun r5=>
 (dK t4 r5).bind fun t6=>
 (dK t6 (⟨#[32]⟩:ByteArray)).bind fun t7=>
 (aW k (a0.Send.Items.length:Int)).bind fun r8=>
 (dK t7 r8).bind fun t9=>
 (dK t9 (⟨#[32]⟩:ByteArray)).bind fun t10=>
 (aW k (a0.Take.Ready.length:Int)).bind fun r11=>
 (dK t10 r11).bind fun t12=>
 some t12
mutual
noncomputable def lM:Nat→ByteArray→ByteArray→Int→List aN→List aE→ByteArray→List aA→List aA→Option (ByteArray)
 | 0,_,_,_,_,_,_,_,_=>none
 | k+1,A,B,C,D,E,F,G,H=>
 (BU k (⟨B,C,D,E,F,G,H⟩:aC)).bind fun r10=>
 bif r10 then
 (dK A (⟨#[32,105,100,108,101]⟩:ByteArray)).bind fun t11=>
 lO k t11 B C D E F G H
 else
 lO k A B C D E F G H
noncomputable def lO:Nat→ByteArray→ByteArray→Int→List aN→List aE→ByteArray→List aA→List aA→Option (ByteArray)
 | 0,_,_,_,_,_,_,_,_=>none
 | k+1,A,B,C,D,E,F,G,H=>
 bif (!(F.toList==(⟨#[]⟩:ByteArray).toList)) then
 (dK A (⟨#[32,102,111,114,103,101,100]⟩:ByteArray)).bind fun t12=>
 lL k t12
 else
 lL k A
noncomputable def lL:Nat→ByteArray→Option (ByteArray)
 | 0,_=>none
 | k+1,A=>
 some A
end
noncomputable def uT (k:Nat) (a0:aC):Option (ByteArray):=
 (idx a0.Ends 0).bind fun y1=>
 (uA k y1).bind fun r2=>
 (dK r2 (⟨#[44,32]⟩:ByteArray)).bind fun t3=>
 (idx a0.Ends 1).bind fun y4=>
 (uA k y4).bind fun r5=>
 (dK t3 r5).bind fun t6=>
 (yH k a0).bind fun r7=>
 bif r7 then
 (dK t6 (⟨#[32,114,105,103,104,116]⟩:ByteArray)).bind fun t8=>
 lM k t8 a0.Key a0.Width a0.Ends a0.Flight a0.Forged a0.Given a0.Taken
 else
 (dK t6 (⟨#[32,119,114,111,110,103]⟩:ByteArray)).bind fun t9=>
 lM k t9 a0.Key a0.Width a0.Ends a0.Flight a0.Forged a0.Given a0.Taken
noncomputable def eV:Nat→List ByteArray→Int→List Int→Option (List Int×Bool)
 | 0,_,_,_=>none
 | k+1,A,B,C=>
 bif (decide (B<(A.length:Int))) then
 (idx A B).bind fun y1=>
 (gG k y1).bind fun r2=>
 bif (decide (r2<0)) then
 some (C,false)
 else
 (app 8 C ([r2]:List Int)).bind fun l3=>
 eV k A (IntKind.wrap .i64 (B+1)) l3
 else
 some (C,true)
noncomputable def tA (k:Nat) (a0:List ByteArray):Option (List Int×Bool):=
 eV k a0 0 ([]:List Int)
mutual
noncomputable def gT:Nat→ByteArray→Int→List Int→Option (ByteArray)
 | 0,_,_,_=>none
 | k+1,A,B,C=>
 bif (decide (B<(A.size:Int))) then
 (zN A B).bind fun c1=>
 bif (decide ((c1.toNat:Int)<32)) then
 (app 1 C ([63]:List Int)).bind fun l2=>
 hP k A B l2
 else
 (zN A B).bind fun c3=>
 bif (decide ((c3.toNat:Int)>126)) then
 (app 1 C ([63]:List Int)).bind fun l4=>
 hP k A B l4
 else
 (zN A B).bind fun c5=>
 (app 1 C ([(c5.toNat:Int)]:List Int)).bind fun l6=>
 hP k A B l6
 else
 some (mD C)
noncomputable def hP:Nat→ByteArray→Int→List Int→Option (ByteArray)
 | 0,_,_,_=>none
 | k+1,A,B,C=>
 gT k A (IntKind.wrap .i64 (B+1)) C
end
noncomputable def w5 (k:Nat) (a0:ByteArray):Option (ByteArray):=
 gT k a0 0 ([]:List Int)
noncomputable def uP (k:Nat) (a0:aC) (a1:Int):Option (aC×ByteArray):=
 bif (decide (a1<1)) then
 some (a0,(⟨#[99,111,100,101,32,49]⟩:ByteArray))
 else
 bif (decide (a1>2)) then
 some (a0,(⟨#[99,111,100,101,32,49]⟩:ByteArray))
 else
 (idx a0.Ends (IntKind.wrap .i64 (a1-1))).bind fun _=>
 (a0.Ends[(Int.toNat (IntKind.wrap .i64 (a1-1)))]?).bind fun y1=>
 (oT k y1).bind fun r2=>
 bif (r2.Code !=0) then
 (aW k r2.Code).bind fun r3=>
 (dK (⟨#[99,111,100,101,32]⟩:ByteArray) r3).bind fun t4=>
 some (a0,t4)
 else
 (uU k a0 (⟨11,a1,0,0,(⟨#[]⟩:ByteArray)⟩:bI)).bind fun r5=>
 (w5 k r2.Text).bind fun r6=>
 (dK (⟨#[103,111,116,32]⟩:ByteArray) r6).bind fun t7=>
 some (r5,t7)
noncomputable def iK (k:Nat) (a0:aC):Option (ByteArray):=
 (aW k (a0.Flight.length:Int)).bind fun r1=>
 some r1
noncomputable def uG (k:Nat) (a0:ByteArray):Option (Int×Int):=
 bif (a0.toList==(⟨#[116,105,99,107]⟩:ByteArray).toList) then
 some (1,0)
 else
 bif (a0.toList==(⟨#[98,114,105,110,103]⟩:ByteArray).toList) then
 some (2,1)
 else
 bif (a0.toList==(⟨#[100,111,117,98,108,101]⟩:ByteArray).toList) then
 some (3,1)
 else
 bif (a0.toList==(⟨#[108,111,115,101]⟩:ByteArray).toList) then
 some (4,1)
 else
 bif (a0.toList==(⟨#[98,101,110,100]⟩:ByteArray).toList) then
 some (5,3)
 else
 bif (a0.toList==(⟨#[99,117,116]⟩:ByteArray).toList) then
 some (6,2)
 else
 bif (a0.toList==(⟨#[116,117,114,110]⟩:ByteArray).toList) then
 some (7,1)
 else
 bif (a0.toList==(⟨#[102,97,108,108]⟩:ByteArray).toList) then
 some (8,1)
 else
 bif (a0.toList==(⟨#[114,105,115,101]⟩:ByteArray).toList) then
 some (9,1)
 else
 some (0,0)
mutual
noncomputable def lR:Nat→ByteArray→ByteArray→Int→ByteArray→ByteArray→Int→ByteArray→List aN→List aE→List aA→List aA→List aN→List aE→List aA→List aA→Option (aC×ByteArray)
 | 0,_,_,_,_,_,_,_,_,_,_,_,_,_,_,_=>none
 | k+1,A,B,C,D,E,F,G,H,I,J,K,L,M,N,O=>
 (yE k A 32).bind fun r3=>
 bif (A.toList==(⟨#[115,104,111,119]⟩:ByteArray).toList) then
 (uT k (⟨B,C,H,I,D,J,K⟩:aC)).bind fun r4=>
 some ((⟨B,C,H,I,D,J,K⟩:aC),r4)
 else
 (idx r3 0).bind fun _=>
 (r3[(Int.toNat 0)]?).bind fun y5=>
 bif (y5.toList==(⟨#[119,111,114,108,100]⟩:ByteArray).toList) then
 bif ((r3.length:Int)==3) then
 (idx r3 1).bind fun _=>
 (r3[(Int.toNat 1)]?).bind fun y6=>
 bif (!(y6.toList==(⟨#[]⟩:ByteArray).toList)) then
 (idx r3 2).bind fun _=>
 (r3[(Int.toNat 2)]?).bind fun y7=>
 (gG k y7).bind fun r8=>
 bif (decide (r8<0)) then
 some ((⟨B,C,H,I,D,J,K⟩:aC),(⟨#[98,97,100]⟩:ByteArray))
 else
 (idx r3 1).bind fun _=>
 (r3[(Int.toNat 1)]?).bind fun y9=>
 (nG k y9 r8).bind fun r10=>
 bif ((r10.Ends.length:Int)==0) then
 some ((⟨B,C,H,I,D,J,K⟩:aC),(⟨#[110,111]⟩:ByteArray))
 else
 some (r10,(⟨#[111,107]⟩:ByteArray))
 else
 eY k B C D E F G r3 H I J K L M N O
 else
 eY k B C D E F G r3 H I J K L M N O
 else
 eY k B C D E F G r3 H I J K L M N O
noncomputable def eY:Nat→ByteArray→Int→ByteArray→ByteArray→Int→ByteArray→List ByteArray→List aN→List aE→List aA→List aA→List aN→List aE→List aA→List aA→Option (aC×ByteArray)
 | 0,_,_,_,_,_,_,_,_,_,_,_,_,_,_,_=>none
 | k+1,A,B,C,D,E,F,G,H,I,J,K,L,M,N,O=>
 (wnd G.length 1 (G.length:Int)).bind fun p11=>
 (tA k (iA G p11.1 p11.2)).bind fun r12=>
 bif (!r12.2) then
 some ((⟨A,B,H,I,C,J,K⟩:aC),(⟨#[98,97,100]⟩:ByteArray))
 else
 (idx G 0).bind fun _=>
 (G[(Int.toNat 0)]?).bind fun y13=>
 bif (y13.toList==(⟨#[112,117,108,108]⟩:ByteArray).toList) then
 bif ((r12.1.length:Int)==1) then
 (idx r12.1 0).bind fun _=>
 (r12.1[(Int.toNat 0)]?).bind fun y14=>
 (uP k (⟨A,B,H,I,C,J,K⟩:aC) y14).bind fun r15=>
 some (r15.1,r15.2)
 else
 j8 k A B C D E F G r12.1 H I J K L M N O
 else
 j8 k A B C D E F G r12.1 H I J K L M N O
noncomputable def j8:Nat→ByteArray→Int→ByteArray→ByteArray→Int→ByteArray→List ByteArray→List Int→List aN→List aE→List aA→List aA→List aN→List aE→List aA→List aA→Option (aC×ByteArray)
 | 0,_,_,_,_,_,_,_,_,_,_,_,_,_,_,_,_=>none
 | k+1,A,B,C,D,E,F,G,H,I,J,K,L,M,N,O,P=>
 (idx G 0).bind fun _=>
 (G[(Int.toNat 0)]?).bind fun y16=>
 bif (y16.toList==(⟨#[99,97,108,109]⟩:ByteArray).toList) then
 bif ((H.length:Int)==2) then
 (idx H 0).bind fun _=>
 (H[(Int.toNat 0)]?).bind fun y17=>
 bif (decide (y17>200)) then
 some ((⟨A,B,I,J,C,K,L⟩:aC),(⟨#[110,111]⟩:ByteArray))
 else
 (idx H 1).bind fun _=>
 (H[(Int.toNat 1)]?).bind fun y18=>
 bif (decide (y18<1)) then
 some ((⟨A,B,I,J,C,K,L⟩:aC),(⟨#[110,111]⟩:ByteArray))
 else
 (idx H 1).bind fun _=>
 (H[(Int.toNat 1)]?).bind fun y19=>
 bif (decide (y19>10)) then
 some ((⟨A,B,I,J,C,K,L⟩:aC),(⟨#[110,111]⟩:ByteArray))
 else
 both (
 (idx H 0).bind fun _=>
 (H[(Int.toNat 0)]?).bind fun y20=>
 (idx H 1).bind fun _=>
 (H[(Int.toNat 1)]?).bind fun y21=>
 (xY k (⟨A,B,I,J,C,K,L⟩:aC) y20 y21).bind fun r22=>
 (iK k r22).bind fun r23=>
 some (r22,r23)
 ) (
 (idx H 0).bind fun _=>
 (H[(Int.toNat 0)]?).bind fun y24=>
 (idx H 1).bind fun _=>
 (H[(Int.toNat 1)]?).bind fun y25=>
 (xY k (⟨A,B,I,J,C,K,L⟩:aC) y24 y25).bind fun r26=>
 (iK k r26).bind fun r27=>
 some (r26,r27)
 )
 else
 jT k A B C D E F G H I J K L M N O P
 else
 jT k A B C D E F G H I J K L M N O P
noncomputable def jT:Nat→ByteArray→Int→ByteArray→ByteArray→Int→ByteArray→List ByteArray→List Int→List aN→List aE→List aA→List aA→List aN→List aE→List aA→List aA→Option (aC×ByteArray)
 | 0,_,_,_,_,_,_,_,_,_,_,_,_,_,_,_,_=>none
 | k+1,A,B,C,D,E,F,G,H,I,J,K,L,M,N,O,P=>
 (idx G 0).bind fun _=>
 (G[(Int.toNat 0)]?).bind fun y28=>
 (uG k y28).bind fun r29=>
 bif (r29.1==0) then
 some ((⟨A,B,I,J,C,K,L⟩:aC),(⟨#[98,97,100]⟩:ByteArray))
 else
 bif ((H.length:Int) !=r29.2) then
 some ((⟨A,B,I,J,C,K,L⟩:aC),(⟨#[98,97,100]⟩:ByteArray))
 else
 (app 8 H ([0,0,0]:List Int)).bind fun l30=>
 both (
 (idx l30 0).bind fun _=>
 (l30[(Int.toNat 0)]?).bind fun y31=>
 (idx l30 1).bind fun _=>
 (l30[(Int.toNat 1)]?).bind fun y32=>
 (idx l30 2).bind fun _=>
 (l30[(Int.toNat 2)]?).bind fun y33=>
 (uU k (⟨A,B,I,J,C,K,L⟩:aC) (⟨r29.1,y31,y32,y33,(⟨#[]⟩:ByteArray)⟩:bI)).bind fun r34=>
 (iK k r34).bind fun r35=>
 some (r34,r35)
 ) (
 (idx l30 0).bind fun _=>
 (l30[(Int.toNat 0)]?).bind fun y36=>
 (idx l30 1).bind fun _=>
 (l30[(Int.toNat 1)]?).bind fun y37=>
 (idx l30 2).bind fun _=>
 (l30[(Int.toNat 2)]?).bind fun y38=>
 (uU k (⟨A,B,I,J,C,K,L⟩:aC) (⟨r29.1,y36,y37,y38,(⟨#[]⟩:ByteArray)⟩:bI)).bind fun r39=>
 (iK k r39).bind fun r40=>
 some (r39,r40)
 )
end
noncomputable def qQ (k:Nat) (a0:aC) (a1:ByteArray):Option (aC×ByteArray):=
 bif (decide ((a1.size:Int)>5)) then
 (wnd a1.size 0 5).bind fun p1=>
 bif ((a1.extract p1.1 p1.2).toList==(⟨#[112,117,115,104,32]⟩:ByteArray).toList) then
 (u6 k a0 a1).bind fun r2=>
 some (r2.1,r2.2)
 else
 lR k a1 a0.Key a0.Width a0.Forged (⟨#[]⟩:ByteArray) 0 (⟨#[]⟩:ByteArray) a0.Ends a0.Flight a0.Given a0.Taken ([]:List aN) ([]:List aE) ([]:List aA) ([]:List aA)
 else
 lR k a1 a0.Key a0.Width a0.Forged (⟨#[]⟩:ByteArray) 0 (⟨#[]⟩:ByteArray) a0.Ends a0.Flight a0.Given a0.Taken ([]:List aN) ([]:List aE) ([]:List aA) ([]:List aA)
mutual
noncomputable def eX:Nat→ByteArray→List ByteArray→Option (ByteArray)
 | 0,_,_=>none
 | k+1,A,B=>
 bif (decide ((A.size:Int)>20000)) then
 some (⟨#[116,111,111,32,108,111,110,103,10]⟩:ByteArray)
 else
 bif (decide ((B.length:Int)>400)) then
 some (⟨#[116,111,111,32,108,111,110,103,10]⟩:ByteArray)
 else
 (nG k (⟨#[107]⟩:ByteArray) 8).bind fun r4=>
 eF k 0 B r4.Key r4.Width r4.Forged ([]:List Int) r4.Ends r4.Flight r4.Given r4.Taken
noncomputable def eF:Nat→Int→List ByteArray→ByteArray→Int→ByteArray→List Int→List aN→List aE→List aA→List aA→Option (ByteArray)
 | 0,_,_,_,_,_,_,_,_,_,_=>none
 | k+1,A,B,C,D,E,F,G,H,I,J=>
 bif (decide (A<(B.length:Int))) then
 both (
 (idx B A).bind fun _=>
 (B[(Int.toNat A)]?).bind fun y5=>
 (qQ k (⟨C,D,G,H,E,I,J⟩:aC) y5).bind fun r6=>
 (app 1 F (bC r6.2)).bind fun l7=>
 (app 1 l7 ([10]:List Int)).bind fun l8=>
 eF k (IntKind.wrap .i64 (A+1)) B r6.1.Key r6.1.Width r6.1.Forged l8 r6.1.Ends r6.1.Flight r6.1.Given r6.1.Taken
 ) (
 (idx B A).bind fun _=>
 (B[(Int.toNat A)]?).bind fun y9=>
 (qQ k (⟨C,D,G,H,E,I,J⟩:aC) y9).bind fun r10=>
 (app 1 F (bC r10.2)).bind fun l11=>
 (app 1 l11 ([10]:List Int)).bind fun l12=>
 eF k (IntKind.wrap .i64 (A+1)) B r10.1.Key r10.1.Width r10.1.Forged l12 r10.1.Ends r10.1.Flight r10.1.Given r10.1.Taken
 )
 else
 some (mD F)
end
noncomputable def pC (k:Nat) (a0:ByteArray):Option (ByteArray):=
 bif (decide ((a0.size:Int)≤20000)) then
 (yE k a0 10).bind fun r1=>
 (idx r1 (IntKind.wrap .i64 ((r1.length:Int)-1))).bind fun _=>
 (r1[(Int.toNat (IntKind.wrap .i64 ((r1.length:Int)-1)))]?).bind fun y2=>
 bif (y2.toList==(⟨#[]⟩:ByteArray).toList) then
 (wnd r1.length 0 (IntKind.wrap .i64 ((r1.length:Int)-1))).bind fun p3=>
 eX k a0 (iA r1 p3.1 p3.2)
 else
 eX k a0 r1
 else
 eX k a0 ([]:List ByteArray)
noncomputable def fA:Nat→ByteArray→Int→Option (Int×Bool)
 | 0,_,_=>none
 | k+1,A,B=>
 bif (decide (B<(A.size:Int))) then
 (zN A B).bind fun c2=>
 bif (decide ((c2.toNat:Int)<48)) then
 some (0,false)
 else
 (zN A B).bind fun c3=>
 bif (decide ((c3.toNat:Int)>57)) then
 some (0,false)
 else
 fA k A (IntKind.wrap .i64 (B+1))
 else
 (mP k A).bind fun r4=>
 some (r4.1,true)
noncomputable def mO (k:Nat) (a0:ByteArray):Option (Int×Bool):=
 bif (decide ((a0.size:Int)<1)) then
 some (0,false)
 else
 bif (decide ((a0.size:Int)>6)) then
 some (0,false)
 else
 (zN a0 0).bind fun c1=>
 bif ((c1.toNat:Int)==48) then
 bif (decide ((a0.size:Int)>1)) then
 some (0,false)
 else
 fA k a0 0
 else
 fA k a0 0
noncomputable def wC (k:Nat) (a0:aN):Option (ByteArray):=
 bif (!a0.Up) then
 (strconv_Itoa k a0.Life).bind fun r1=>
 (dK (⟨#[100,111,119,110,32]⟩:ByteArray) r1).bind fun t2=>
 some t2
 else
 (strconv_Itoa k a0.Life).bind fun r3=>
 (dK r3 (⟨#[32]⟩:ByteArray)).bind fun t4=>
 (strconv_Itoa k a0.Peer).bind fun r5=>
 (dK t4 r5).bind fun t6=>
 (dK t6 (⟨#[32]⟩:ByteArray)).bind fun t7=>
 (strconv_Itoa k (a0.Send.Items.length:Int)).bind fun r8=>
 (dK t7 r8).bind fun t9=>
 (dK t9 (⟨#[32]⟩:ByteArray)).bind fun t10=>
 (strconv_Itoa k (a0.Take.Ready.length:Int)).bind fun r11=>
 (dK t10 r11).bind fun t12=>
 some t12
mutual
noncomputable def kT:Nat→ByteArray→Int→Int→ByteArray→Int→ByteArray→ByteArray→Int→ByteArray→List ByteArray→List aN→List aE→List aA→List aA→List aN→List aE→List aA→List aA→Option (aC×ByteArray)
 | 0,_,_,_,_,_,_,_,_,_,_,_,_,_,_,_,_,_,_=>none
 | k+1,A,B,C,D,E,F,G,H,I,J,K,L,M,N,O,P,Q,R=>
 bif (decide (C<B)) then
 (idx J C).bind fun _=>
 (J[(Int.toNat C)]?).bind fun y21=>
 bif (y21.toList==(⟨#[]⟩:ByteArray).toList) then
 some ((⟨D,E,K,L,F,M,N⟩:aC),(⟨#[98,97,100]⟩:ByteArray))
 else
 kT k A B (IntKind.wrap .i64 (C+1)) D E F G H I J K L M N O P Q R
 else
 (idx J 0).bind fun _=>
 (J[(Int.toNat 0)]?).bind fun y22=>
 bif (y22.toList==(⟨#[119,111,114,108,100]⟩:ByteArray).toList) then
 bif ((J.length:Int) !=3) then
 some ((⟨D,E,K,L,F,M,N⟩:aC),(⟨#[98,97,100]⟩:ByteArray))
 else
 (idx J 2).bind fun _=>
 (J[(Int.toNat 2)]?).bind fun y23=>
 (mO k y23).bind fun r24=>
 bif (!r24.2) then
 some ((⟨D,E,K,L,F,M,N⟩:aC),(⟨#[98,97,100]⟩:ByteArray))
 else
 (idx J 1).bind fun _=>
 (J[(Int.toNat 1)]?).bind fun y25=>
 (nS k y25 r24.1).bind fun r26=>
 bif (r26.Width==0) then
 some ((⟨D,E,K,L,F,M,N⟩:aC),(⟨#[110,111]⟩:ByteArray))
 else
 some (r26,(⟨#[111,107]⟩:ByteArray))
 else
 pW k A D E F G H I J K L M N O P Q R
noncomputable def pW:Nat→ByteArray→ByteArray→Int→ByteArray→ByteArray→Int→ByteArray→List ByteArray→List aN→List aE→List aA→List aA→List aN→List aE→List aA→List aA→Option (aC×ByteArray)
 | 0,_,_,_,_,_,_,_,_,_,_,_,_,_,_,_,_=>none
 | k+1,A,B,C,D,E,F,G,H,I,J,K,L,M,N,O,P=>
 (wnd H.length 1 (H.length:Int)).bind fun p27=>
 kO k A p27.1 p27.2 ((iA H p27.1 p27.2).length:Int) 0 B C D E F G H ([]:List Int) I J K L M N O P
noncomputable def kO:Nat→ByteArray→Nat→Nat→Int→Int→ByteArray→Int→ByteArray→ByteArray→Int→ByteArray→List ByteArray→List Int→List aN→List aE→List aA→List aA→List aN→List aE→List aA→List aA→Option (aC×ByteArray)
 | 0,_,_,_,_,_,_,_,_,_,_,_,_,_,_,_,_,_,_,_,_,_=>none
 | k+1,A,B,C,D,E,F,G,H,I,J,K,L,M,N,O,P,Q,R,S,T,U=>
 bif (decide (E<D)) then
 (idx (iA L B C) E).bind fun _=>
 (L[(B+Int.toNat E)]?).bind fun y28=>
 (mO k y28).bind fun r29=>
 bif (!r29.2) then
 some ((⟨F,G,N,O,H,P,Q⟩:aC),(⟨#[98,97,100]⟩:ByteArray))
 else
 (app 8 M ([r29.1]:List Int)).bind fun l30=>
 kO k A B C D (IntKind.wrap .i64 (E+1)) F G H I J K L l30 N O P Q R S T U
 else
 (idx L 0).bind fun _=>
 (L[(Int.toNat 0)]?).bind fun y31=>
 optK (jP y31 impl_kinds) (
 m8 k A F G H I J K L M N O P Q R S T U
 ) (fun p32=>
 bif ((M.length:Int)==p32.2) then
 (app 8 M ([0,0,0]:List Int)).bind fun l33=>
 (idx l33 0).bind fun _=>
 (l33[(Int.toNat 0)]?).bind fun y34=>
 (idx l33 1).bind fun _=>
 (l33[(Int.toNat 1)]?).bind fun y35=>
 (idx l33 2).bind fun _=>
 (l33[(Int.toNat 2)]?).bind fun y36=>
 (s7 k (⟨F,G,N,O,H,P,Q⟩:aC) (⟨p32.1,y34,y35,y36,(⟨#[]⟩:ByteArray)⟩:bI)).bind fun r37=>
 (strconv_Itoa k (r37.Flight.length:Int)).bind fun r38=>
 some (r37,r38)
 else
 m8 k A F G H I J K L M N O P Q R S T U
 )
noncomputable def m8:Nat→ByteArray→ByteArray→Int→ByteArray→ByteArray→Int→ByteArray→List ByteArray→List Int→List aN→List aE→List aA→List aA→List aN→List aE→List aA→List aA→Option (aC×ByteArray)
 | 0,_,_,_,_,_,_,_,_,_,_,_,_,_,_,_,_,_=>none
 | k+1,A,B,C,D,E,F,G,H,I,J,K,L,M,N,O,P,Q=>
 (idx H 0).bind fun _=>
 (H[(Int.toNat 0)]?).bind fun y39=>
 bif (y39.toList==(⟨#[112,117,108,108]⟩:ByteArray).toList) then
 bif ((I.length:Int)==1) then
 (idx I 0).bind fun _=>
 (I[(Int.toNat 0)]?).bind fun y40=>
 bif (y40 !=1) then
 (idx I 0).bind fun _=>
 (I[(Int.toNat 0)]?).bind fun y41=>
 bif (y41 !=2) then
 some ((⟨B,C,J,K,D,L,M⟩:aC),(⟨#[99,111,100,101,32,49]⟩:ByteArray))
 else
 m7 k B C D E F G I J K L M N O P Q
 else
 m7 k B C D E F G I J K L M N O P Q
 else
 nH k A B C D E F G H I J K L M N O P Q
 else
 nH k A B C D E F G H I J K L M N O P Q
noncomputable def m7:Nat→ByteArray→Int→ByteArray→ByteArray→Int→ByteArray→List Int→List aN→List aE→List aA→List aA→List aN→List aE→List aA→List aA→Option (aC×ByteArray)
 | 0,_,_,_,_,_,_,_,_,_,_,_,_,_,_,_=>none
 | k+1,A,B,C,D,E,F,G,H,I,J,K,L,M,N,O=>
 both (
 (idx G 0).bind fun _=>
 (G[(Int.toNat 0)]?).bind fun y42=>
 (idx H (IntKind.wrap .i64 (y42-1))).bind fun _=>
 (H[(Int.toNat (IntKind.wrap .i64 (y42-1)))]?).bind fun y43=>
 (mT k y43).bind fun r44=>
 (idx G 0).bind fun _=>
 (G[(Int.toNat 0)]?).bind fun y45=>
 (s7 k (⟨A,B,H,I,C,J,K⟩:aC) (⟨11,y45,0,0,(⟨#[]⟩:ByteArray)⟩:bI)).bind fun r46=>
 bif (r44.Code !=0) then
 (strconv_Itoa k r44.Code).bind fun r47=>
 (dK (⟨#[99,111,100,101,32]⟩:ByteArray) r47).bind fun t48=>
 some (r46,t48)
 else
 iH k ((bC r44.Text).length:Int) 0 r46.Key r46.Width r46.Forged D E F (bC r44.Text) r46.Ends r46.Flight r46.Given r46.Taken L M N O
 ) (
 (idx G 0).bind fun _=>
 (G[(Int.toNat 0)]?).bind fun y49=>
 (idx H (IntKind.wrap .i64 (y49-1))).bind fun _=>
 (H[(Int.toNat (IntKind.wrap .i64 (y49-1)))]?).bind fun y50=>
 (mT k y50).bind fun r51=>
 (idx G 0).bind fun _=>
 (G[(Int.toNat 0)]?).bind fun y52=>
 (s7 k (⟨A,B,H,I,C,J,K⟩:aC) (⟨11,y52,0,0,(⟨#[]⟩:ByteArray)⟩:bI)).bind fun r53=>
 bif (r51.Code !=0) then
 (strconv_Itoa k r51.Code).bind fun r54=>
 (dK (⟨#[99,111,100,101,32]⟩:ByteArray) r54).bind fun t55=>
 some (r53,t55)
 else
 iH k ((bC r51.Text).length:Int) 0 r53.Key r53.Width r53.Forged D E F (bC r51.Text) r53.Ends r53.Flight r53.Given r53.Taken L M N O
 )
noncomputable def nH:Nat→ByteArray→ByteArray→Int→ByteArray→ByteArray→Int→ByteArray→List ByteArray→List Int→List aN→List aE→List aA→List aA→List aN→List aE→List aA→List aA→Option (aC×ByteArray)
 | 0,_,_,_,_,_,_,_,_,_,_,_,_,_,_,_,_,_=>none
 | k+1,A,B,C,D,E,F,G,H,I,J,K,L,M,N,O,P,Q=>
 (idx H 0).bind fun _=>
 (H[(Int.toNat 0)]?).bind fun y56=>
 bif (y56.toList==(⟨#[99,97,108,109]⟩:ByteArray).toList) then
 bif ((I.length:Int)==2) then
 (idx I 0).bind fun _=>
 (I[(Int.toNat 0)]?).bind fun y57=>
 bif (decide (y57>200)) then
 some ((⟨B,C,J,K,D,L,M⟩:aC),(⟨#[110,111]⟩:ByteArray))
 else
 (idx I 1).bind fun _=>
 (I[(Int.toNat 1)]?).bind fun y58=>
 bif (decide (y58<1)) then
 some ((⟨B,C,J,K,D,L,M⟩:aC),(⟨#[110,111]⟩:ByteArray))
 else
 (idx I 1).bind fun _=>
 (I[(Int.toNat 1)]?).bind fun y59=>
 bif (decide (y59>10)) then
 some ((⟨B,C,J,K,D,L,M⟩:aC),(⟨#[110,111]⟩:ByteArray))
 else
 (idx I 0).bind fun _=>
 (I[(Int.toNat 0)]?).bind fun y60=>
 (idx I 1).bind fun _=>
 (I[(Int.toNat 1)]?).bind fun y61=>
 (BV k (⟨B,C,J,K,D,L,M⟩:aC) y60 y61).bind fun r62=>
 (strconv_Itoa k (r62.Flight.length:Int)).bind fun r63=>
 some (r62,r63)
 else
 nF k A B C D E F G J K L M N O P Q
 else
 nF k A B C D E F G J K L M N O P Q
noncomputable def iH:Nat→Int→Int→ByteArray→Int→ByteArray→ByteArray→Int→ByteArray→List Int→List aN→List aE→List aA→List aA→List aN→List aE→List aA→List aA→Option (aC×ByteArray)
 | 0,_,_,_,_,_,_,_,_,_,_,_,_,_,_,_,_,_=>none
 | k+1,A,B,C,D,E,F,G,H,I,J,K,L,M,N,O,P,Q=>
 bif (decide (B<A)) then
 (idx I B).bind fun _=>
 (I[(Int.toNat B)]?).bind fun y64=>
 bif (decide (y64<32)) then
 (idx I B).bind fun _=>
 (I[(Int.toNat B)]?).bind fun y65=>
 kU k A B C D E F G H (I.set (Int.toNat B) 63) J K L M N O P Q
 else
 (idx I B).bind fun _=>
 (I[(Int.toNat B)]?).bind fun y66=>
 bif (decide (y66>126)) then
 (idx I B).bind fun _=>
 (I[(Int.toNat B)]?).bind fun y67=>
 kU k A B C D E F G H (I.set (Int.toNat B) 63) J K L M N O P Q
 else
 kU k A B C D E F G H I J K L M N O P Q
 else
 (dK (⟨#[103,111,116,32]⟩:ByteArray) (mD I)).bind fun t68=>
 some ((⟨C,D,J,K,E,L,M⟩:aC),t68)
noncomputable def nF:Nat→ByteArray→ByteArray→Int→ByteArray→ByteArray→Int→ByteArray→List aN→List aE→List aA→List aA→List aN→List aE→List aA→List aA→Option (aC×ByteArray)
 | 0,_,_,_,_,_,_,_,_,_,_,_,_,_,_,_=>none
 | k+1,A,B,C,D,E,F,G,H,I,J,K,L,M,N,O=>
 bif (A.toList==(⟨#[115,104,111,119]⟩:ByteArray).toList) then
 (idx H 0).bind fun _=>
 (H[(Int.toNat 0)]?).bind fun y69=>
 (wC k y69).bind fun r70=>
 (dK r70 (⟨#[44,32]⟩:ByteArray)).bind fun t71=>
 (idx H 1).bind fun _=>
 (H[(Int.toNat 1)]?).bind fun y72=>
 (wC k y72).bind fun r73=>
 (dK t71 r73).bind fun t74=>
 (yI k (⟨B,C,H,I,D,J,K⟩:aC)).bind fun r75=>
 bif r75 then
 (dK t74 (⟨#[32,114,105,103,104,116]⟩:ByteArray)).bind fun t76=>
 nE k t76 B C D E F G H I J K L M N O
 else
 (dK t74 (⟨#[32,119,114,111,110,103]⟩:ByteArray)).bind fun t77=>
 nE k t77 B C D E F G H I J K L M N O
 else
 some ((⟨B,C,H,I,D,J,K⟩:aC),(⟨#[98,97,100]⟩:ByteArray))
noncomputable def kU:Nat→Int→Int→ByteArray→Int→ByteArray→ByteArray→Int→ByteArray→List Int→List aN→List aE→List aA→List aA→List aN→List aE→List aA→List aA→Option (aC×ByteArray)
 | 0,_,_,_,_,_,_,_,_,_,_,_,_,_,_,_,_,_=>none
 | k+1,A,B,C,D,E,F,G,H,I,J,K,L,M,N,O,P,Q=>
 iH k A (IntKind.wrap .i64 (B+1)) C D E F G H I J K L M N O P Q
noncomputable def nE:Nat→ByteArray→ByteArray→Int→ByteArray→ByteArray→Int→ByteArray→List aN→List aE→List aA→List aA→List aN→List aE→List aA→List aA→Option (aC×ByteArray)
 | 0,_,_,_,_,_,_,_,_,_,_,_,_,_,_,_=>none
 | k+1,A,B,C,D,E,F,G,H,I,J,K,L,M,N,O=>
 (CE k (⟨B,C,H,I,D,J,K⟩:aC)).bind fun r78=>
 bif r78 then
 (dK A (⟨#[32,105,100,108,101]⟩:ByteArray)).bind fun t79=>
 nC k t79 B C D E F G H I J K L M N O
 else
 nC k A B C D E F G H I J K L M N O
noncomputable def nC:Nat→ByteArray→ByteArray→Int→ByteArray→ByteArray→Int→ByteArray→List aN→List aE→List aA→List aA→List aN→List aE→List aA→List aA→Option (aC×ByteArray)
 | 0,_,_,_,_,_,_,_,_,_,_,_,_,_,_,_=>none
 | k+1,A,B,C,D,E,F,G,H,I,J,K,L,M,N,O=>
 bif (!(D.toList==(⟨#[]⟩:ByteArray).toList)) then
 (dK A (⟨#[32,102,111,114,103,101,100]⟩:ByteArray)).bind fun t80=>
 m5 k t80 B C D E F G H I J K L M N O
 else
 m5 k A B C D E F G H I J K L M N O
noncomputable def m5:Nat→ByteArray→ByteArray→Int→ByteArray→ByteArray→Int→ByteArray→List aN→List aE→List aA→List aA→List aN→List aE→List aA→List aA→Option (aC×ByteArray)
 | 0,_,_,_,_,_,_,_,_,_,_,_,_,_,_,_=>none
 | k+1,A,B,C,D,E,F,G,H,I,J,K,L,M,N,O=>
 some ((⟨B,C,H,I,D,J,K⟩:aC),A)
end
noncomputable def CM (k:Nat) (a0:aC) (a1:ByteArray):Option (aC×ByteArray):=
 (strings_HasPrefix k a1 (⟨#[112,117,115,104,32]⟩:ByteArray)).bind fun r1=>
 bif r1 then
 (strings_SplitN k a1 (⟨#[32]⟩:ByteArray) 3).bind fun r2=>
 bif (decide ((r2.length:Int)<3)) then
 some (a0,(⟨#[98,97,100]⟩:ByteArray))
 else
 (idx r2 2).bind fun _=>
 (r2[(Int.toNat 2)]?).bind fun y3=>
 bif (y3.toList==(⟨#[]⟩:ByteArray).toList) then
 some (a0,(⟨#[98,97,100]⟩:ByteArray))
 else
 (idx r2 1).bind fun _=>
 (r2[(Int.toNat 1)]?).bind fun y4=>
 (mO k y4).bind fun r5=>
 bif (!r5.2) then
 some (a0,(⟨#[98,97,100]⟩:ByteArray))
 else
 bif (r5.1 !=1) then
 bif (r5.1 !=2) then
 some (a0,(⟨#[99,111,100,101,32,49]⟩:ByteArray))
 else
 (idx a0.Ends (IntKind.wrap .i64 (r5.1-1))).bind fun _=>
 (a0.Ends[(Int.toNat (IntKind.wrap .i64 (r5.1-1)))]?).bind fun y6=>
 (idx r2 2).bind fun _=>
 (r2[(Int.toNat 2)]?).bind fun y7=>
 (fW k y6 y7).bind fun r8=>
 (idx r2 2).bind fun _=>
 (r2[(Int.toNat 2)]?).bind fun y9=>
 (s7 k a0 (⟨10,r5.1,0,0,y9⟩:bI)).bind fun r10=>
 (strconv_Itoa k r8.Code).bind fun r11=>
 (dK (⟨#[99,111,100,101,32]⟩:ByteArray) r11).bind fun t12=>
 some (r10,t12)
 else
 (idx a0.Ends (IntKind.wrap .i64 (r5.1-1))).bind fun _=>
 (a0.Ends[(Int.toNat (IntKind.wrap .i64 (r5.1-1)))]?).bind fun y13=>
 (idx r2 2).bind fun _=>
 (r2[(Int.toNat 2)]?).bind fun y14=>
 (fW k y13 y14).bind fun r15=>
 (idx r2 2).bind fun _=>
 (r2[(Int.toNat 2)]?).bind fun y16=>
 (s7 k a0 (⟨10,r5.1,0,0,y16⟩:bI)).bind fun r17=>
 (strconv_Itoa k r15.Code).bind fun r18=>
 (dK (⟨#[99,111,100,101,32]⟩:ByteArray) r18).bind fun t19=>
 some (r17,t19)
 else
 (strings_Split k a1 (⟨#[32]⟩:ByteArray)).bind fun r20=>
 kT k a1 (r20.length:Int) 0 a0.Key a0.Width a0.Forged (⟨#[]⟩:ByteArray) 0 (⟨#[]⟩:ByteArray) r20 a0.Ends a0.Flight a0.Given a0.Taken ([]:List aN) ([]:List aE) ([]:List aA) ([]:List aA)
noncomputable def dE (k:Nat) (a0:cW) (a1:ByteArray):Option (Int×Unit×cW):=
 (oG k a0).bind fun r1=>
 (app 1 r1.buf (bC a1)).bind fun l2=>
 some ((a1.size:Int),(),(⟨true,l2⟩:cW))
mutual
noncomputable def hU:Nat→ByteArray→List ByteArray→Option (ByteArray)
 | 0,_,_=>none
 | k+1,A,B=>
 bif (decide ((A.size:Int)>20000)) then
 some (⟨#[116,111,111,32,108,111,110,103,10]⟩:ByteArray)
 else
 bif (decide ((B.length:Int)>400)) then
 some (⟨#[116,111,111,32,108,111,110,103,10]⟩:ByteArray)
 else
 (nS k (⟨#[107]⟩:ByteArray) 8).bind fun r4=>
 gR k (B.length:Int) 0 r4.Key r4.Width r4.Forged false B r4.Ends r4.Flight r4.Given r4.Taken ([]:List Int)
noncomputable def gR:Nat→Int→Int→ByteArray→Int→ByteArray→Bool→List ByteArray→List aN→List aE→List aA→List aA→List Int→Option (ByteArray)
 | 0,_,_,_,_,_,_,_,_,_,_,_,_=>none
 | k+1,A,B,C,D,E,F,G,H,I,J,K,L=>
 bif (decide (B<A)) then
 (idx G B).bind fun _=>
 (G[(Int.toNat B)]?).bind fun y5=>
 (CM k (⟨C,D,H,I,E,J,K⟩:aC) y5).bind fun r6=>
 (dK r6.2 (⟨#[10]⟩:ByteArray)).bind fun t7=>
 (dE k (⟨F,L⟩:cW) t7).bind fun r8=>
 gR k A (IntKind.wrap .i64 (B+1)) r6.1.Key r6.1.Width r6.1.Forged true G r6.1.Ends r6.1.Flight r6.1.Given r6.1.Taken r8.2.2.buf
 else
 (lC k (⟨F,L⟩:cW)).bind fun r9=>
 some r9
end
noncomputable def o6 (k:Nat) (a0:ByteArray):Option (ByteArray):=
 (strings_Split k a0 (⟨#[10]⟩:ByteArray)).bind fun r1=>
 (idx r1 (IntKind.wrap .i64 ((r1.length:Int)-1))).bind fun _=>
 (r1[(Int.toNat (IntKind.wrap .i64 ((r1.length:Int)-1)))]?).bind fun y2=>
 bif (y2.toList==(⟨#[]⟩:ByteArray).toList) then
 (wnd r1.length 0 (IntKind.wrap .i64 ((r1.length:Int)-1))).bind fun p3=>
 hU k a0 (iA r1 p3.1 p3.2)
 else
 hU k a0 r1
mutual
noncomputable def j4:Nat→List Int→Int→Option (ByteArray×bF)
 | 0,_,_=>none
 | k+1,A,B=>
 some ((⟨#[115,104,111,119]⟩:ByteArray),(⟨A,B⟩:bF))
noncomputable def nA:Nat→Int→List Int→Int→Int→Int→Int→Int→ByteArray→Option (ByteArray×bF)
 | 0,_,_,_,_,_,_,_,_=>none
 | k+1,A,B,C,D,E,F,G,H=>
 bif (A==2) then
 (aO k (⟨B,C⟩:bF) 20).bind fun r3=>
 (aW k r3.1).bind fun r4=>
 (dK (⟨#[99,97,108,109,32]⟩:ByteArray) r4).bind fun t5=>
 (dK t5 (⟨#[32]⟩:ByteArray)).bind fun t6=>
 (aO k r3.2 3).bind fun r7=>
 (aW k (IntKind.wrap .i64 (1+r7.1))).bind fun r8=>
 (dK t6 r8).bind fun t9=>
 some (t9,r7.2)
 else
 bif (A==3) then
 (aO k (⟨B,C⟩:bF) 24).bind fun r10=>
 (idx ([(⟨#[99,97,108,109,32,50,48,49,32,49]⟩:ByteArray),(⟨#[99,97,108,109,32,50,48,48,32,49,49]⟩:ByteArray),(⟨#[99,97,108,109,32,49,32,48]⟩:ByteArray),(⟨#[99,97,108,109,32,53]⟩:ByteArray),(⟨#[116,105,99,107,32,49]⟩:ByteArray),(⟨#[98,114,105,110,103]⟩:ByteArray),(⟨#[98,114,105,110,103,32,120]⟩:ByteArray),(⟨#[112,117,115,104,32,49]⟩:ByteArray),(⟨#[112,117,115,104,32,49,32]⟩:ByteArray),(⟨#[112,117,115,104,32,51,32,120]⟩:ByteArray),(⟨#[112,117,115,104,32,120,32,121]⟩:ByteArray),(⟨#[112,117,115,104,32,32,49,32,97]⟩:ByteArray),(⟨#[112,117,108,108,32,48]⟩:ByteArray),(⟨#[112,117,108,108]⟩:ByteArray),(⟨#[119,111,114,108,100,32,107,32,57]⟩:ByteArray),(⟨#[119,111,114,108,100,32,107,32,48]⟩:ByteArray),(⟨#[119,111,114,108,100,32,107,32,50]⟩:ByteArray),(⟨#[119,111,114,108,100,32,32,49]⟩:ByteArray),(⟨#[]⟩:ByteArray),(⟨#[115,104,111,119,32]⟩:ByteArray),(⟨#[99,117,116,32,48]⟩:ByteArray),(⟨#[98,101,110,100,32,48,32,48]⟩:ByteArray),(⟨#[114,105,115,101,32,45,49]⟩:ByteArray),(⟨#[108,111,115,101,32,49,50,51,52,53,54,55]⟩:ByteArray)]:List ByteArray) r10.1).bind fun y11=>
 some (y11,r10.2)
 else
 bif (D==1) then
 some ((⟨#[116,105,99,107]⟩:ByteArray),(⟨B,C⟩:bF))
 else
 bif (D==2) then
 (aW k E).bind fun r12=>
 (dK (⟨#[98,114,105,110,103,32]⟩:ByteArray) r12).bind fun t13=>
 some (t13,(⟨B,C⟩:bF))
 else
 bif (D==3) then
 (aW k E).bind fun r14=>
 (dK (⟨#[100,111,117,98,108,101,32]⟩:ByteArray) r14).bind fun t15=>
 some (t15,(⟨B,C⟩:bF))
 else
 bif (D==4) then
 (aW k E).bind fun r16=>
 (dK (⟨#[108,111,115,101,32]⟩:ByteArray) r16).bind fun t17=>
 some (t17,(⟨B,C⟩:bF))
 else
 bif (D==5) then
 (aW k E).bind fun r18=>
 (dK (⟨#[98,101,110,100,32]⟩:ByteArray) r18).bind fun t19=>
 (dK t19 (⟨#[32]⟩:ByteArray)).bind fun t20=>
 (aW k F).bind fun r21=>
 (dK t20 r21).bind fun t22=>
 (dK t22 (⟨#[32]⟩:ByteArray)).bind fun t23=>
 (aW k G).bind fun r24=>
 (dK t23 r24).bind fun t25=>
 some (t25,(⟨B,C⟩:bF))
 else
 bif (D==6) then
 (aW k E).bind fun r26=>
 (dK (⟨#[99,117,116,32]⟩:ByteArray) r26).bind fun t27=>
 (dK t27 (⟨#[32]⟩:ByteArray)).bind fun t28=>
 (aW k F).bind fun r29=>
 (dK t28 r29).bind fun t30=>
 some (t30,(⟨B,C⟩:bF))
 else
 bif (D==7) then
 (aW k E).bind fun r31=>
 (dK (⟨#[116,117,114,110,32]⟩:ByteArray) r31).bind fun t32=>
 some (t32,(⟨B,C⟩:bF))
 else
 bif (D==8) then
 (aW k E).bind fun r33=>
 (dK (⟨#[102,97,108,108,32]⟩:ByteArray) r33).bind fun t34=>
 some (t34,(⟨B,C⟩:bF))
 else
 bif (D==9) then
 (aW k E).bind fun r35=>
 (dK (⟨#[114,105,115,101,32]⟩:ByteArray) r35).bind fun t36=>
 some (t36,(⟨B,C⟩:bF))
 else
 bif (D==10) then
 (aW k E).bind fun r37=>
 (dK (⟨#[112,117,115,104,32]⟩:ByteArray) r37).bind fun t38=>
 (dK t38 (⟨#[32]⟩:ByteArray)).bind fun t39=>
 (dK t39 H).bind fun t40=>
 (dK t40 (⟨#[46]⟩:ByteArray)).bind fun t41=>
 some (t41,(⟨B,C⟩:bF))
 else
 (aW k E).bind fun r42=>
 (dK (⟨#[112,117,108,108,32]⟩:ByteArray) r42).bind fun t43=>
 some (t43,(⟨B,C⟩:bF))
end
noncomputable def rZ (k:Nat) (a0:bF):Option (ByteArray×bF):=
 (sR k a0).bind fun r1=>
 (aO k r1.2 14).bind fun r2=>
 bif (r2.1==0) then
 j4 k r2.2.b r2.2.p
 else
 bif (r2.1==1) then
 j4 k r2.2.b r2.2.p
 else
 nA k r2.1 r2.2.b r2.2.p r1.1.Kind r1.1.A r1.1.B r1.1.C r1.1.Text
mutual
noncomputable def eZ:Nat→ByteArray→List Int→Int→Option (ByteArray)
 | 0,_,_,_=>none
 | k+1,A,B,C=>
 (aO k (⟨B,C⟩:bF) 4).bind fun r3=>
 bif (r3.1==0) then
 (aO k r3.2 8).bind fun r4=>
 (aW k (IntKind.wrap .i64 (1+r4.1))).bind fun r5=>
 (dK (⟨#[119,111,114,108,100,32,107,101,121,32]⟩:ByteArray) r5).bind fun t6=>
 (dK t6 (⟨#[10]⟩:ByteArray)).bind fun t7=>
 (dK t7 A).bind fun t8=>
 fE k t8 r4.2.b r4.2.p
 else
 fE k A r3.2.b r3.2.p
noncomputable def fE:Nat→ByteArray→List Int→Int→Option (ByteArray)
 | 0,_,_,_=>none
 | k+1,A,B,C=>
 (aO k (⟨B,C⟩:bF) 30).bind fun r9=>
 dN k A (IntKind.wrap .i64 (6+r9.1)) r9.2.b r9.2.p
noncomputable def dN:Nat→ByteArray→Int→List Int→Int→Option (ByteArray)
 | 0,_,_,_,_=>none
 | k+1,A,B,C,D=>
 bif (decide (B>0)) then
 (rZ k (⟨C,D⟩:bF)).bind fun r10=>
 (dK A r10.1).bind fun t11=>
 (dK t11 (⟨#[10]⟩:ByteArray)).bind fun t12=>
 dN k t12 (IntKind.wrap .i64 (B-1)) r10.2.b r10.2.p
 else
 (aO k (⟨C,D⟩:bF) 30).bind fun r13=>
 bif (decide (r13.1<4)) then
 (uN k r13.2 A).bind fun r14=>
 some r14.1
 else
 bif (r13.1==4) then
 (aO k r13.2 30).bind fun r15=>
 (mC k (⟨#[115,104,111,119,10]⟩:ByteArray) (IntKind.wrap .i64 (366+r15.1))).bind fun r16=>
 (dK A r16).bind fun t17=>
 some t17
 else
 bif (r13.1==5) then
 bif (decide ((A.size:Int)<20000)) then
 (aO k r13.2 2).bind fun r18=>
 (mC k (⟨#[120]⟩:ByteArray) (IntKind.wrap .i64 ((IntKind.wrap .i64 (20000-(A.size:Int)))+r18.1))).bind fun r19=>
 (dK A r19).bind fun t20=>
 some t20
 else
 some A
 else
 some A
end
noncomputable def lW (k:Nat) (a0:List Int):Option (ByteArray):=
 (vF k a0).bind fun r1=>
 (aO k r1 3).bind fun r2=>
 bif (decide (r2.1>0)) then
 eZ k (⟨#[99,97,108,109,32,56,32,49,10]⟩:ByteArray) r2.2.b r2.2.p
 else
 eZ k (⟨#[]⟩:ByteArray) r2.2.b r2.2.p
mutual
noncomputable def gP:Nat→ByteArray→Int→ByteArray→Int→Option (Bool)
 | 0,_,_,_,_=>none
 | k+1,A,B,C,D=>
 bif (decide (D<(A.size:Int))) then
 (zN A D).bind fun c3=>
 bif ((c3.toNat:Int)==10) then
 bif (decide ((IntKind.wrap .i64 (B-1))<0)) then
 (wnd A.size 0 (IntKind.wrap .i64 (D+1))).bind fun p4=>
 i8 k A (A.extract p4.1 p4.2)
 else
 jZ k A (IntKind.wrap .i64 (B-1)) C D
 else
 jZ k A B C D
 else
 i8 k A C
noncomputable def i8:Nat→ByteArray→ByteArray→Option (Bool)
 | 0,_,_=>none
 | k+1,A,B=>
 (o6 k B).bind fun r5=>
 (o6 k A).bind fun r6=>
 (pC k B).bind fun r7=>
 (pC k A).bind fun r8=>
 bif (decide ((r7.size:Int)>(r8.size:Int))) then
 bif (r6.toList==r8.toList) then
 some (r5.toList==r7.toList)
 else
 some false
 else
 (wnd r8.size 0 (r7.size:Int)).bind fun p9=>
 bif (!((r8.extract p9.1 p9.2).toList==r7.toList)) then
 bif (r6.toList==r8.toList) then
 some (r5.toList==r7.toList)
 else
 some false
 else
 bif (r5.toList==r7.toList) then
 bif ((r6.size:Int)==(r8.size:Int)) then
 (wnd r6.size 0 (r5.size:Int)).bind fun p10=>
 some ((r6.extract p10.1 p10.2).toList==r5.toList)
 else
 some false
 else
 some false
noncomputable def jZ:Nat→ByteArray→Int→ByteArray→Int→Option (Bool)
 | 0,_,_,_,_=>none
 | k+1,A,B,C,D=>
 gP k A B C (IntKind.wrap .i64 (D+1))
end
noncomputable def rW (k:Nat) (a0:List Int):Option (Bool):=
 bif (decide ((a0.length:Int)>1048576)) then
 some true
 else
 (lW k a0).bind fun r1=>
 (J0 (a0.length:Int) 25).bind fun q2=>
 gP k r1 q2 r1 0
end Km.X
