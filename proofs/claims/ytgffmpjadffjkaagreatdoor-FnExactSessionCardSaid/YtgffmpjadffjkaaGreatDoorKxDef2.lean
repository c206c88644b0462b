/- A part of the proof of FnExactSession: the functions that it reads off the program. There is no condition. -/
import Derived.Test.YtgffmpjadffjkaaGreatDoorKxDef1
import Derived.Lib.Strings
import Derived.Lib.Split
import Derived.Lib.ItoaNum
import Derived.Lib.AtoiAll
set_option linter.unusedVariables false
namespace Km.X
open Go Km
set_option maxRecDepth 100000
noncomputable def nF (k:Nat) (a0:ByteArray) (a1:Int):Option (aC):=
 bif (decide (a1<1)) then
 some (⟨(⟨#[]⟩:ByteArray),0,([]:List aN),([]:List aD),(⟨#[]⟩:ByteArray),([]:List aA),([]:List aA)⟩:aC)
 else
 bif (decide (a1>8)) then
 some (⟨(⟨#[]⟩:ByteArray),0,([]:List aN),([]:List aD),(⟨#[]⟩:ByteArray),([]:List aA),([]:List aA)⟩:aC)
 else
 bif (decide ((a0.size:Int)>30)) then
 some (⟨(⟨#[]⟩:ByteArray),0,([]:List aN),([]:List aD),(⟨#[]⟩:ByteArray),([]:List aA),([]:List aA)⟩:aC)
 else
 (qD k 1).bind fun r1=>
 (qD k 2).bind fun r2=>
 some (⟨a0,a1,([r1,r2]:List aN),([]:List aD),(⟨#[]⟩:ByteArray),([]:List aA),([]:List aA)⟩:aC)
noncomputable def mV (k:Nat) (a0:ByteArray) (a1:Int):Option (aC):=
 (aZ k a1 1 8).bind fun r1=>
 bif (!r1) then
 some (⟨(⟨#[]⟩:ByteArray),0,([]:List aN),([]:List aD),(⟨#[]⟩:ByteArray),([]:List aA),([]:List aA)⟩:aC)
 else
 bif (decide ((a0.size:Int)>30)) then
 some (⟨(⟨#[]⟩:ByteArray),0,([]:List aN),([]:List aD),(⟨#[]⟩:ByteArray),([]:List aA),([]:List aA)⟩:aC)
 else
 (qO k 1).bind fun r2=>
 (qO k 2).bind fun r3=>
 some (⟨a0,a1,([r2,r3]:List aN),([]:List aD),(⟨#[]⟩:ByteArray),([]:List aA),([]:List aA)⟩:aC)
mutual
noncomputable def d7:Nat→List aN→Int→Int→ByteArray→Int→List aN→List aD→ByteArray→List aA→List aA→Option (Bool)
 | 0,_,_,_,_,_,_,_,_,_,_=>none
 | k+1,A,B,C,D,E,F,G,H,I,J=>
 bif (decide (C<B)) then
 (idx A C).bind fun y1=>
 (dU k y1).bind fun r2=>
 bif (!r2) then
 some false
 else
 bif (y1.Number !=(IntKind.wrap .i64 (C+1))) then
 some false
 else
 d7 k A B (IntKind.wrap .i64 (C+1)) D E F G H I J
 else
 cB k G (G.length:Int) 0 D E F G H I J
noncomputable def cB:Nat→List aD→Int→Int→ByteArray→Int→List aN→List aD→ByteArray→List aA→List aA→Option (Bool)
 | 0,_,_,_,_,_,_,_,_,_,_=>none
 | k+1,A,B,C,D,E,F,G,H,I,J=>
 bif (decide (C<B)) then
 (idx A C).bind fun y3=>
 bif (y3.To !=1) then
 bif (y3.To !=2) then
 some false
 else
 bif (decide ((y3.Sent.size:Int)>100)) then
 some false
 else
 bif (decide ((y3.Bytes.size:Int)>100)) then
 some false
 else
 cB k A B (IntKind.wrap .i64 (C+1)) D E F G H I J
 else
 bif (decide ((y3.Sent.size:Int)>100)) then
 some false
 else
 bif (decide ((y3.Bytes.size:Int)>100)) then
 some false
 else
 cB k A B (IntKind.wrap .i64 (C+1)) D E F G H I J
 else
 cE k (([I,J]:List (List aA)).length:Int) 0 ([I,J]:List (List aA))
noncomputable def cE:Nat→Int→Int→List (List aA)→Option (Bool)
 | 0,_,_,_=>none
 | k+1,A,B,C=>
 bif (decide (B<A)) then
 (idx C B).bind fun _=>
 (C[(Int.toNat B)]?).bind fun y4=>
 cC k A B y4 (y4.length:Int) 0 C
 else
 some true
noncomputable def cC:Nat→Int→Int→List aA→Int→Int→List (List aA)→Option (Bool)
 | 0,_,_,_,_,_,_=>none
 | k+1,A,B,C,D,E,F=>
 bif (decide (E<D)) then
 (idx C E).bind fun y5=>
 bif (y5.From !=1) then
 bif (y5.From !=2) then
 some false
 else
 (bP k y5.A 1 1000).bind fun r6=>
 bif (!r6) then
 some false
 else
 (bP k y5.B 1 1000).bind fun r7=>
 bif (!r7) then
 some false
 else
 bif (decide ((y5.Text.size:Int)>200)) then
 some false
 else
 cC k A B C D (IntKind.wrap .i64 (E+1)) F
 else
 (bP k y5.A 1 1000).bind fun r8=>
 bif (!r8) then
 some false
 else
 (bP k y5.B 1 1000).bind fun r9=>
 bif (!r9) then
 some false
 else
 bif (decide ((y5.Text.size:Int)>200)) then
 some false
 else
 cC k A B C D (IntKind.wrap .i64 (E+1)) F
 else
 cE k A (IntKind.wrap .i64 (B+1)) F
end
noncomputable def eX (k:Nat) (a0:aC):Option (Bool):=
 bif (decide (a0.Width<1)) then
 some false
 else
 bif (decide (a0.Width>8)) then
 some false
 else
 bif (decide ((a0.Key.size:Int)>30)) then
 some false
 else
 bif ((a0.Ends.length:Int) !=2) then
 some false
 else
 bif (decide ((a0.Flight.length:Int)>1000)) then
 some false
 else
 bif (decide ((IntKind.wrap .i64 ((a0.Given.length:Int)+(a0.Taken.length:Int)))>400)) then
 some false
 else
 d7 k a0.Ends (a0.Ends.length:Int) 0 a0.Key a0.Width a0.Ends a0.Flight a0.Forged a0.Given a0.Taken
noncomputable def eU:Nat→Int→Int→ByteArray→Int→List aD→ByteArray→List aA→List aA→ByteArray→Int→ByteArray→List aN→List aN→List aD→List aA→List aA→Option (aC)
 | 0,_,_,_,_,_,_,_,_,_,_,_,_,_,_,_,_=>none
 | k+1,A,B,C,D,E,F,G,H,I,J,K,L,M,N,O,P=>
 bif (decide (B<A)) then
 (idx L B).bind fun _=>
 (L[(Int.toNat B)]?).bind fun y2=>
 (gC k y2).bind fun r3=>
 (idx L B).bind fun _=>
 (L[(Int.toNat B)]?).bind fun y4=>
 eU k A (IntKind.wrap .i64 (B+1)) C D E F G H I J K (L.set (Int.toNat B) r3) M N O P
 else
 (app 40 ([]:List aD) E).bind fun l5=>
 (app 40 ([]:List aA) G).bind fun l6=>
 (app 40 ([]:List aA) H).bind fun l7=>
 some (⟨C,D,L,l5,F,l6,l7⟩:aC)
noncomputable def kY (k:Nat) (a0:aC):Option (aC):=
 (app 152 ([]:List aN) a0.Ends).bind fun l1=>
 eU k (l1.length:Int) 0 a0.Key a0.Width a0.Flight a0.Forged a0.Given a0.Taken (⟨#[]⟩:ByteArray) 0 (⟨#[]⟩:ByteArray) l1 ([]:List aN) ([]:List aD) ([]:List aA) ([]:List aA)
mutual
noncomputable def cN:Nat→Int→Int→ByteArray→Int→ByteArray→List aN→List aD→List aA→List aA→Option (aC)
 | 0,_,_,_,_,_,_,_,_,_=>none
 | k+1,A,B,C,D,E,F,G,H,I=>
 bif (decide (B<A)) then
 (idx F B).bind fun _=>
 (F[(Int.toNat B)]?).bind fun y1=>
 (rS k y1).bind fun r2=>
 (idx F B).bind fun _=>
 (F[(Int.toNat B)]?).bind fun y3=>
 eA k B A B (r2.Out.length:Int) 0 C D E r2.Out (F.set (Int.toNat B) r2.End) G H I
 else
 some (⟨C,D,F,G,E,H,I⟩:aC)
noncomputable def eA:Nat→Int→Int→Int→Int→Int→ByteArray→Int→ByteArray→List aE→List aN→List aD→List aA→List aA→Option (aC)
 | 0,_,_,_,_,_,_,_,_,_,_,_,_,_=>none
 | k+1,A,B,C,D,E,F,G,H,I,J,K,L,M=>
 bif (decide (E<D)) then
 (idx I E).bind fun _=>
 (I[(Int.toNat E)]?).bind fun y4=>
 bif (decide ((K.length:Int)<1000)) then
 (gK k y4 F G).bind fun r5=>
 (app 40 K ([(⟨(IntKind.wrap .i64 (2-A)),r5,r5⟩:aD)]:List aD)).bind fun l6=>
 fB k A B C D E F G H I J l6 L M
 else
 fB k A B C D E F G H I J K L M
 else
 cN k B (IntKind.wrap .i64 (C+1)) F G H J K L M
noncomputable def fB:Nat→Int→Int→Int→Int→Int→ByteArray→Int→ByteArray→List aE→List aN→List aD→List aA→List aA→Option (aC)
 | 0,_,_,_,_,_,_,_,_,_,_,_,_,_=>none
 | k+1,A,B,C,D,E,F,G,H,I,J,K,L,M=>
 eA k A B C D (IntKind.wrap .i64 (E+1)) F G H I J K L M
end
noncomputable def j7 (k:Nat) (a0:aC):Option (aC):=
 cN k (a0.Ends.length:Int) 0 a0.Key a0.Width a0.Forged a0.Ends a0.Flight a0.Given a0.Taken
noncomputable def dN:Nat→ByteArray→Int→ByteArray→Int→ByteArray→ByteArray→Int→Int→Int→Int→Int→Int→Int→Bool→ByteArray→List aN→List aD→List aA→List aA→Option (aC)
 | 0,_,_,_,_,_,_,_,_,_,_,_,_,_,_,_,_,_,_,_=>none
 | k+1,A,B,C,D,E,F,G,H,I,J,K,L,M,N,O,P,Q,R,S=>
 (idx P (IntKind.wrap .i64 (D-1))).bind fun _=>
 (P[(Int.toNat (IntKind.wrap .i64 (D-1)))]?).bind fun y2=>
 (rX k y2 (⟨G,H,I,J,K,L,M,N,O⟩:aE)).bind fun r3=>
 (idx P (IntKind.wrap .i64 (D-1))).bind fun _=>
 (P[(Int.toNat (IntKind.wrap .i64 (D-1)))]?).bind fun y4=>
 some (⟨A,B,(P.set (Int.toNat (IntKind.wrap .i64 (D-1))) r3.End),Q,C,R,S⟩:aC)
noncomputable def fK (k:Nat) (a0:aC) (a1:aD):Option (aC):=
 (mS k a1.Bytes a0.Key a0.Width).bind fun r1=>
 bif (!r1.2) then
 some a0
 else
 bif (!(a1.Bytes.toList==a1.Sent.toList)) then
 bif (a0.Forged.toList==(⟨#[]⟩:ByteArray).toList) then
 dN k a0.Key a0.Width a1.Bytes a1.To a1.Sent a1.Bytes r1.1.Kind r1.1.From r1.1.Mine r1.1.Yours r1.1.Next r1.1.Mask r1.1.Seq r1.1.Last r1.1.Part a0.Ends a0.Flight a0.Given a0.Taken
 else
 dN k a0.Key a0.Width a0.Forged a1.To a1.Sent a1.Bytes r1.1.Kind r1.1.From r1.1.Mine r1.1.Yours r1.1.Next r1.1.Mask r1.1.Seq r1.1.Last r1.1.Part a0.Ends a0.Flight a0.Given a0.Taken
 else
 dN k a0.Key a0.Width a0.Forged a1.To a1.Sent a1.Bytes r1.1.Kind r1.1.From r1.1.Mine r1.1.Yours r1.1.Next r1.1.Mask r1.1.Seq r1.1.Last r1.1.Part a0.Ends a0.Flight a0.Given a0.Taken
noncomputable def j4 (k:Nat) (a0:aC):Option (Bool×aC):=
 some ((decide ((IntKind.wrap .i64 ((a0.Given.length:Int)+(a0.Taken.length:Int)))≥400)),a0)
noncomputable def jP (k:Nat) (a0:aC) (a1:Int):Option (aC):=
 (j4 k a0).bind fun r1=>
 bif r1.1 then
 some r1.2
 else
 (idx r1.2.Ends (IntKind.wrap .i64 (a1-1))).bind fun _=>
 (r1.2.Ends[(Int.toNat (IntKind.wrap .i64 (a1-1)))]?).bind fun y2=>
 (mE k y2).bind fun r3=>
 bif (r3.Code==0) then
 (idx r1.2.Ends (IntKind.wrap .i64 (a1-1))).bind fun _=>
 (r1.2.Ends[(Int.toNat (IntKind.wrap .i64 (a1-1)))]?).bind fun y4=>
 (idx r1.2.Ends (IntKind.wrap .i64 (a1-1))).bind fun _=>
 (r1.2.Ends[(Int.toNat (IntKind.wrap .i64 (a1-1)))]?).bind fun y5=>
 (app 40 r1.2.Taken ([(⟨(IntKind.wrap .i64 (3-a1)),y4.Peer,y4.Life,r3.Text⟩:aA)]:List aA)).bind fun l6=>
 some (⟨r1.2.Key,r1.2.Width,(r1.2.Ends.set (Int.toNat (IntKind.wrap .i64 (a1-1))) r3.End),r1.2.Flight,r1.2.Forged,r1.2.Given,l6⟩:aC)
 else
 some r1.2
mutual
noncomputable def tE:Nat→Bool→Int→Int→Int→Int→ByteArray→ByteArray→Int→ByteArray→ByteArray→Int→ByteArray→List aN→List aD→List aA→List aA→List aN→List aD→List aA→List aA→Option (aC)
 | 0,_,_,_,_,_,_,_,_,_,_,_,_,_,_,_,_,_,_,_,_=>none
 | k+1,A,B,C,D,E,F,G,H,I,J,K,L,M,N,O,P,Q,R,S,T=>
 bif (decide (C≥0)) then
 tF k A (decide (C<(R.length:Int))) B C D E F G H I J K L M N O P Q R S T
 else
 tF k A false B C D E F G H I J K L M N O P Q R S T
noncomputable def tF:Nat→Bool→Bool→Int→Int→Int→Int→ByteArray→ByteArray→Int→ByteArray→ByteArray→Int→ByteArray→List aN→List aD→List aA→List aA→List aN→List aD→List aA→List aA→Option (aC)
 | 0,_,_,_,_,_,_,_,_,_,_,_,_,_,_,_,_,_,_,_,_,_=>none
 | k+1,A,B,C,D,E,F,G,H,I,J,K,L,M,N,O,P,Q,R,S,T,U=>
 bif (C==1) then
 (j7 k (⟨K,L,R,S,M,T,U⟩:aC)).bind fun r3=>
 aR k H I J r3.Key r3.Width r3.Forged N O P Q r3.Ends r3.Flight r3.Given r3.Taken
 else
 bif (C==2) then
 rB k B C D E F G H I J K L M N O P Q R S T U
 else
 bif (C==4) then
 rB k B C D E F G H I J K L M N O P Q R S T U
 else
 tZ k A B C C D E F G H I J K L M N O P Q R S T U
noncomputable def aR:Nat→ByteArray→Int→ByteArray→ByteArray→Int→ByteArray→List aN→List aD→List aA→List aA→List aN→List aD→List aA→List aA→Option (aC)
 | 0,_,_,_,_,_,_,_,_,_,_,_,_,_,_=>none
 | k+1,A,B,C,D,E,F,G,H,I,J,K,L,M,N=>
 some (⟨D,E,K,L,F,M,N⟩:aC)
noncomputable def rB:Nat→Bool→Int→Int→Int→Int→ByteArray→ByteArray→Int→ByteArray→ByteArray→Int→ByteArray→List aN→List aD→List aA→List aA→List aN→List aD→List aA→List aA→Option (aC)
 | 0,_,_,_,_,_,_,_,_,_,_,_,_,_,_,_,_,_,_,_,_=>none
 | k+1,A,B,C,D,E,F,G,H,I,J,K,L,M,N,O,P,Q,R,S,T=>
 bif A then
 (idx R C).bind fun _=>
 (R[(Int.toNat C)]?).bind fun y4=>
 (if (C:Int)=C then wnd R.length 0 C else none).bind fun p5=>
 (wnd R.length (IntKind.wrap .i64 (C+1)) (R.length:Int)).bind fun p6=>
 (app 40 (iF R p5.1 p5.2) (iF R p6.1 p6.2)).bind fun l7=>
 bif (B==2) then
 (fK k (⟨J,K,Q,l7,L,S,T⟩:aC) y4).bind fun r8=>
 aR k G H I r8.Key r8.Width r8.Forged M N O P r8.Ends r8.Flight r8.Given r8.Taken
 else
 aR k G H I J K L M N O P Q l7 S T
 else
 aR k G H I J K L M N O P Q R S T
noncomputable def tZ:Nat→Bool→Bool→Int→Int→Int→Int→Int→ByteArray→ByteArray→Int→ByteArray→ByteArray→Int→ByteArray→List aN→List aD→List aA→List aA→List aN→List aD→List aA→List aA→Option (aC)
 | 0,_,_,_,_,_,_,_,_,_,_,_,_,_,_,_,_,_,_,_,_,_,_=>none
 | k+1,A,B,C,D,E,F,G,H,I,J,K,L,M,N,O,P,Q,R,S,T,U,V=>
 bif (C==3) then
 bif B then
 bif (decide ((T.length:Int)<1000)) then
 (idx T E).bind fun _=>
 (T[(Int.toNat E)]?).bind fun y9=>
 (app 40 T ([y9]:List aD)).bind fun l10=>
 aR k I J K L M N O P Q R S l10 U V
 else
 aR k I J K L M N O P Q R S T U V
 else
 aR k I J K L M N O P Q R S T U V
 else
 bif (C==5) then
 bif B then
 bif (decide (G≥0)) then
 bif (decide (F≥0)) then
 (idx T E).bind fun _=>
 (T[(Int.toNat E)]?).bind fun y11=>
 bif (decide (F<(y11.Bytes.size:Int))) then
 (idx T E).bind fun _=>
 (T[(Int.toNat E)]?).bind fun y12=>
 (idx (bB y12.Bytes) F).bind fun _=>
 ((bB y12.Bytes)[(Int.toNat F)]?).bind fun y13=>
 (KP G 256).bind fun q14=>
 (idx (bB y12.Bytes) F).bind fun _=>
 ((bB y12.Bytes)[(Int.toNat F)]?).bind fun y15=>
 (idx T E).bind fun _=>
 (T[(Int.toNat E)]?).bind fun y16=>
 aR k I J K L M N O P Q R S (T.set (Int.toNat E) (⟨y16.To,y16.Sent,(m6 ((bB y12.Bytes).set (Int.toNat F) (w6 .u8 y13 (IntKind.wrap .u8 q14))))⟩:aD)) U V
 else
 aR k I J K L M N O P Q R S T U V
 else
 aR k I J K L M N O P Q R S T U V
 else
 aR k I J K L M N O P Q R S T U V
 else
 aR k I J K L M N O P Q R S T U V
 else
 bif (C==6) then
 bif B then
 bif (decide (F≥0)) then
 (idx T E).bind fun _=>
 (T[(Int.toNat E)]?).bind fun y17=>
 bif (decide (F≤(y17.Bytes.size:Int))) then
 (idx T E).bind fun _=>
 (T[(Int.toNat E)]?).bind fun y18=>
 (wnd y18.Bytes.size 0 F).bind fun p19=>
 (idx T E).bind fun _=>
 (T[(Int.toNat E)]?).bind fun y20=>
 aR k I J K L M N O P Q R S (T.set (Int.toNat E) (⟨y20.To,y20.Sent,(y18.Bytes.extract p19.1 p19.2)⟩:aD)) U V
 else
 aR k I J K L M N O P Q R S T U V
 else
 aR k I J K L M N O P Q R S T U V
 else
 aR k I J K L M N O P Q R S T U V
 else
 bif (C==7) then
 bif B then
 (idx T E).bind fun _=>
 (T[(Int.toNat E)]?).bind fun y21=>
 (idx T E).bind fun _=>
 (T[(Int.toNat E)]?).bind fun y22=>
 aR k I J K L M N O P Q R S (T.set (Int.toNat E) (⟨(IntKind.wrap .i64 (3-y21.To)),y22.Sent,y22.Bytes⟩:aD)) U V
 else
 aR k I J K L M N O P Q R S T U V
 else
 bif (C==8) then
 bif A then
 (idx S (IntKind.wrap .i64 (E-1))).bind fun _=>
 (S[(Int.toNat (IntKind.wrap .i64 (E-1)))]?).bind fun y23=>
 (rY k y23).bind fun r24=>
 (idx S (IntKind.wrap .i64 (E-1))).bind fun _=>
 (S[(Int.toNat (IntKind.wrap .i64 (E-1)))]?).bind fun y25=>
 aR k I J K L M N O P Q R (S.set (Int.toNat (IntKind.wrap .i64 (E-1))) r24) T U V
 else
 aR k I J K L M N O P Q R S T U V
 else
 bif (C==9) then
 bif A then
 (idx S (IntKind.wrap .i64 (E-1))).bind fun _=>
 (S[(Int.toNat (IntKind.wrap .i64 (E-1)))]?).bind fun y26=>
 (rN k y26).bind fun r27=>
 (idx S (IntKind.wrap .i64 (E-1))).bind fun _=>
 (S[(Int.toNat (IntKind.wrap .i64 (E-1)))]?).bind fun y28=>
 aR k I J K L M N O P Q R (S.set (Int.toNat (IntKind.wrap .i64 (E-1))) r27) T U V
 else
 aR k I J K L M N O P Q R S T U V
 else
 bif (C==10) then
 bif A then
 (j4 k (⟨L,M,S,T,N,U,V⟩:aC)).bind fun r29=>
 bif (!r29.1) then
 both (
 (idx r29.2.Ends (IntKind.wrap .i64 (E-1))).bind fun _=>
 (r29.2.Ends[(Int.toNat (IntKind.wrap .i64 (E-1)))]?).bind fun y30=>
 (fV k y30 H).bind fun r31=>
 bif (r31.Code==0) then
 (idx r29.2.Ends (IntKind.wrap .i64 (E-1))).bind fun _=>
 (r29.2.Ends[(Int.toNat (IntKind.wrap .i64 (E-1)))]?).bind fun y32=>
 (app 40 r29.2.Given ([(⟨E,r31.End.Life,r31.End.Peer,H⟩:aA)]:List aA)).bind fun l33=>
 aR k I J K r29.2.Key r29.2.Width r29.2.Forged O P Q R (r29.2.Ends.set (Int.toNat (IntKind.wrap .i64 (E-1))) r31.End) r29.2.Flight l33 r29.2.Taken
 else
 aR k I J K r29.2.Key r29.2.Width r29.2.Forged O P Q R r29.2.Ends r29.2.Flight r29.2.Given r29.2.Taken
 ) (
 (idx r29.2.Ends (IntKind.wrap .i64 (E-1))).bind fun _=>
 (r29.2.Ends[(Int.toNat (IntKind.wrap .i64 (E-1)))]?).bind fun y34=>
 (fV k y34 H).bind fun r35=>
 bif (r35.Code==0) then
 (idx r29.2.Ends (IntKind.wrap .i64 (E-1))).bind fun _=>
 (r29.2.Ends[(Int.toNat (IntKind.wrap .i64 (E-1)))]?).bind fun y36=>
 (app 40 r29.2.Given ([(⟨E,r35.End.Life,r35.End.Peer,H⟩:aA)]:List aA)).bind fun l37=>
 aR k I J K r29.2.Key r29.2.Width r29.2.Forged O P Q R (r29.2.Ends.set (Int.toNat (IntKind.wrap .i64 (E-1))) r35.End) r29.2.Flight l37 r29.2.Taken
 else
 aR k I J K r29.2.Key r29.2.Width r29.2.Forged O P Q R r29.2.Ends r29.2.Flight r29.2.Given r29.2.Taken
 )
 else
 aR k I J K r29.2.Key r29.2.Width r29.2.Forged O P Q R r29.2.Ends r29.2.Flight r29.2.Given r29.2.Taken
 else
 aR k I J K L M N O P Q R S T U V
 else
 bif (C==11) then
 bif A then
 (jP k (⟨L,M,S,T,N,U,V⟩:aC) E).bind fun r38=>
 aR k I J K r38.Key r38.Width r38.Forged O P Q R r38.Ends r38.Flight r38.Given r38.Taken
 else
 aR k I J K L M N O P Q R S T U V
 else
 aR k I J K L M N O P Q R S T U V
end
noncomputable def sW (k:Nat) (a0:aC) (a1:c6):Option (aC):=
 (eX k a0).bind fun r1=>
 bif (!r1) then
 some (⟨(⟨#[]⟩:ByteArray),0,([]:List aN),([]:List aD),(⟨#[]⟩:ByteArray),([]:List aA),([]:List aA)⟩:aC)
 else
 (kY k a0).bind fun r2=>
 bif (a1.A==1) then
 tE k true a1.Kind a1.A a1.B a1.C a1.Text (⟨#[]⟩:ByteArray) 0 (⟨#[]⟩:ByteArray) r2.Key r2.Width r2.Forged ([]:List aN) ([]:List aD) ([]:List aA) ([]:List aA) r2.Ends r2.Flight r2.Given r2.Taken
 else
 tE k (a1.A==2) a1.Kind a1.A a1.B a1.C a1.Text (⟨#[]⟩:ByteArray) 0 (⟨#[]⟩:ByteArray) r2.Key r2.Width r2.Forged ([]:List aN) ([]:List aD) ([]:List aA) ([]:List aA) r2.Ends r2.Flight r2.Given r2.Taken
noncomputable def dQ:Nat→List aA→Int→Option (Bool)
 | 0,_,_=>none
 | k+1,A,B=>
 bif (decide (B<(A.length:Int))) then
 (idx A B).bind fun y1=>
 (aZ k y1.From 1 2).bind fun r2=>
 bif (!r2) then
 some false
 else
 (aZ k y1.A 1 1000).bind fun r3=>
 bif (!r3) then
 some false
 else
 (aZ k y1.B 1 1000).bind fun r4=>
 bif (!r4) then
 some false
 else
 bif (decide ((y1.Text.size:Int)>200)) then
 some false
 else
 dQ k A (IntKind.wrap .i64 (B+1))
 else
 some true
noncomputable def lP (k:Nat) (a0:List aA):Option (Bool):=
 dQ k a0 0
mutual
noncomputable def d8:Nat→Int→ByteArray→Int→List aN→List aD→ByteArray→List aA→List aA→Option (Bool)
 | 0,_,_,_,_,_,_,_,_=>none
 | k+1,A,B,C,D,E,F,G,H=>
 bif (decide (A<2)) then
 (idx D A).bind fun y2=>
 (dV k y2).bind fun r3=>
 bif (!r3) then
 some false
 else
 (idx D A).bind fun y4=>
 bif (y4.Number !=(IntKind.wrap .i64 (A+1))) then
 some false
 else
 d8 k (IntKind.wrap .i64 (A+1)) B C D E F G H
 else
 d6 k 0 B C D E F G H
noncomputable def d6:Nat→Int→ByteArray→Int→List aN→List aD→ByteArray→List aA→List aA→Option (Bool)
 | 0,_,_,_,_,_,_,_,_=>none
 | k+1,A,B,C,D,E,F,G,H=>
 bif (decide (A<(E.length:Int))) then
 (idx E A).bind fun y5=>
 (aZ k y5.To 1 2).bind fun r6=>
 bif (!r6) then
 some false
 else
 bif (decide ((y5.Sent.size:Int)>100)) then
 some false
 else
 bif (decide ((y5.Bytes.size:Int)>100)) then
 some false
 else
 d6 k (IntKind.wrap .i64 (A+1)) B C D E F G H
 else
 (lP k G).bind fun r7=>
 bif r7 then
 (lP k H).bind fun r8=>
 some r8
 else
 some false
end
noncomputable def eW (k:Nat) (a0:aC):Option (Bool):=
 (aZ k a0.Width 1 8).bind fun r1=>
 bif (!r1) then
 some false
 else
 bif (decide ((a0.Key.size:Int)>30)) then
 some false
 else
 bif ((a0.Ends.length:Int) !=2) then
 some false
 else
 bif (decide ((a0.Flight.length:Int)>1000)) then
 some false
 else
 bif (decide ((IntKind.wrap .i64 ((a0.Given.length:Int)+(a0.Taken.length:Int)))>400)) then
 some false
 else
 d8 k 0 a0.Key a0.Width a0.Ends a0.Flight a0.Forged a0.Given a0.Taken
noncomputable def jC:Nat→Int→ByteArray→Int→List aN→List aD→ByteArray→List aA→List aA→ByteArray→Int→ByteArray→ByteArray→Int→List aD→ByteArray→List aA→List aA→List aN→List aD→List aA→List aA→List aN→Option (aC)
 | 0,_,_,_,_,_,_,_,_,_,_,_,_,_,_,_,_,_,_,_,_,_,_=>none
 | k+1,A,B,C,D,E,F,G,H,I,J,K,L,M,N,O,P,Q,R,S,T,U,V=>
 bif (decide (A<(D.length:Int))) then
 (idx D A).bind fun y1=>
 (gG k y1).bind fun r2=>
 (app 152 V ([r2]:List aN)).bind fun l3=>
 jC k (IntKind.wrap .i64 (A+1)) B C D E F G H I J K L M N O P Q R S T U l3
 else
 (app 40 ([]:List aD) E).bind fun l4=>
 (app 40 ([]:List aA) G).bind fun l5=>
 (app 40 ([]:List aA) H).bind fun l6=>
 some (⟨L,M,V,l4,O,l5,l6⟩:aC)
noncomputable def iC (k:Nat) (a0:aC):Option (aC):=
 jC k 0 a0.Key a0.Width a0.Ends a0.Flight a0.Forged a0.Given a0.Taken (⟨#[]⟩:ByteArray) 0 (⟨#[]⟩:ByteArray) a0.Key a0.Width a0.Flight a0.Forged a0.Given a0.Taken ([]:List aN) ([]:List aD) ([]:List aA) ([]:List aA) ([]:List aN)
mutual
noncomputable def dW:Nat→Int→ByteArray→Int→ByteArray→ByteArray→Int→ByteArray→List aN→List aD→List aA→List aA→List aN→List aD→List aA→List aA→Option (aC)
 | 0,_,_,_,_,_,_,_,_,_,_,_,_,_,_,_=>none
 | k+1,A,B,C,D,E,F,G,H,I,J,K,L,M,N,O=>
 bif (decide (A<2)) then
 (idx H A).bind fun _=>
 (H[(Int.toNat A)]?).bind fun y1=>
 (rZ k y1).bind fun r2=>
 (idx H A).bind fun _=>
 (H[(Int.toNat A)]?).bind fun y3=>
 jD k A 0 B C D E F G r2.Code r2.End.Number r2.End.Up r2.End.Life r2.End.Peer r2.End.Since r2.End.Owes r2.End.Send.Base r2.End.Take.Next r2.End.Take.Open r2.Text (H.set (Int.toNat A) r2.End) I J K L M N O r2.Out
 else
 some (⟨B,C,H,I,D,J,K⟩:aC)
noncomputable def jD:Nat→Int→Int→ByteArray→Int→ByteArray→ByteArray→Int→ByteArray→Int→Int→Bool→Int→Int→Int→Bool→Int→Int→ByteArray→ByteArray→List aN→List aD→List aA→List aA→List aN→List aD→List aA→List aA→List aE→Option (aC)
 | 0,_,_,_,_,_,_,_,_,_,_,_,_,_,_,_,_,_,_,_,_,_,_,_,_,_,_,_,_=>none
 | k+1,A,B,C,D,E,F,G,H,I,J,K,L,M,N,O,P,Q,R,S,T,U,V,W,X,Y,Z,x26,x27=>
 bif (decide (B<(x27.length:Int))) then
 bif (decide ((U.length:Int)<1000)) then
 (idx x27 B).bind fun _=>
 (x27[(Int.toNat B)]?).bind fun y4=>
 (gW k y4 C D).bind fun r5=>
 (app 40 U ([(⟨(IntKind.wrap .i64 (2-A)),r5,r5⟩:aD)]:List aD)).bind fun l6=>
 jD k A (IntKind.wrap .i64 (B+1)) C D E F G H I J K L M N O P Q R S T l6 V W X Y Z x26 x27
 else
 dW k (IntKind.wrap .i64 (A+1)) C D E F G H T U V W X Y Z x26
 else
 dW k (IntKind.wrap .i64 (A+1)) C D E F G H T U V W X Y Z x26
end
noncomputable def qH (k:Nat) (a0:aC):Option (aC):=
 dW k 0 a0.Key a0.Width a0.Forged (⟨#[]⟩:ByteArray) 0 (⟨#[]⟩:ByteArray) a0.Ends a0.Flight a0.Given a0.Taken ([]:List aN) ([]:List aD) ([]:List aA) ([]:List aA)
noncomputable def i8 (k:Nat) (a0:List aD) (a1:Int):Option (List aD):=
 (wnd a0.length 0 a1).bind fun p1=>
 (app 40 ([]:List aD) (iF a0 p1.1 p1.2)).bind fun l2=>
 (wnd a0.length (IntKind.wrap .i64 (a1+1)) (a0.length:Int)).bind fun p3=>
 (app 40 l2 (iF a0 p3.1 p3.2)).bind fun l4=>
 some l4
noncomputable def gU:Nat→ByteArray→Int→ByteArray→ByteArray→Int→ByteArray→Int→ByteArray→ByteArray→Int→Int→Int→Int→Int→Int→Int→Bool→ByteArray→List aN→List aD→List aA→List aA→List aN→List aD→List aA→List aA→Option (aC)
 | 0,_,_,_,_,_,_,_,_,_,_,_,_,_,_,_,_,_,_,_,_,_,_,_,_,_,_=>none
 | k+1,A,B,C,D,E,F,G,H,I,J,K,L,M,N,O,P,Q,R,S,T,U,V,W,X,Y,Z=>
 (idx S (IntKind.wrap .i64 (G-1))).bind fun _=>
 (S[(Int.toNat (IntKind.wrap .i64 (G-1)))]?).bind fun y4=>
 (sD k y4 (⟨J,K,L,M,N,O,P,Q,R⟩:aE)).bind fun r5=>
 (idx S (IntKind.wrap .i64 (G-1))).bind fun _=>
 (S[(Int.toNat (IntKind.wrap .i64 (G-1)))]?).bind fun y6=>
 some (⟨A,B,(S.set (Int.toNat (IntKind.wrap .i64 (G-1))) r5.End),T,C,U,V⟩:aC)
noncomputable def oQ (k:Nat) (a0:aC) (a1:Int):Option (aC):=
 (idx a0.Flight a1).bind fun _=>
 (a0.Flight[(Int.toNat a1)]?).bind fun y1=>
 (i8 k a0.Flight a1).bind fun r2=>
 (mY k y1.Bytes a0.Key a0.Width).bind fun r3=>
 bif (!r3.2) then
 some (⟨a0.Key,a0.Width,a0.Ends,r2,a0.Forged,a0.Given,a0.Taken⟩:aC)
 else
 bif (!(y1.Bytes.toList==y1.Sent.toList)) then
 bif (a0.Forged.toList==(⟨#[]⟩:ByteArray).toList) then
 gU k a0.Key a0.Width y1.Bytes (⟨#[]⟩:ByteArray) 0 (⟨#[]⟩:ByteArray) y1.To y1.Sent y1.Bytes r3.1.Kind r3.1.From r3.1.Mine r3.1.Yours r3.1.Next r3.1.Mask r3.1.Seq r3.1.Last r3.1.Part a0.Ends r2 a0.Given a0.Taken ([]:List aN) ([]:List aD) ([]:List aA) ([]:List aA)
 else
 gU k a0.Key a0.Width a0.Forged (⟨#[]⟩:ByteArray) 0 (⟨#[]⟩:ByteArray) y1.To y1.Sent y1.Bytes r3.1.Kind r3.1.From r3.1.Mine r3.1.Yours r3.1.Next r3.1.Mask r3.1.Seq r3.1.Last r3.1.Part a0.Ends r2 a0.Given a0.Taken ([]:List aN) ([]:List aD) ([]:List aA) ([]:List aA)
 else
 gU k a0.Key a0.Width a0.Forged (⟨#[]⟩:ByteArray) 0 (⟨#[]⟩:ByteArray) y1.To y1.Sent y1.Bytes r3.1.Kind r3.1.From r3.1.Mine r3.1.Yours r3.1.Next r3.1.Mask r3.1.Seq r3.1.Last r3.1.Part a0.Ends r2 a0.Given a0.Taken ([]:List aN) ([]:List aD) ([]:List aA) ([]:List aA)
mutual
noncomputable def hC:Nat→ByteArray→Int→ByteArray→ByteArray→Int→ByteArray→List aN→List aD→List aA→List aA→List aN→List aD→List aA→List aA→Option (aC)
 | 0,_,_,_,_,_,_,_,_,_,_,_,_,_,_=>none
 | k+1,A,B,C,D,E,F,G,H,I,J,K,L,M,N=>
 some (⟨A,B,G,H,C,I,J⟩:aC)
noncomputable def bL:Nat→ByteArray→Int→ByteArray→Int→Int→Int→Int→ByteArray→ByteArray→Int→ByteArray→Int→ByteArray→ByteArray→List aN→List aD→List aA→List aA→List aN→List aD→List aA→List aA→Option (aC)
 | 0,_,_,_,_,_,_,_,_,_,_,_,_,_,_,_,_,_,_,_,_,_,_=>none
 | k+1,A,B,C,D,E,F,G,H,I,J,K,L,M,N,O,P,Q,R,S,T,U,V=>
 (idx P E).bind fun _=>
 (P[(Int.toNat E)]?).bind fun y9=>
 some (⟨A,B,O,(P.set (Int.toNat E) (⟨L,M,N⟩:aD)),C,Q,R⟩:aC)
end
noncomputable def pU (k:Nat) (a0:aC) (a1:c6):Option (aC):=
 (idx a0.Flight a1.A).bind fun _=>
 (a0.Flight[(Int.toNat a1.A)]?).bind fun y1=>
 bif (a1.Kind==2) then
 (oQ k a0 a1.A).bind fun r2=>
 some r2
 else
 bif (a1.Kind==4) then
 (i8 k a0.Flight a1.A).bind fun r3=>
 some (⟨a0.Key,a0.Width,a0.Ends,r3,a0.Forged,a0.Given,a0.Taken⟩:aC)
 else
 bif (a1.Kind==3) then
 bif (decide ((a0.Flight.length:Int)<1000)) then
 (app 40 a0.Flight ([y1]:List aD)).bind fun l4=>
 hC k a0.Key a0.Width a0.Forged (⟨#[]⟩:ByteArray) 0 (⟨#[]⟩:ByteArray) a0.Ends l4 a0.Given a0.Taken ([]:List aN) ([]:List aD) ([]:List aA) ([]:List aA)
 else
 hC k a0.Key a0.Width a0.Forged (⟨#[]⟩:ByteArray) 0 (⟨#[]⟩:ByteArray) a0.Ends a0.Flight a0.Given a0.Taken ([]:List aN) ([]:List aD) ([]:List aA) ([]:List aA)
 else
 bif (a1.Kind==5) then
 bif (decide (a1.B≥0)) then
 bif (decide (a1.B<(y1.Bytes.size:Int))) then
 bif (decide (a1.C≥0)) then
 (idx (bB y1.Bytes) a1.B).bind fun _=>
 ((bB y1.Bytes)[(Int.toNat a1.B)]?).bind fun y5=>
 (KP a1.C 256).bind fun q6=>
 (idx (bB y1.Bytes) a1.B).bind fun _=>
 ((bB y1.Bytes)[(Int.toNat a1.B)]?).bind fun y7=>
 bL k a0.Key a0.Width a0.Forged a1.Kind a1.A a1.B a1.C a1.Text (⟨#[]⟩:ByteArray) 0 (⟨#[]⟩:ByteArray) y1.To y1.Sent (m6 ((bB y1.Bytes).set (Int.toNat a1.B) (w6 .u8 y5 (IntKind.wrap .u8 q6)))) a0.Ends a0.Flight a0.Given a0.Taken ([]:List aN) ([]:List aD) ([]:List aA) ([]:List aA)
 else
 bL k a0.Key a0.Width a0.Forged a1.Kind a1.A a1.B a1.C a1.Text (⟨#[]⟩:ByteArray) 0 (⟨#[]⟩:ByteArray) y1.To y1.Sent y1.Bytes a0.Ends a0.Flight a0.Given a0.Taken ([]:List aN) ([]:List aD) ([]:List aA) ([]:List aA)
 else
 bL k a0.Key a0.Width a0.Forged a1.Kind a1.A a1.B a1.C a1.Text (⟨#[]⟩:ByteArray) 0 (⟨#[]⟩:ByteArray) y1.To y1.Sent y1.Bytes a0.Ends a0.Flight a0.Given a0.Taken ([]:List aN) ([]:List aD) ([]:List aA) ([]:List aA)
 else
 bL k a0.Key a0.Width a0.Forged a1.Kind a1.A a1.B a1.C a1.Text (⟨#[]⟩:ByteArray) 0 (⟨#[]⟩:ByteArray) y1.To y1.Sent y1.Bytes a0.Ends a0.Flight a0.Given a0.Taken ([]:List aN) ([]:List aD) ([]:List aA) ([]:List aA)
 else
 bif (a1.Kind==6) then
 bif (decide (a1.B≥0)) then
 bif (decide (a1.B≤(y1.Bytes.size:Int))) then
 (wnd y1.Bytes.size 0 a1.B).bind fun p8=>
 bL k a0.Key a0.Width a0.Forged a1.Kind a1.A a1.B a1.C a1.Text (⟨#[]⟩:ByteArray) 0 (⟨#[]⟩:ByteArray) y1.To y1.Sent (y1.Bytes.extract p8.1 p8.2) a0.Ends a0.Flight a0.Given a0.Taken ([]:List aN) ([]:List aD) ([]:List aA) ([]:List aA)
 else
 bL k a0.Key a0.Width a0.Forged a1.Kind a1.A a1.B a1.C a1.Text (⟨#[]⟩:ByteArray) 0 (⟨#[]⟩:ByteArray) y1.To y1.Sent y1.Bytes a0.Ends a0.Flight a0.Given a0.Taken ([]:List aN) ([]:List aD) ([]:List aA) ([]:List aA)
 else
 bL k a0.Key a0.Width a0.Forged a1.Kind a1.A a1.B a1.C a1.Text (⟨#[]⟩:ByteArray) 0 (⟨#[]⟩:ByteArray) y1.To y1.Sent y1.Bytes a0.Ends a0.Flight a0.Given a0.Taken ([]:List aN) ([]:List aD) ([]:List aA) ([]:List aA)
 else
 bif (a1.Kind==7) then
 bL k a0.Key a0.Width a0.Forged a1.Kind a1.A a1.B a1.C a1.Text (⟨#[]⟩:ByteArray) 0 (⟨#[]⟩:ByteArray) (IntKind.wrap .i64 (3-y1.To)) y1.Sent y1.Bytes a0.Ends a0.Flight a0.Given a0.Taken ([]:List aN) ([]:List aD) ([]:List aA) ([]:List aA)
 else
 bL k a0.Key a0.Width a0.Forged a1.Kind a1.A a1.B a1.C a1.Text (⟨#[]⟩:ByteArray) 0 (⟨#[]⟩:ByteArray) y1.To y1.Sent y1.Bytes a0.Ends a0.Flight a0.Given a0.Taken ([]:List aN) ([]:List aD) ([]:List aA) ([]:List aA)
noncomputable def cH:Nat→ByteArray→Int→ByteArray→ByteArray→Int→ByteArray→List aN→List aD→List aA→List aA→List aN→List aD→List aA→List aA→Option (aC)
 | 0,_,_,_,_,_,_,_,_,_,_,_,_,_,_=>none
 | k+1,A,B,C,D,E,F,G,H,I,J,K,L,M,N=>
 some (⟨A,B,G,H,C,I,J⟩:aC)
noncomputable def qB (k:Nat) (a0:aC) (a1:c6):Option (aC):=
 (idx a0.Ends (IntKind.wrap .i64 (a1.A-1))).bind fun _=>
 (a0.Ends[(Int.toNat (IntKind.wrap .i64 (a1.A-1)))]?).bind fun y1=>
 bif (a1.Kind==8) then
 (rT k y1).bind fun r2=>
 (idx a0.Ends (IntKind.wrap .i64 (a1.A-1))).bind fun _=>
 (a0.Ends[(Int.toNat (IntKind.wrap .i64 (a1.A-1)))]?).bind fun y3=>
 cH k a0.Key a0.Width a0.Forged (⟨#[]⟩:ByteArray) 0 (⟨#[]⟩:ByteArray) (a0.Ends.set (Int.toNat (IntKind.wrap .i64 (a1.A-1))) r2) a0.Flight a0.Given a0.Taken ([]:List aN) ([]:List aD) ([]:List aA) ([]:List aA)
 else
 bif (a1.Kind==9) then
 (rV k y1).bind fun r4=>
 (idx a0.Ends (IntKind.wrap .i64 (a1.A-1))).bind fun _=>
 (a0.Ends[(Int.toNat (IntKind.wrap .i64 (a1.A-1)))]?).bind fun y5=>
 cH k a0.Key a0.Width a0.Forged (⟨#[]⟩:ByteArray) 0 (⟨#[]⟩:ByteArray) (a0.Ends.set (Int.toNat (IntKind.wrap .i64 (a1.A-1))) r4) a0.Flight a0.Given a0.Taken ([]:List aN) ([]:List aD) ([]:List aA) ([]:List aA)
 else
 bif (a1.Kind==10) then
 (j0 k y1 a1.Text).bind fun r6=>
 bif (r6.Code==0) then
 bif (decide ((IntKind.wrap .i64 ((a0.Given.length:Int)+(a0.Taken.length:Int)))<400)) then
 (idx a0.Ends (IntKind.wrap .i64 (a1.A-1))).bind fun _=>
 (a0.Ends[(Int.toNat (IntKind.wrap .i64 (a1.A-1)))]?).bind fun y7=>
 (app 40 a0.Given ([(⟨a1.A,y1.Life,y1.Peer,a1.Text⟩:aA)]:List aA)).bind fun l8=>
 cH k a0.Key a0.Width a0.Forged (⟨#[]⟩:ByteArray) 0 (⟨#[]⟩:ByteArray) (a0.Ends.set (Int.toNat (IntKind.wrap .i64 (a1.A-1))) r6.End) a0.Flight l8 a0.Taken ([]:List aN) ([]:List aD) ([]:List aA) ([]:List aA)
 else
 cH k a0.Key a0.Width a0.Forged (⟨#[]⟩:ByteArray) 0 (⟨#[]⟩:ByteArray) a0.Ends a0.Flight a0.Given a0.Taken ([]:List aN) ([]:List aD) ([]:List aA) ([]:List aA)
 else
 cH k a0.Key a0.Width a0.Forged (⟨#[]⟩:ByteArray) 0 (⟨#[]⟩:ByteArray) a0.Ends a0.Flight a0.Given a0.Taken ([]:List aN) ([]:List aD) ([]:List aA) ([]:List aA)
 else
 bif (a1.Kind==11) then
 (oX k y1).bind fun r9=>
 bif (r9.Code==0) then
 bif (decide ((IntKind.wrap .i64 ((a0.Given.length:Int)+(a0.Taken.length:Int)))<400)) then
 (idx a0.Ends (IntKind.wrap .i64 (a1.A-1))).bind fun _=>
 (a0.Ends[(Int.toNat (IntKind.wrap .i64 (a1.A-1)))]?).bind fun y10=>
 (app 40 a0.Taken ([(⟨(IntKind.wrap .i64 (3-a1.A)),y1.Peer,y1.Life,r9.Text⟩:aA)]:List aA)).bind fun l11=>
 cH k a0.Key a0.Width a0.Forged (⟨#[]⟩:ByteArray) 0 (⟨#[]⟩:ByteArray) (a0.Ends.set (Int.toNat (IntKind.wrap .i64 (a1.A-1))) r9.End) a0.Flight a0.Given l11 ([]:List aN) ([]:List aD) ([]:List aA) ([]:List aA)
 else
 cH k a0.Key a0.Width a0.Forged (⟨#[]⟩:ByteArray) 0 (⟨#[]⟩:ByteArray) a0.Ends a0.Flight a0.Given a0.Taken ([]:List aN) ([]:List aD) ([]:List aA) ([]:List aA)
 else
 cH k a0.Key a0.Width a0.Forged (⟨#[]⟩:ByteArray) 0 (⟨#[]⟩:ByteArray) a0.Ends a0.Flight a0.Given a0.Taken ([]:List aN) ([]:List aD) ([]:List aA) ([]:List aA)
 else
 cH k a0.Key a0.Width a0.Forged (⟨#[]⟩:ByteArray) 0 (⟨#[]⟩:ByteArray) a0.Ends a0.Flight a0.Given a0.Taken ([]:List aN) ([]:List aD) ([]:List aA) ([]:List aA)
noncomputable def BG (k:Nat) (a0:aC) (a1:c6):Option (aC):=
 bif (a1.Kind==1) then
 (qH k a0).bind fun r1=>
 some r1
 else
 (aZ k a1.Kind 2 7).bind fun r2=>
 bif r2 then
 (aZ k a1.A 0 (IntKind.wrap .i64 ((a0.Flight.length:Int)-1))).bind fun r3=>
 bif r3 then
 (pU k a0 a1).bind fun r4=>
 some r4
 else
 (aZ k a1.Kind 8 11).bind fun r5=>
 bif r5 then
 (aZ k a1.A 1 2).bind fun r6=>
 bif r6 then
 (qB k a0 a1).bind fun r7=>
 some r7
 else
 some a0
 else
 some a0
 else
 (aZ k a1.Kind 8 11).bind fun r8=>
 bif r8 then
 (aZ k a1.A 1 2).bind fun r9=>
 bif r9 then
 (qB k a0 a1).bind fun r10=>
 some r10
 else
 some a0
 else
 some a0
noncomputable def uN (k:Nat) (a0:aC) (a1:c6):Option (aC):=
 (eW k a0).bind fun r1=>
 bif (!r1) then
 some (⟨(⟨#[]⟩:ByteArray),0,([]:List aN),([]:List aD),(⟨#[]⟩:ByteArray),([]:List aA),([]:List aA)⟩:aC)
 else
 (iC k a0).bind fun r2=>
 (BG k r2 a1).bind fun r3=>
 (iC k r3).bind fun r4=>
 some r4
mutual
noncomputable def fY:Nat→List aA→Int→Int→ByteArray→Int→List aN→List aD→ByteArray→List aA→List aA→List (DPair×List ByteArray)→Option (Bool)
 | 0,_,_,_,_,_,_,_,_,_,_,_=>none
 | k+1,A,B,C,D,E,F,G,H,I,J,K=>
 bif (decide (C<B)) then
 (idx A C).bind fun y2=>
 optK (cA (cD (⟨y2.From,y2.A,y2.B⟩:DPair)) K 0) (
 (app 16 ([]:List ByteArray) ([y2.Text]:List ByteArray)).bind fun l4=>
 (idx (K++[((⟨y2.From,y2.A,y2.B⟩:DPair),([]:List ByteArray))]) (K.length:Int)).bind fun e5=>
 fY k A B (IntKind.wrap .i64 (C+1)) D E F G H I J ((K++[((⟨y2.From,y2.A,y2.B⟩:DPair),([]:List ByteArray))]).set (Int.toNat (K.length:Int)) (e5.1,l4))
 ) (fun p3=>
 (app 16 p3.2 ([y2.Text]:List ByteArray)).bind fun l6=>
 bif Nat.beq p3.1 (Int.toNat (p3.1:Int)) then
 (idx K (p3.1:Int)).bind fun e7=>
 fY k A B (IntKind.wrap .i64 (C+1)) D E F G H I J (K.set (Int.toNat (p3.1:Int)) (e7.1,l6))
 else
 none
 )
 else
 bO k J (J.length:Int) 0 K ([]:List (DPair×Int))
noncomputable def bO:Nat→List aA→Int→Int→List (DPair×List ByteArray)→List (DPair×Int)→Option (Bool)
 | 0,_,_,_,_,_=>none
 | k+1,A,B,C,D,E=>
 bif (decide (C<B)) then
 (idx A C).bind fun y8=>
 optK (cA (cD (⟨y8.From,y8.A,y8.B⟩:DPair)) E 0) (
 optK (cA (cD (⟨y8.From,y8.A,y8.B⟩:DPair)) D 0) (
 bif (decide ((0:Int)≥(([]:List ByteArray).length:Int))) then
 some false
 else
 optK (cA (cD (⟨y8.From,y8.A,y8.B⟩:DPair)) D 0) (
 optK (cA (cD (⟨y8.From,y8.A,y8.B⟩:DPair)) E 0) (
 none
 ) (fun p12=>
 none
 )
 ) (fun p11=>
 optK (cA (cD (⟨y8.From,y8.A,y8.B⟩:DPair)) E 0) (
 (idx p11.2 0).bind fun _=>
 (p11.2[(Int.toNat 0)]?).bind fun y14=>
 bif (!(y14.toList==y8.Text.toList)) then
 some false
 else
 bX k A B C (D.modify p11.1 fun e=>(e.1,p11.2)) E y8.From y8.A y8.B
 ) (fun p13=>
 (idx p11.2 p13.2).bind fun _=>
 (p11.2[(Int.toNat p13.2)]?).bind fun y15=>
 bif (!(y15.toList==y8.Text.toList)) then
 some false
 else
 bX k A B C (D.modify p11.1 fun e=>(e.1,p11.2)) E y8.From y8.A y8.B
 )
 )
 ) (fun p10=>
 bif (decide ((0:Int)≥(p10.2.length:Int))) then
 some false
 else
 optK (cA (cD (⟨y8.From,y8.A,y8.B⟩:DPair)) (D.modify p10.1 fun e=>(e.1,p10.2)) 0) (
 optK (cA (cD (⟨y8.From,y8.A,y8.B⟩:DPair)) E 0) (
 none
 ) (fun p17=>
 none
 )
 ) (fun p16=>
 optK (cA (cD (⟨y8.From,y8.A,y8.B⟩:DPair)) E 0) (
 (idx p16.2 0).bind fun _=>
 (p16.2[(Int.toNat 0)]?).bind fun y19=>
 bif (!(y19.toList==y8.Text.toList)) then
 some false
 else
 bX k A B C ((D.modify p10.1 fun e=>(e.1,p10.2)).modify p16.1 fun e=>(e.1,p16.2)) E y8.From y8.A y8.B
 ) (fun p18=>
 (idx p16.2 p18.2).bind fun _=>
 (p16.2[(Int.toNat p18.2)]?).bind fun y20=>
 bif (!(y20.toList==y8.Text.toList)) then
 some false
 else
 bX k A B C ((D.modify p10.1 fun e=>(e.1,p10.2)).modify p16.1 fun e=>(e.1,p16.2)) E y8.From y8.A y8.B
 )
 )
 )
 ) (fun p9=>
 optK (cA (cD (⟨y8.From,y8.A,y8.B⟩:DPair)) D 0) (
 bif (decide (p9.2≥(([]:List ByteArray).length:Int))) then
 some false
 else
 optK (cA (cD (⟨y8.From,y8.A,y8.B⟩:DPair)) D 0) (
 optK (cA (cD (⟨y8.From,y8.A,y8.B⟩:DPair)) E 0) (
 none
 ) (fun p23=>
 none
 )
 ) (fun p22=>
 optK (cA (cD (⟨y8.From,y8.A,y8.B⟩:DPair)) E 0) (
 (idx p22.2 0).bind fun _=>
 (p22.2[(Int.toNat 0)]?).bind fun y25=>
 bif (!(y25.toList==y8.Text.toList)) then
 some false
 else
 bX k A B C (D.modify p22.1 fun e=>(e.1,p22.2)) E y8.From y8.A y8.B
 ) (fun p24=>
 (idx p22.2 p24.2).bind fun _=>
 (p22.2[(Int.toNat p24.2)]?).bind fun y26=>
 bif (!(y26.toList==y8.Text.toList)) then
 some false
 else
 bX k A B C (D.modify p22.1 fun e=>(e.1,p22.2)) E y8.From y8.A y8.B
 )
 )
 ) (fun p21=>
 bif (decide (p9.2≥(p21.2.length:Int))) then
 some false
 else
 optK (cA (cD (⟨y8.From,y8.A,y8.B⟩:DPair)) (D.modify p21.1 fun e=>(e.1,p21.2)) 0) (
 optK (cA (cD (⟨y8.From,y8.A,y8.B⟩:DPair)) E 0) (
 none
 ) (fun p28=>
 none
 )
 ) (fun p27=>
 optK (cA (cD (⟨y8.From,y8.A,y8.B⟩:DPair)) E 0) (
 (idx p27.2 0).bind fun _=>
 (p27.2[(Int.toNat 0)]?).bind fun y30=>
 bif (!(y30.toList==y8.Text.toList)) then
 some false
 else
 bX k A B C ((D.modify p21.1 fun e=>(e.1,p21.2)).modify p27.1 fun e=>(e.1,p27.2)) E y8.From y8.A y8.B
 ) (fun p29=>
 (idx p27.2 p29.2).bind fun _=>
 (p27.2[(Int.toNat p29.2)]?).bind fun y31=>
 bif (!(y31.toList==y8.Text.toList)) then
 some false
 else
 bX k A B C ((D.modify p21.1 fun e=>(e.1,p21.2)).modify p27.1 fun e=>(e.1,p27.2)) E y8.From y8.A y8.B
 )
 )
 )
 )
 else
 some true
noncomputable def bX:Nat→List aA→Int→Int→List (DPair×List ByteArray)→List (DPair×Int)→Int→Int→Int→Option (Bool)
 | 0,_,_,_,_,_,_,_,_=>none
 | k+1,A,B,C,D,E,F,G,H=>
 both (
 optK (cA (cD (⟨F,G,H⟩:DPair)) E 0) (
 optK (cA (cD (⟨F,G,H⟩:DPair)) E 0) (
 (idx (E++[((⟨F,G,H⟩:DPair),0)]) (E.length:Int)).bind fun e34=>
 bO k A B (IntKind.wrap .i64 (C+1)) D ((E++[((⟨F,G,H⟩:DPair),0)]).set (Int.toNat (E.length:Int)) (e34.1,(IntKind.wrap .i64 (0+1))))
 ) (fun p33=>
 (idx E (p33.1:Int)).bind fun e35=>
 bO k A B (IntKind.wrap .i64 (C+1)) D (E.set (Int.toNat (p33.1:Int)) (e35.1,(IntKind.wrap .i64 (0+1))))
 )
 ) (fun p32=>
 optK (cA (cD (⟨F,G,H⟩:DPair)) E 0) (
 (idx (E++[((⟨F,G,H⟩:DPair),0)]) (E.length:Int)).bind fun e37=>
 bO k A B (IntKind.wrap .i64 (C+1)) D ((E++[((⟨F,G,H⟩:DPair),0)]).set (Int.toNat (E.length:Int)) (e37.1,(IntKind.wrap .i64 (p32.2+1))))
 ) (fun p36=>
 (idx E (p36.1:Int)).bind fun e38=>
 bO k A B (IntKind.wrap .i64 (C+1)) D (E.set (Int.toNat (p36.1:Int)) (e38.1,(IntKind.wrap .i64 (p32.2+1))))
 )
 )
 ) (
 optK (cA (cD (⟨F,G,H⟩:DPair)) E 0) (
 optK (cA (cD (⟨F,G,H⟩:DPair)) (E++[((⟨F,G,H⟩:DPair),0)]) 0) (
 (idx (E++[((⟨F,G,H⟩:DPair),0)]) (E.length:Int)).bind fun e41=>
 bO k A B (IntKind.wrap .i64 (C+1)) D ((E++[((⟨F,G,H⟩:DPair),0)]).set (Int.toNat (E.length:Int)) (e41.1,(IntKind.wrap .i64 (0+1))))
 ) (fun p40=>
 (idx (E++[((⟨F,G,H⟩:DPair),0)]) (E.length:Int)).bind fun e42=>
 bO k A B (IntKind.wrap .i64 (C+1)) D ((E++[((⟨F,G,H⟩:DPair),0)]).set (Int.toNat (E.length:Int)) (e42.1,(IntKind.wrap .i64 (p40.2+1))))
 )
 ) (fun p39=>
 optK (cA (cD (⟨F,G,H⟩:DPair)) E 0) (
 (idx E (p39.1:Int)).bind fun e44=>
 bO k A B (IntKind.wrap .i64 (C+1)) D (E.set (Int.toNat (p39.1:Int)) (e44.1,(IntKind.wrap .i64 (0+1))))
 ) (fun p43=>
 (idx E (p39.1:Int)).bind fun e45=>
 bO k A B (IntKind.wrap .i64 (C+1)) D (E.set (Int.toNat (p39.1:Int)) (e45.1,(IntKind.wrap .i64 (p43.2+1))))
 )
 )
 )
end
noncomputable def xT (k:Nat) (a0:aC):Option (Bool):=
 (eX k a0).bind fun r1=>
 bif (!r1) then
 some false
 else
 fY k a0.Given (a0.Given.length:Int) 0 a0.Key a0.Width a0.Ends a0.Flight a0.Forged a0.Given a0.Taken ([]:List (DPair×List ByteArray))
mutual
noncomputable def hH:Nat→Int→Int→ByteArray→Int→ByteArray→ByteArray→Int→ByteArray→List (DKey×Int)→List aN→List aD→List aA→List aA→List aN→List aD→List aA→List aA→Option (aC)
 | 0,_,_,_,_,_,_,_,_,_,_,_,_,_,_,_,_,_=>none
 | k+1,A,B,C,D,E,F,G,H,I,J,K,L,M,N,O,P,Q=>
 bif (decide (A>0)) then
 (j7 k (⟨F,G,N,O,H,P,Q⟩:aC)).bind fun r3=>
 iB k A B (r3.Flight.length:Int) 0 C D E r3.Key r3.Width r3.Forged I r3.Flight J K L M r3.Ends ([]:List aD) r3.Given r3.Taken
 else
 some (⟨F,G,N,O,H,P,Q⟩:aC)
noncomputable def iB:Nat→Int→Int→Int→Int→ByteArray→Int→ByteArray→ByteArray→Int→ByteArray→List (DKey×Int)→List aD→List aN→List aD→List aA→List aA→List aN→List aD→List aA→List aA→Option (aC)
 | 0,_,_,_,_,_,_,_,_,_,_,_,_,_,_,_,_,_,_,_,_=>none
 | k+1,A,B,C,D,E,F,G,H,I,J,K,L,M,N,O,P,Q,R,S,T=>
 bif (decide (D<C)) then
 (idx L D).bind fun _=>
 (L[(Int.toNat D)]?).bind fun y4=>
 both (
 optK (cA (lH (⟨y4.To,y4.Bytes⟩:DKey)) K 0) (
 optK (cA (lH (⟨y4.To,y4.Bytes⟩:DKey)) K 0) (
 (idx (K++[((⟨y4.To,y4.Bytes⟩:DKey),0)]) (K.length:Int)).bind fun e7=>
 cX k A B C D E F G H I J ((K++[((⟨y4.To,y4.Bytes⟩:DKey),0)]).set (Int.toNat (K.length:Int)) (e7.1,(IntKind.wrap .i64 (0+1)))) y4.To y4.Sent y4.Bytes y4.To y4.Bytes L M N O P Q R S T
 ) (fun p6=>
 (idx K (p6.1:Int)).bind fun e8=>
 cX k A B C D E F G H I J (K.set (Int.toNat (p6.1:Int)) (e8.1,(IntKind.wrap .i64 (0+1)))) y4.To y4.Sent y4.Bytes y4.To y4.Bytes L M N O P Q R S T
 )
 ) (fun p5=>
 optK (cA (lH (⟨y4.To,y4.Bytes⟩:DKey)) K 0) (
 (idx (K++[((⟨y4.To,y4.Bytes⟩:DKey),0)]) (K.length:Int)).bind fun e10=>
 cX k A B C D E F G H I J ((K++[((⟨y4.To,y4.Bytes⟩:DKey),0)]).set (Int.toNat (K.length:Int)) (e10.1,(IntKind.wrap .i64 (p5.2+1)))) y4.To y4.Sent y4.Bytes y4.To y4.Bytes L M N O P Q R S T
 ) (fun p9=>
 (idx K (p9.1:Int)).bind fun e11=>
 cX k A B C D E F G H I J (K.set (Int.toNat (p9.1:Int)) (e11.1,(IntKind.wrap .i64 (p5.2+1)))) y4.To y4.Sent y4.Bytes y4.To y4.Bytes L M N O P Q R S T
 )
 )
 ) (
 optK (cA (lH (⟨y4.To,y4.Bytes⟩:DKey)) K 0) (
 optK (cA (lH (⟨y4.To,y4.Bytes⟩:DKey)) (K++[((⟨y4.To,y4.Bytes⟩:DKey),0)]) 0) (
 (idx (K++[((⟨y4.To,y4.Bytes⟩:DKey),0)]) (K.length:Int)).bind fun e14=>
 cX k A B C D E F G H I J ((K++[((⟨y4.To,y4.Bytes⟩:DKey),0)]).set (Int.toNat (K.length:Int)) (e14.1,(IntKind.wrap .i64 (0+1)))) y4.To y4.Sent y4.Bytes y4.To y4.Bytes L M N O P Q R S T
 ) (fun p13=>
 (idx (K++[((⟨y4.To,y4.Bytes⟩:DKey),0)]) (K.length:Int)).bind fun e15=>
 cX k A B C D E F G H I J ((K++[((⟨y4.To,y4.Bytes⟩:DKey),0)]).set (Int.toNat (K.length:Int)) (e15.1,(IntKind.wrap .i64 (p13.2+1)))) y4.To y4.Sent y4.Bytes y4.To y4.Bytes L M N O P Q R S T
 )
 ) (fun p12=>
 optK (cA (lH (⟨y4.To,y4.Bytes⟩:DKey)) K 0) (
 (idx K (p12.1:Int)).bind fun e17=>
 cX k A B C D E F G H I J (K.set (Int.toNat (p12.1:Int)) (e17.1,(IntKind.wrap .i64 (0+1)))) y4.To y4.Sent y4.Bytes y4.To y4.Bytes L M N O P Q R S T
 ) (fun p16=>
 (idx K (p12.1:Int)).bind fun e18=>
 cX k A B C D E F G H I J (K.set (Int.toNat (p12.1:Int)) (e18.1,(IntKind.wrap .i64 (p16.2+1)))) y4.To y4.Sent y4.Bytes y4.To y4.Bytes L M N O P Q R S T
 )
 )
 )
 else
 eO k A B 1 E F G H I J K M N O P Q R S T
noncomputable def cX:Nat→Int→Int→Int→Int→ByteArray→Int→ByteArray→ByteArray→Int→ByteArray→List (DKey×Int)→Int→ByteArray→ByteArray→Int→ByteArray→List aD→List aN→List aD→List aA→List aA→List aN→List aD→List aA→List aA→Option (aC)
 | 0,_,_,_,_,_,_,_,_,_,_,_,_,_,_,_,_,_,_,_,_,_,_,_,_,_=>none
 | k+1,A,B,C,D,E,F,G,H,I,J,K,L,M,N,O,P,Q,R,S,T,U,V,W,X,Y=>
 optK (cA (lH (⟨O,P⟩:DKey)) K 0) (
 (KP 0 B).bind fun q20=>
 bif (q20==0) then
 (fK k (⟨H,I,V,W,J,X,Y⟩:aC) (⟨L,M,N⟩:aD)).bind fun r21=>
 iI k A B C D E F G r21.Key r21.Width r21.Forged K Q R S T U r21.Ends r21.Flight r21.Given r21.Taken
 else
 iI k A B C D E F G H I J K Q R S T U V W X Y
 ) (fun p19=>
 (KP p19.2 B).bind fun q22=>
 bif (q22==0) then
 (fK k (⟨H,I,V,W,J,X,Y⟩:aC) (⟨L,M,N⟩:aD)).bind fun r23=>
 iI k A B C D E F G r23.Key r23.Width r23.Forged K Q R S T U r23.Ends r23.Flight r23.Given r23.Taken
 else
 iI k A B C D E F G H I J K Q R S T U V W X Y
 )
noncomputable def eO:Nat→Int→Int→Int→ByteArray→Int→ByteArray→ByteArray→Int→ByteArray→List (DKey×Int)→List aN→List aD→List aA→List aA→List aN→List aD→List aA→List aA→Option (aC)
 | 0,_,_,_,_,_,_,_,_,_,_,_,_,_,_,_,_,_,_=>none
 | k+1,A,B,C,D,E,F,G,H,I,J,K,L,M,N,O,P,Q,R=>
 bif (decide (C≤2)) then
 j9 k A B C 0 D E F G H I J K L M N O P Q R
 else
 hH k (IntKind.wrap .i64 (A-1)) B D E F G H I J K L M N O P Q R
noncomputable def iI:Nat→Int→Int→Int→Int→ByteArray→Int→ByteArray→ByteArray→Int→ByteArray→List (DKey×Int)→List aD→List aN→List aD→List aA→List aA→List aN→List aD→List aA→List aA→Option (aC)
 | 0,_,_,_,_,_,_,_,_,_,_,_,_,_,_,_,_,_,_,_,_=>none
 | k+1,A,B,C,D,E,F,G,H,I,J,K,L,M,N,O,P,Q,R,S,T=>
 iB k A B C (IntKind.wrap .i64 (D+1)) E F G H I J K L M N O P Q R S T
noncomputable def j9:Nat→Int→Int→Int→Int→ByteArray→Int→ByteArray→ByteArray→Int→ByteArray→List (DKey×Int)→List aN→List aD→List aA→List aA→List aN→List aD→List aA→List aA→Option (aC)
 | 0,_,_,_,_,_,_,_,_,_,_,_,_,_,_,_,_,_,_,_=>none
 | k+1,A,B,C,D,E,F,G,H,I,J,K,L,M,N,O,P,Q,R,S=>
 bif (decide (D<4)) then
 (idx P (IntKind.wrap .i64 (C-1))).bind fun _=>
 (P[(Int.toNat (IntKind.wrap .i64 (C-1)))]?).bind fun y24=>
 bif (decide ((y24.Take.Ready.length:Int)>0)) then
 (jP k (⟨H,I,P,Q,J,R,S⟩:aC) C).bind fun r25=>
 j9 k A B C (IntKind.wrap .i64 (D+1)) E F G r25.Key r25.Width r25.Forged K L M N O r25.Ends r25.Flight r25.Given r25.Taken
 else
 eO k A B (IntKind.wrap .i64 (C+1)) E F G H I J K L M N O P Q R S
 else
 eO k A B (IntKind.wrap .i64 (C+1)) E F G H I J K L M N O P Q R S
end
noncomputable def CI (k:Nat) (a0:aC) (a1:Int) (a2:Int):Option (aC):=
 (eX k a0).bind fun r1=>
 bif (!r1) then
 some (⟨(⟨#[]⟩:ByteArray),0,([]:List aN),([]:List aD),(⟨#[]⟩:ByteArray),([]:List aA),([]:List aA)⟩:aC)
 else
 bif (decide (a2<1)) then
 some (⟨(⟨#[]⟩:ByteArray),0,([]:List aN),([]:List aD),(⟨#[]⟩:ByteArray),([]:List aA),([]:List aA)⟩:aC)
 else
 bif (decide (a2>10)) then
 some (⟨(⟨#[]⟩:ByteArray),0,([]:List aN),([]:List aD),(⟨#[]⟩:ByteArray),([]:List aA),([]:List aA)⟩:aC)
 else
 (kY k a0).bind fun r2=>
 bif (decide (a1>5000)) then
 hH k 5000 a2 (⟨#[]⟩:ByteArray) 0 (⟨#[]⟩:ByteArray) r2.Key r2.Width r2.Forged ([]:List (DKey×Int)) ([]:List aN) ([]:List aD) ([]:List aA) ([]:List aA) r2.Ends r2.Flight r2.Given r2.Taken
 else
 hH k a1 a2 (⟨#[]⟩:ByteArray) 0 (⟨#[]⟩:ByteArray) r2.Key r2.Width r2.Forged ([]:List (DKey×Int)) ([]:List aN) ([]:List aD) ([]:List aA) ([]:List aA) r2.Ends r2.Flight r2.Given r2.Taken
noncomputable def mC:Nat→List aN→Int→Int→ByteArray→Int→List aN→List aD→ByteArray→List aA→List aA→Option (Bool)
 | 0,_,_,_,_,_,_,_,_,_,_=>none
 | k+1,A,B,C,D,E,F,G,H,I,J=>
 bif (decide (C<B)) then
 (idx A C).bind fun y2=>
 bif (!y2.Up) then
 some false
 else
 (idx F (IntKind.wrap .i64 (1-C))).bind fun y3=>
 bif (y2.Peer !=y3.Life) then
 some false
 else
 bif (decide ((y2.Send.Items.length:Int)>0)) then
 some false
 else
 bif (decide ((y2.Take.Held.length:Int)>0)) then
 some false
 else
 bif (!(y2.Take.Open.toList==(⟨#[]⟩:ByteArray).toList)) then
 some false
 else
 bif (decide ((y2.Take.Ready.length:Int)>0)) then
 some false
 else
 mC k A B (IntKind.wrap .i64 (C+1)) D E F G H I J
 else
 some true
noncomputable def B5 (k:Nat) (a0:aC):Option (Bool):=
 (eX k a0).bind fun r1=>
 bif (!r1) then
 some false
 else
 mC k a0.Ends (a0.Ends.length:Int) 0 a0.Key a0.Width a0.Ends a0.Flight a0.Forged a0.Given a0.Taken
mutual
noncomputable def iJ:Nat→Int→ByteArray→Int→List aN→List aD→ByteArray→List aA→List aA→Option (Bool)
 | 0,_,_,_,_,_,_,_,_=>none
 | k+1,A,B,C,D,E,F,G,H=>
 bif (decide (A<(H.length:Int))) then
 (idx H A).bind fun y2=>
 kG k A 0 0 B C D E F G H y2.From y2.A y2.B y2.Text
 else
 some true
noncomputable def kG:Nat→Int→Int→Int→ByteArray→Int→List aN→List aD→ByteArray→List aA→List aA→Int→Int→Int→ByteArray→Option (Bool)
 | 0,_,_,_,_,_,_,_,_,_,_,_,_,_,_=>none
 | k+1,A,B,C,D,E,F,G,H,I,J,K,L,M,N=>
 bif (decide (C<A)) then
 (idx J C).bind fun y3=>
 bif (y3.From==K) then
 (idx J C).bind fun y4=>
 bif (y4.A==L) then
 (idx J C).bind fun y5=>
 bif (y5.B==M) then
 eP k A (IntKind.wrap .i64 (B+1)) C D E F G H I J K L M N
 else
 eP k A B C D E F G H I J K L M N
 else
 eP k A B C D E F G H I J K L M N
 else
 eP k A B C D E F G H I J K L M N
 else
 gD k A B false 0 D E F G H I J K L M N
noncomputable def eP:Nat→Int→Int→Int→ByteArray→Int→List aN→List aD→ByteArray→List aA→List aA→Int→Int→Int→ByteArray→Option (Bool)
 | 0,_,_,_,_,_,_,_,_,_,_,_,_,_,_=>none
 | k+1,A,B,C,D,E,F,G,H,I,J,K,L,M,N=>
 kG k A B (IntKind.wrap .i64 (C+1)) D E F G H I J K L M N
noncomputable def gD:Nat→Int→Int→Bool→Int→ByteArray→Int→List aN→List aD→ByteArray→List aA→List aA→Int→Int→Int→ByteArray→Option (Bool)
 | 0,_,_,_,_,_,_,_,_,_,_,_,_,_,_,_=>none
 | k+1,A,B,C,D,E,F,G,H,I,J,K,L,M,N,O=>
 bif (decide (D<(J.length:Int))) then
 (idx J D).bind fun y6=>
 bif (y6.From==L) then
 bif (y6.A==M) then
 bif (y6.B==N) then
 bif C then
 dB k A (IntKind.wrap .i64 (B-1)) true D E F G H I J K L M N O
 else
 bif (B==0) then
 dB k A (IntKind.wrap .i64 (B-1)) (y6.Text.toList==O.toList) D E F G H I J K L M N O
 else
 dB k A (IntKind.wrap .i64 (B-1)) false D E F G H I J K L M N O
 else
 dB k A B C D E F G H I J K L M N O
 else
 dB k A B C D E F G H I J K L M N O
 else
 dB k A B C D E F G H I J K L M N O
 else
 bif (!C) then
 some false
 else
 iJ k (IntKind.wrap .i64 (A+1)) E F G H I J K
noncomputable def dB:Nat→Int→Int→Bool→Int→ByteArray→Int→List aN→List aD→ByteArray→List aA→List aA→Int→Int→Int→ByteArray→Option (Bool)
 | 0,_,_,_,_,_,_,_,_,_,_,_,_,_,_,_=>none
 | k+1,A,B,C,D,E,F,G,H,I,J,K,L,M,N,O=>
 gD k A B C (IntKind.wrap .i64 (D+1)) E F G H I J K L M N O
end
noncomputable def xN (k:Nat) (a0:aC):Option (Bool):=
 (eW k a0).bind fun r1=>
 bif (!r1) then
 some false
 else
 iJ k 0 a0.Key a0.Width a0.Ends a0.Flight a0.Forged a0.Given a0.Taken
noncomputable def dI:Nat→Int→Int→List bQ→Int→ByteArray→ByteArray→Option (List bQ×Bool)
 | 0,_,_,_,_,_,_=>none
 | k+1,A,B,C,D,E,F=>
 bif (decide (B<(C.length:Int))) then
 (idx C B).bind fun _=>
 (C[(Int.toNat B)]?).bind fun y1=>
 bif (y1.to==D) then
 (idx C B).bind fun _=>
 (C[(Int.toNat B)]?).bind fun y2=>
 bif (y2.bytes.toList==F.toList) then
 (idx C B).bind fun _=>
 (C[(Int.toNat B)]?).bind fun y3=>
 (idx C B).bind fun _=>
 (C[(Int.toNat B)]?).bind fun y4=>
 (idx (C.set (Int.toNat B) (⟨y4.to,y4.bytes,(IntKind.wrap .i64 (y3.n+1))⟩:bQ)) B).bind fun _=>
 ((C.set (Int.toNat B) (⟨y4.to,y4.bytes,(IntKind.wrap .i64 (y3.n+1))⟩:bQ))[(Int.toNat B)]?).bind fun y5=>
 (KP y5.n A).bind fun q6=>
 some ((C.set (Int.toNat B) (⟨y4.to,y4.bytes,(IntKind.wrap .i64 (y3.n+1))⟩:bQ)),(q6==0))
 else
 dI k A (IntKind.wrap .i64 (B+1)) C D E F
 else
 dI k A (IntKind.wrap .i64 (B+1)) C D E F
 else
 (app 32 C ([(⟨D,F,1⟩:bQ)]:List bQ)).bind fun l7=>
 some (l7,(A==1))
noncomputable def pG (k:Nat) (a0:List bQ) (a1:aD) (a2:Int):Option (List bQ×Bool):=
 dI k a2 0 a0 a1.To a1.Sent a1.Bytes
mutual
noncomputable def mB:Nat→Int→Int→Int→ByteArray→Int→ByteArray→ByteArray→Int→ByteArray→List bQ→List aN→List aD→List aA→List aA→List aN→List aD→List aA→List aA→Option (aC)
 | 0,_,_,_,_,_,_,_,_,_,_,_,_,_,_,_,_,_,_=>none
 | k+1,A,B,C,D,E,F,G,H,I,J,K,L,M,N,O,P,Q,R=>
 bif (decide (C<A)) then
 bif (decide (C<5000)) then
 (qH k (⟨G,H,O,P,I,Q,R⟩:aC)).bind fun r4=>
 j6 k A B C D E F r4.Key r4.Width r4.Forged J K L M N r4.Ends r4.Flight r4.Given r4.Taken
 else
 (iC k (⟨G,H,O,P,I,Q,R⟩:aC)).bind fun r5=>
 some r5
 else
 (iC k (⟨G,H,O,P,I,Q,R⟩:aC)).bind fun r6=>
 some r6
noncomputable def j6:Nat→Int→Int→Int→ByteArray→Int→ByteArray→ByteArray→Int→ByteArray→List bQ→List aN→List aD→List aA→List aA→List aN→List aD→List aA→List aA→Option (aC)
 | 0,_,_,_,_,_,_,_,_,_,_,_,_,_,_,_,_,_,_=>none
 | k+1,A,B,C,D,E,F,G,H,I,J,K,L,M,N,O,P,Q,R=>
 bif (decide ((P.length:Int)>0)) then
 (idx P 0).bind fun _=>
 (P[(Int.toNat 0)]?).bind fun y7=>
 (pG k J y7 B).bind fun r8=>
 bif r8.2 then
 (oQ k (⟨G,H,O,P,I,Q,R⟩:aC) 0).bind fun r9=>
 j6 k A B C D E F r9.Key r9.Width r9.Forged r8.1 K L M N r9.Ends r9.Flight r9.Given r9.Taken
 else
 (i8 k P 0).bind fun r10=>
 j6 k A B C D E F G H I r8.1 K L M N O r10 Q R
 else
 eN k A B C 1 D E F G H I J K L M N O P Q R
noncomputable def eN:Nat→Int→Int→Int→Int→ByteArray→Int→ByteArray→ByteArray→Int→ByteArray→List bQ→List aN→List aD→List aA→List aA→List aN→List aD→List aA→List aA→Option (aC)
 | 0,_,_,_,_,_,_,_,_,_,_,_,_,_,_,_,_,_,_,_=>none
 | k+1,A,B,C,D,E,F,G,H,I,J,K,L,M,N,O,P,Q,R,S=>
 bif (decide (D≤2)) then
 kE k A B C D 0 E F G H I J K L M N O P Q R S
 else
 mB k A B (IntKind.wrap .i64 (C+1)) E F G H I J K L M N O P Q R S
noncomputable def kE:Nat→Int→Int→Int→Int→Int→ByteArray→Int→ByteArray→ByteArray→Int→ByteArray→List bQ→List aN→List aD→List aA→List aA→List aN→List aD→List aA→List aA→Option (aC)
 | 0,_,_,_,_,_,_,_,_,_,_,_,_,_,_,_,_,_,_,_,_=>none
 | k+1,A,B,C,D,E,F,G,H,I,J,K,L,M,N,O,P,Q,R,S,T=>
 bif (decide (E<4)) then
 (idx Q (IntKind.wrap .i64 (D-1))).bind fun _=>
 (Q[(Int.toNat (IntKind.wrap .i64 (D-1)))]?).bind fun y11=>
 bif (decide ((y11.Take.Ready.length:Int)>0)) then
 (qB k (⟨I,J,Q,R,K,S,T⟩:aC) (⟨11,D,0,0,(⟨#[]⟩:ByteArray)⟩:c6)).bind fun r12=>
 kE k A B C D (IntKind.wrap .i64 (E+1)) F G H r12.Key r12.Width r12.Forged L M N O P r12.Ends r12.Flight r12.Given r12.Taken
 else
 eN k A B C (IntKind.wrap .i64 (D+1)) F G H I J K L M N O P Q R S T
 else
 eN k A B C (IntKind.wrap .i64 (D+1)) F G H I J K L M N O P Q R S T
end
noncomputable def vH (k:Nat) (a0:aC) (a1:Int) (a2:Int):Option (aC):=
 (eW k a0).bind fun r1=>
 bif (!r1) then
 some (⟨(⟨#[]⟩:ByteArray),0,([]:List aN),([]:List aD),(⟨#[]⟩:ByteArray),([]:List aA),([]:List aA)⟩:aC)
 else
 (aZ k a2 1 10).bind fun r2=>
 bif (!r2) then
 some (⟨(⟨#[]⟩:ByteArray),0,([]:List aN),([]:List aD),(⟨#[]⟩:ByteArray),([]:List aA),([]:List aA)⟩:aC)
 else
 (iC k a0).bind fun r3=>
 mB k a1 a2 0 (⟨#[]⟩:ByteArray) 0 (⟨#[]⟩:ByteArray) r3.Key r3.Width r3.Forged ([]:List bQ) ([]:List aN) ([]:List aD) ([]:List aA) ([]:List aA) r3.Ends r3.Flight r3.Given r3.Taken
noncomputable def mJ:Nat→Int→ByteArray→Int→List aN→List aD→ByteArray→List aA→List aA→Option (Bool)
 | 0,_,_,_,_,_,_,_,_=>none
 | k+1,A,B,C,D,E,F,G,H=>
 bif (decide (A<2)) then
 (idx D A).bind fun y2=>
 bif (!y2.Up) then
 some false
 else
 (idx D (IntKind.wrap .i64 (1-A))).bind fun y3=>
 bif (y2.Peer !=y3.Life) then
 some false
 else
 bif (decide ((y2.Send.Items.length:Int)>0)) then
 some false
 else
 bif (decide ((y2.Take.Held.length:Int)>0)) then
 some false
 else
 bif (!(y2.Take.Open.toList==(⟨#[]⟩:ByteArray).toList)) then
 some false
 else
 bif (decide ((y2.Take.Ready.length:Int)>0)) then
 some false
 else
 mJ k (IntKind.wrap .i64 (A+1)) B C D E F G H
 else
 some true
noncomputable def BB (k:Nat) (a0:aC):Option (Bool):=
 (eW k a0).bind fun r1=>
 bif (!r1) then
 some false
 else
 mJ k 0 a0.Key a0.Width a0.Ends a0.Flight a0.Forged a0.Given a0.Taken
noncomputable def aU (k:Nat) (a0:eI) (a1:Int):Option (Int×eI):=
 bif (decide (a1<1)) then
 some (0,(⟨a0.b,(IntKind.wrap .i64 (a0.p+1))⟩:eI))
 else
 bif ((a0.b.length:Int)==0) then
 some (0,(⟨a0.b,(IntKind.wrap .i64 (a0.p+1))⟩:eI))
 else
 bif (decide ((IntKind.wrap .i64 ((IntKind.wrap .i64 (a0.p+1))-1))<(a0.b.length:Int))) then
 (idx a0.b (IntKind.wrap .i64 ((IntKind.wrap .i64 (a0.p+1))-1))).bind fun y1=>
 (KP (IntKind.wrap .i64 y1) a1).bind fun q2=>
 some (q2,(⟨a0.b,(IntKind.wrap .i64 (a0.p+1))⟩:eI))
 else
 (KP (IntKind.wrap .i64 ((IntKind.wrap .i64 (a0.p+1))-1)) (a0.b.length:Int)).bind fun q3=>
 (idx a0.b q3).bind fun y4=>
 (KP (IntKind.wrap .i64 ((IntKind.wrap .i64 ((IntKind.wrap .i64 ((IntKind.wrap .i64 (a0.p+1))-1))*7))+3)) (a0.b.length:Int)).bind fun q5=>
 (idx a0.b q5).bind fun y6=>
 (VX (IntKind.wrap .i64 ((IntKind.wrap .i64 (a0.p+1))-1)) (a0.b.length:Int)).bind fun q7=>
 (VX (IntKind.wrap .i64 ((IntKind.wrap .i64 ((IntKind.wrap .i64 ((IntKind.wrap .i64 ((IntKind.wrap .i64 y4)*131))+(IntKind.wrap .i64 ((IntKind.wrap .i64 y6)*1117))))+(IntKind.wrap .i64 ((IntKind.wrap .i64 ((IntKind.wrap .i64 (a0.p+1))-1))*29))))+(IntKind.wrap .i64 ((IntKind.wrap .i64 (q7))*53)))) 64).bind fun q8=>
 (KP (w6 .i64 (IntKind.wrap .i64 ((IntKind.wrap .i64 ((IntKind.wrap .i64 ((IntKind.wrap .i64 ((IntKind.wrap .i64 y4)*131))+(IntKind.wrap .i64 ((IntKind.wrap .i64 y6)*1117))))+(IntKind.wrap .i64 ((IntKind.wrap .i64 ((IntKind.wrap .i64 (a0.p+1))-1))*29))))+(IntKind.wrap .i64 ((IntKind.wrap .i64 (q7))*53)))) (IntKind.wrap .i64 (q8))) a1).bind fun q9=>
 some (q9,(⟨a0.b,(IntKind.wrap .i64 (a0.p+1))⟩:eI))
mutual
noncomputable def i7:Nat→ByteArray→Int→ByteArray→Option (ByteArray)
 | 0,_,_,_=>none
 | k+1,A,B,C=>
 bif (decide (B>0)) then
 (KP B 2).bind fun q1=>
 bif (q1==1) then
 (iY C A).bind fun t2=>
 oL k A B t2
 else
 oL k A B C
 else
 some C
noncomputable def oL:Nat→ByteArray→Int→ByteArray→Option (ByteArray)
 | 0,_,_,_=>none
 | k+1,A,B,C=>
 (iY A A).bind fun t3=>
 (VX B 2).bind fun q4=>
 i7 k t3 (IntKind.wrap .i64 (q4)) C
end
noncomputable def qS (k:Nat) (a0:ByteArray) (a1:Int):Option (ByteArray):=
 i7 k a0 a1 (⟨#[]⟩:ByteArray)
noncomputable def fW:Nat→ByteArray→Int→List Int→Int→Option (ByteArray×eI)
 | 0,_,_,_,_=>none
 | k+1,A,B,C,D=>
 bif (decide (B>0)) then
 (aU k (⟨C,D⟩:eI) 5).bind fun r10=>
 (wnd (⟨#[97,98,99,100,32]⟩:ByteArray).size r10.1 ((⟨#[97,98,99,100,32]⟩:ByteArray).size:Int)).bind fun p11=>
 (wnd ((⟨#[97,98,99,100,32]⟩:ByteArray).extract p11.1 p11.2).size 0 1).bind fun p12=>
 (iY A (((⟨#[97,98,99,100,32]⟩:ByteArray).extract p11.1 p11.2).extract p12.1 p12.2)).bind fun t13=>
 fW k t13 (IntKind.wrap .i64 (B-1)) r10.2.b r10.2.p
 else
 some (A,(⟨C,D⟩:eI))
noncomputable def lI (k:Nat) (a0:eI):Option (ByteArray×eI):=
 (aU k a0 8).bind fun r1=>
 bif (r1.1==0) then
 some ((⟨#[]⟩:ByteArray),r1.2)
 else
 bif (r1.1==1) then
 (aU k r1.2 5).bind fun r2=>
 (aU k r2.2 3).bind fun r3=>
 (aU k r3.2 2).bind fun r4=>
 (aU k r4.2 2).bind fun r5=>
 (qS k (⟨#[109]⟩:ByteArray) (IntKind.wrap .i64 ((IntKind.wrap .i64 ((IntKind.wrap .i64 (20*r2.1))+r3.1))-(IntKind.wrap .i64 (r4.1*r5.1))))).bind fun r6=>
 some (r6,r5.2)
 else
 bif (r1.1==2) then
 (aU k r1.2 19).bind fun r7=>
 (qS k (⟨#[48,49,50,51,52,53,54,55,56,57]⟩:ByteArray) (IntKind.wrap .i64 (1+r7.1))).bind fun r8=>
 some (r8,r7.2)
 else
 bif (r1.1==3) then
 some ((⟨#[0,255]⟩:ByteArray),r1.2)
 else
 (aU k r1.2 30).bind fun r9=>
 fW k (⟨#[]⟩:ByteArray) (IntKind.wrap .i64 (1+r9.1)) r9.2.b r9.2.p
mutual
noncomputable def oK:Nat→Int→List Int→Int→Int→Int→List aI→List aI→Option (aK×eI)
 | 0,_,_,_,_,_,_,_=>none
 | k+1,A,B,C,D,E,F,G=>
 bif (decide (A>0)) then
 both (
 (lI k (⟨B,C⟩:eI)).bind fun r4=>
 (iH k (⟨E,G⟩:aK) r4.1).bind fun r5=>
 bif (r5.2==0) then
 eQ k A r4.2.b r4.2.p D r5.1.Base F r5.1.Items
 else
 eQ k A r4.2.b r4.2.p D E F G
 ) (
 both (
 (lI k (⟨B,C⟩:eI)).bind fun r6=>
 (iH k (⟨E,G⟩:aK) r6.1).bind fun r7=>
 bif (r7.2==0) then
 eQ k A r6.2.b r6.2.p D r7.1.Base F r7.1.Items
 else
 eQ k A r6.2.b r6.2.p D E F G
 ) (
 (lI k (⟨B,C⟩:eI)).bind fun r8=>
 (iH k (⟨E,G⟩:aK) r8.1).bind fun r9=>
 bif (r9.2==0) then
 eQ k A r8.2.b r8.2.p D r9.1.Base F r9.1.Items
 else
 eQ k A r8.2.b r8.2.p D E F G
 )
 )
 else
 (aU k (⟨B,C⟩:eI) 12).bind fun r10=>
 bif (r10.1==0) then
 (aU k r10.2 3).bind fun r11=>
 jY k (IntKind.wrap .i64 (60-r11.1)) r11.2.b r11.2.p D E F G
 else
 jX k r10.2.b r10.2.p D E F G
noncomputable def eQ:Nat→Int→List Int→Int→Int→Int→List aI→List aI→Option (aK×eI)
 | 0,_,_,_,_,_,_,_=>none
 | k+1,A,B,C,D,E,F,G=>
 (aU k (⟨B,C⟩:eI) 6).bind fun r12=>
 kX k A r12.1 r12.2.b r12.2.p D E F G
noncomputable def jY:Nat→Int→List Int→Int→Int→Int→List aI→List aI→Option (aK×eI)
 | 0,_,_,_,_,_,_,_=>none
 | k+1,A,B,C,D,E,F,G=>
 bif (decide ((G.length:Int)<A)) then
 bif (decide ((IntKind.wrap .i64 (E+(G.length:Int)))<1000000)) then
 (app 40 G ([(⟨(⟨(⟨#[102]⟩:ByteArray),true⟩:bV),false,(-1)⟩:aI)]:List aI)).bind fun l13=>
 jY k A B C D E F l13
 else
 jX k B C D E F G
 else
 jX k B C D E F G
noncomputable def jX:Nat→List Int→Int→Int→Int→List aI→List aI→Option (aK×eI)
 | 0,_,_,_,_,_,_=>none
 | k+1,A,B,C,D,E,F=>
 (jS k (⟨D,F⟩:aK)).bind fun r14=>
 some (r14,(⟨A,B⟩:eI))
noncomputable def kX:Nat→Int→Int→List Int→Int→Int→Int→List aI→List aI→Option (aK×eI)
 | 0,_,_,_,_,_,_,_,_=>none
 | k+1,A,B,C,D,E,F,G,H=>
 bif (decide (B>0)) then
 (nL k (⟨F,H⟩:aK)).bind fun r15=>
 kX k A (IntKind.wrap .i64 (B-1)) C D E r15.1.Base G r15.1.Items
 else
 (aU k (⟨C,D⟩:eI) 3).bind fun r16=>
 bif (r16.1==0) then
 (aU k r16.2 4).bind fun r17=>
 (aU k r17.2 256).bind fun r18=>
 (m8 k (⟨F,H⟩:aK) (IntKind.wrap .i64 (F+r17.1)) r18.1).bind fun r19=>
 oJ k A r18.2.b r18.2.p E r19.Base G r19.Items
 else
 oJ k A r16.2.b r16.2.p E F G H
noncomputable def oJ:Nat→Int→List Int→Int→Int→Int→List aI→List aI→Option (aK×eI)
 | 0,_,_,_,_,_,_,_=>none
 | k+1,A,B,C,D,E,F,G=>
 oK k (IntKind.wrap .i64 (A-1)) B C D E F G
end
mutual
noncomputable def w9:Nat→List Int→Int→Int→Int→List aI→List aI→Option (aK×eI)
 | 0,_,_,_,_,_,_=>none
 | k+1,A,B,C,D,E,F=>
 (aU k (⟨A,B⟩:eI) (F.length:Int)).bind fun r2=>
 (aU k r2.2 6).bind fun r3=>
 bif (r3.1==0) then
 (aU k r3.2 3).bind fun r4=>
 (idx ([(-1),1000000,1000001]:List Int) r4.1).bind fun y5=>
 cU k r4.2.b r4.2.p C y5 E F
 else
 bif (r3.1==1) then
 (aU k r3.2 5).bind fun r6=>
 (idx ([(-2),(-1),0,3,4]:List Int) r6.1).bind fun y7=>
 (idx F r2.1).bind fun _=>
 (F[(Int.toNat r2.1)]?).bind fun y8=>
 cU k r6.2.b r6.2.p C D E (F.set (Int.toNat r2.1) (⟨y8.Part,y8.Has,y7⟩:aI))
 else
 bif (r3.1==2) then
 (idx F r2.1).bind fun _=>
 (F[(Int.toNat r2.1)]?).bind fun y9=>
 (idx F r2.1).bind fun _=>
 (F[(Int.toNat r2.1)]?).bind fun y10=>
 cU k r3.2.b r3.2.p C D E (F.set (Int.toNat r2.1) (⟨y10.Part,(!y9.Has),y10.Since⟩:aI))
 else
 bif (r3.1==3) then
 (aU k r3.2 2).bind fun r11=>
 (qS k (⟨#[115]⟩:ByteArray) (IntKind.wrap .i64 (20+r11.1))).bind fun r12=>
 (idx F r2.1).bind fun _=>
 (F[(Int.toNat r2.1)]?).bind fun y13=>
 cU k r11.2.b r11.2.p C D E (F.set (Int.toNat r2.1) (⟨(⟨r12,y13.Part.Last⟩:bV),y13.Has,y13.Since⟩:aI))
 else
 bif (r3.1==4) then
 (aU k r3.2 2).bind fun r14=>
 iT k (IntKind.wrap .i64 (60+r14.1)) r14.2.b r14.2.p C D E F
 else
 jN k r3.2.b r3.2.p C D E F
noncomputable def cU:Nat→List Int→Int→Int→Int→List aI→List aI→Option (aK×eI)
 | 0,_,_,_,_,_,_=>none
 | k+1,A,B,C,D,E,F=>
 some ((⟨D,F⟩:aK),(⟨A,B⟩:eI))
noncomputable def iT:Nat→Int→List Int→Int→Int→Int→List aI→List aI→Option (aK×eI)
 | 0,_,_,_,_,_,_,_=>none
 | k+1,A,B,C,D,E,F,G=>
 bif (decide ((G.length:Int)<A)) then
 (app 40 G ([(⟨(⟨(⟨#[]⟩:ByteArray),false⟩:bV),false,(-1)⟩:aI)]:List aI)).bind fun l15=>
 iT k A B C D E F l15
 else
 cU k B C D E F G
noncomputable def jN:Nat→List Int→Int→Int→Int→List aI→List aI→Option (aK×eI)
 | 0,_,_,_,_,_,_=>none
 | k+1,A,B,C,D,E,F=>
 bif (decide ((F.length:Int)≤8)) then
 (app 40 F ([(⟨(⟨(⟨#[]⟩:ByteArray),false⟩:bV),false,(-1)⟩:aI)]:List aI)).bind fun l16=>
 jN k A B C D E l16
 else
 (aU k (⟨A,B⟩:eI) 2).bind fun r17=>
 (idx F 8).bind fun _=>
 (F[(Int.toNat 8)]?).bind fun y18=>
 cU k r17.2.b r17.2.p C D E (F.set (Int.toNat 8) (⟨y18.Part,y18.Has,(IntKind.wrap .i64 (r17.1-1))⟩:aI))
end
structure cW where
  addr:Bool
  buf:List Int
def impl_kinds:List (ByteArray×Int×Int):=[
 (⟨#[116,105,99,107]⟩,1,0),(⟨#[98,114,105,110,103]⟩,2,1),(⟨#[100,111,117,98,108,101]⟩,3,1),(⟨#[108,111,115,101]⟩,4,1),(⟨#[98,101,110,100]⟩,5,3),
 (⟨#[99,117,116]⟩,6,2),(⟨#[116,117,114,110]⟩,7,1),(⟨#[102,97,108,108]⟩,8,1),(⟨#[114,105,115,101]⟩,9,1)]
def strings_HasPrefix (k:Nat) (s p:ByteArray):Option Bool:=some (Lib.hasPrefix s.data.toList p.data.toList)
def strings_Split (k:Nat) (s sep:ByteArray):Option (List ByteArray):=
 if s.size<4294967281∧1≤sep.size then some (Lib.splitB sep 0 (Lib.countB s sep) s) else none
def strings_SplitN (k:Nat) (s sep:ByteArray) (n:Int):Option (List ByteArray):=
 if s.size<4294967281∧1≤sep.size∧1≤n∧n≤9223372036854775807 then some (Lib.splitB sep 0 (min n.toNat (s.size+1)-1) s) else none
def strconv_Itoa (k:Nat) (n:Int):Option ByteArray:=
 if-9223372036854775808≤n∧n≤9223372036854775807 then some ⟨(Lib.itoa n).toArray⟩ else none
def mH (k:Nat) (s:ByteArray):Option (Int×Unit):=
 if s.size≤9223372036854775806 then (match Lib.atoiAll s.data.toList with | .ok v=>some (v,()) | _=>none) else none
def n8 (k:Nat) (b:cW):Option cW:=some ⟨true,b.buf⟩
def lA (k:Nat) (b:cW):Option ByteArray:=
 if b.buf.length≤140737488355328∧(∀x∈b.buf,0≤x∧x<256)∧(b.addr=false∨b.buf≠[]) then some (m6 b.buf) else none
end Km.X
