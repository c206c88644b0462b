/- A part of the proof of FnLines: the functions that it reads off the program. There is no condition. -/
import Derived.Test.YtgffmpjadffjkaaGreatDoorKxDef1
import Derived.Lib.Strings
import Derived.Lib.Split
import Derived.Lib.ItoaNum
import Derived.Lib.AtoiAll
set_option linter.unusedVariables false
namespace Km.X
open Go Km
set_option maxRecDepth 100000
noncomputable def nS (k:Nat) (a0:ByteArray) (a1:Int):Option (aC):=
 bif (decide (a1<1)) then
 some (⟨(⟨#[]⟩:ByteArray),0,([]:List aN),([]:List aE),(⟨#[]⟩:ByteArray),([]:List aA),([]:List aA)⟩:aC)
 else
 bif (decide (a1>8)) then
 some (⟨(⟨#[]⟩:ByteArray),0,([]:List aN),([]:List aE),(⟨#[]⟩:ByteArray),([]:List aA),([]:List aA)⟩:aC)
 else
 bif (decide ((a0.size:Int)>30)) then
 some (⟨(⟨#[]⟩:ByteArray),0,([]:List aN),([]:List aE),(⟨#[]⟩:ByteArray),([]:List aA),([]:List aA)⟩:aC)
 else
 (rN k 1).bind fun r1=>
 (rN k 2).bind fun r2=>
 some (⟨a0,a1,([r1,r2]:List aN),([]:List aE),(⟨#[]⟩:ByteArray),([]:List aA),([]:List aA)⟩:aC)
noncomputable def nG (k:Nat) (a0:ByteArray) (a1:Int):Option (aC):=
 (a6 k a1 1 8).bind fun r1=>
 bif (!r1) then
 some (⟨(⟨#[]⟩:ByteArray),0,([]:List aN),([]:List aE),(⟨#[]⟩:ByteArray),([]:List aA),([]:List aA)⟩:aC)
 else
 bif (decide ((a0.size:Int)>30)) then
 some (⟨(⟨#[]⟩:ByteArray),0,([]:List aN),([]:List aE),(⟨#[]⟩:ByteArray),([]:List aA),([]:List aA)⟩:aC)
 else
 (qS k 1).bind fun r2=>
 (qS k 2).bind fun r3=>
 some (⟨a0,a1,([r2,r3]:List aN),([]:List aE),(⟨#[]⟩:ByteArray),([]:List aA),([]:List aA)⟩:aC)
mutual
noncomputable def eB:Nat→List aN→Int→Int→ByteArray→Int→List aN→List aE→ByteArray→List aA→List aA→Option (Bool)
 | 0,_,_,_,_,_,_,_,_,_,_=>none
 | k+1,A,B,C,D,E,F,G,H,I,J=>
 bif (decide (C<B)) then
 (idx A C).bind fun y1=>
 (dV k y1).bind fun r2=>
 bif (!r2) then
 some false
 else
 bif (y1.Number !=(IntKind.wrap .i64 (C+1))) then
 some false
 else
 eB k A B (IntKind.wrap .i64 (C+1)) D E F G H I J
 else
 cD k G (G.length:Int) 0 D E F G H I J
noncomputable def cD:Nat→List aE→Int→Int→ByteArray→Int→List aN→List aE→ByteArray→List aA→List aA→Option (Bool)
 | 0,_,_,_,_,_,_,_,_,_,_=>none
 | k+1,A,B,C,D,E,F,G,H,I,J=>
 bif (decide (C<B)) then
 (idx A C).bind fun y3=>
 bif (y3.To !=1) then
 bif (y3.To !=2) then
 some false
 else
 bif (decide ((y3.Sent.size:Int)>100)) then
 some false
 else
 bif (decide ((y3.Bytes.size:Int)>100)) then
 some false
 else
 cD k A B (IntKind.wrap .i64 (C+1)) D E F G H I J
 else
 bif (decide ((y3.Sent.size:Int)>100)) then
 some false
 else
 bif (decide ((y3.Bytes.size:Int)>100)) then
 some false
 else
 cD k A B (IntKind.wrap .i64 (C+1)) D E F G H I J
 else
 cH k (([I,J]:List (List aA)).length:Int) 0 ([I,J]:List (List aA))
noncomputable def cH:Nat→Int→Int→List (List aA)→Option (Bool)
 | 0,_,_,_=>none
 | k+1,A,B,C=>
 bif (decide (B<A)) then
 (idx C B).bind fun _=>
 (C[(Int.toNat B)]?).bind fun y4=>
 cF k A B y4 (y4.length:Int) 0 C
 else
 some true
noncomputable def cF:Nat→Int→Int→List aA→Int→Int→List (List aA)→Option (Bool)
 | 0,_,_,_,_,_,_=>none
 | k+1,A,B,C,D,E,F=>
 bif (decide (E<D)) then
 (idx C E).bind fun y5=>
 bif (y5.From !=1) then
 bif (y5.From !=2) then
 some false
 else
 (bR k y5.A 1 1000).bind fun r6=>
 bif (!r6) then
 some false
 else
 (bR k y5.B 1 1000).bind fun r7=>
 bif (!r7) then
 some false
 else
 bif (decide ((y5.Text.size:Int)>200)) then
 some false
 else
 cF k A B C D (IntKind.wrap .i64 (E+1)) F
 else
 (bR k y5.A 1 1000).bind fun r8=>
 bif (!r8) then
 some false
 else
 (bR k y5.B 1 1000).bind fun r9=>
 bif (!r9) then
 some false
 else
 bif (decide ((y5.Text.size:Int)>200)) then
 some false
 else
 cF k A B C D (IntKind.wrap .i64 (E+1)) F
 else
 cH k A (IntKind.wrap .i64 (B+1)) F
end
noncomputable def fC (k:Nat) (a0:aC):Option (Bool):=
 bif (decide (a0.Width<1)) then
 some false
 else
 bif (decide (a0.Width>8)) then
 some false
 else
 bif (decide ((a0.Key.size:Int)>30)) then
 some false
 else
 bif ((a0.Ends.length:Int) !=2) then
 some false
 else
 bif (decide ((a0.Flight.length:Int)>1000)) then
 some false
 else
 bif (decide ((IntKind.wrap .i64 ((a0.Given.length:Int)+(a0.Taken.length:Int)))>400)) then
 some false
 else
 eB k a0.Ends (a0.Ends.length:Int) 0 a0.Key a0.Width a0.Ends a0.Flight a0.Forged a0.Given a0.Taken
noncomputable def eS:Nat→Int→Int→ByteArray→Int→List aE→ByteArray→List aA→List aA→ByteArray→Int→ByteArray→List aN→List aN→List aE→List aA→List aA→Option (aC)
 | 0,_,_,_,_,_,_,_,_,_,_,_,_,_,_,_,_=>none
 | k+1,A,B,C,D,E,F,G,H,I,J,K,L,M,N,O,P=>
 bif (decide (B<A)) then
 (idx L B).bind fun _=>
 (L[(Int.toNat B)]?).bind fun y2=>
 (fY k y2).bind fun r3=>
 (idx L B).bind fun _=>
 (L[(Int.toNat B)]?).bind fun y4=>
 eS k A (IntKind.wrap .i64 (B+1)) C D E F G H I J K (L.set (Int.toNat B) r3) M N O P
 else
 (app 40 ([]:List aE) E).bind fun l5=>
 (app 40 ([]:List aA) G).bind fun l6=>
 (app 40 ([]:List aA) H).bind fun l7=>
 some (⟨C,D,L,l5,F,l6,l7⟩:aC)
noncomputable def lQ (k:Nat) (a0:aC):Option (aC):=
 (app 152 ([]:List aN) a0.Ends).bind fun l1=>
 eS k (l1.length:Int) 0 a0.Key a0.Width a0.Flight a0.Forged a0.Given a0.Taken (⟨#[]⟩:ByteArray) 0 (⟨#[]⟩:ByteArray) l1 ([]:List aN) ([]:List aE) ([]:List aA) ([]:List aA)
mutual
noncomputable def cR:Nat→Int→Int→ByteArray→Int→ByteArray→List aN→List aE→List aA→List aA→Option (aC)
 | 0,_,_,_,_,_,_,_,_,_=>none
 | k+1,A,B,C,D,E,F,G,H,I=>
 bif (decide (B<A)) then
 (idx F B).bind fun _=>
 (F[(Int.toNat B)]?).bind fun y1=>
 (sP k y1).bind fun r2=>
 (idx F B).bind fun _=>
 (F[(Int.toNat B)]?).bind fun y3=>
 d9 k B A B (r2.Out.length:Int) 0 C D E r2.Out (F.set (Int.toNat B) r2.End) G H I
 else
 some (⟨C,D,F,G,E,H,I⟩:aC)
noncomputable def d9:Nat→Int→Int→Int→Int→Int→ByteArray→Int→ByteArray→List aF→List aN→List aE→List aA→List aA→Option (aC)
 | 0,_,_,_,_,_,_,_,_,_,_,_,_,_=>none
 | k+1,A,B,C,D,E,F,G,H,I,J,K,L,M=>
 bif (decide (E<D)) then
 (idx I E).bind fun _=>
 (I[(Int.toNat E)]?).bind fun y4=>
 bif (decide ((K.length:Int)<1000)) then
 (hJ k y4 F G).bind fun r5=>
 (app 40 K ([(⟨(IntKind.wrap .i64 (2-A)),r5,r5⟩:aE)]:List aE)).bind fun l6=>
 eW k A B C D E F G H I J l6 L M
 else
 eW k A B C D E F G H I J K L M
 else
 cR k B (IntKind.wrap .i64 (C+1)) F G H J K L M
noncomputable def eW:Nat→Int→Int→Int→Int→Int→ByteArray→Int→ByteArray→List aF→List aN→List aE→List aA→List aA→Option (aC)
 | 0,_,_,_,_,_,_,_,_,_,_,_,_,_=>none
 | k+1,A,B,C,D,E,F,G,H,I,J,K,L,M=>
 d9 k A B C D (IntKind.wrap .i64 (E+1)) F G H I J K L M
end
noncomputable def j7 (k:Nat) (a0:aC):Option (aC):=
 cR k (a0.Ends.length:Int) 0 a0.Key a0.Width a0.Forged a0.Ends a0.Flight a0.Given a0.Taken
noncomputable def dL:Nat→ByteArray→Int→ByteArray→Int→ByteArray→ByteArray→Int→Int→Int→Int→Int→Int→Int→Bool→ByteArray→List aN→List aE→List aA→List aA→Option (aC)
 | 0,_,_,_,_,_,_,_,_,_,_,_,_,_,_,_,_,_,_,_=>none
 | k+1,A,B,C,D,E,F,G,H,I,J,K,L,M,N,O,P,Q,R,S=>
 (idx P (IntKind.wrap .i64 (D-1))).bind fun _=>
 (P[(Int.toNat (IntKind.wrap .i64 (D-1)))]?).bind fun y2=>
 (rY k y2 (⟨G,H,I,J,K,L,M,N,O⟩:aF)).bind fun r3=>
 (idx P (IntKind.wrap .i64 (D-1))).bind fun _=>
 (P[(Int.toNat (IntKind.wrap .i64 (D-1)))]?).bind fun y4=>
 some (⟨A,B,(P.set (Int.toNat (IntKind.wrap .i64 (D-1))) r3.End),Q,C,R,S⟩:aC)
noncomputable def fV (k:Nat) (a0:aC) (a1:aE):Option (aC):=
 (nD k a1.Bytes a0.Key a0.Width).bind fun r1=>
 bif (!r1.2) then
 some a0
 else
 bif (!(a1.Bytes.toList==a1.Sent.toList)) then
 bif (a0.Forged.toList==(⟨#[]⟩:ByteArray).toList) then
 dL k a0.Key a0.Width a1.Bytes a1.To a1.Sent a1.Bytes r1.1.Kind r1.1.From r1.1.Mine r1.1.Yours r1.1.Next r1.1.Mask r1.1.Seq r1.1.Last r1.1.Part a0.Ends a0.Flight a0.Given a0.Taken
 else
 dL k a0.Key a0.Width a0.Forged a1.To a1.Sent a1.Bytes r1.1.Kind r1.1.From r1.1.Mine r1.1.Yours r1.1.Next r1.1.Mask r1.1.Seq r1.1.Last r1.1.Part a0.Ends a0.Flight a0.Given a0.Taken
 else
 dL k a0.Key a0.Width a0.Forged a1.To a1.Sent a1.Bytes r1.1.Kind r1.1.From r1.1.Mine r1.1.Yours r1.1.Next r1.1.Mask r1.1.Seq r1.1.Last r1.1.Part a0.Ends a0.Flight a0.Given a0.Taken
noncomputable def jX (k:Nat) (a0:aC):Option (Bool×aC):=
 some ((decide ((IntKind.wrap .i64 ((a0.Given.length:Int)+(a0.Taken.length:Int)))≥400)),a0)
noncomputable def j6 (k:Nat) (a0:aC) (a1:Int):Option (aC):=
 (jX k a0).bind fun r1=>
 bif r1.1 then
 some r1.2
 else
 (idx r1.2.Ends (IntKind.wrap .i64 (a1-1))).bind fun _=>
 (r1.2.Ends[(Int.toNat (IntKind.wrap .i64 (a1-1)))]?).bind fun y2=>
 (mT k y2).bind fun r3=>
 bif (r3.Code==0) then
 (idx r1.2.Ends (IntKind.wrap .i64 (a1-1))).bind fun _=>
 (r1.2.Ends[(Int.toNat (IntKind.wrap .i64 (a1-1)))]?).bind fun y4=>
 (idx r1.2.Ends (IntKind.wrap .i64 (a1-1))).bind fun _=>
 (r1.2.Ends[(Int.toNat (IntKind.wrap .i64 (a1-1)))]?).bind fun y5=>
 (app 40 r1.2.Taken ([(⟨(IntKind.wrap .i64 (3-a1)),y4.Peer,y4.Life,r3.Text⟩:aA)]:List aA)).bind fun l6=>
 some (⟨r1.2.Key,r1.2.Width,(r1.2.Ends.set (Int.toNat (IntKind.wrap .i64 (a1-1))) r3.End),r1.2.Flight,r1.2.Forged,r1.2.Given,l6⟩:aC)
 else
 some r1.2
mutual
noncomputable def tZ:Nat→Bool→Int→Int→Int→Int→ByteArray→ByteArray→Int→ByteArray→ByteArray→Int→ByteArray→List aN→List aE→List aA→List aA→List aN→List aE→List aA→List aA→Option (aC)
 | 0,_,_,_,_,_,_,_,_,_,_,_,_,_,_,_,_,_,_,_,_=>none
 | k+1,A,B,C,D,E,F,G,H,I,J,K,L,M,N,O,P,Q,R,S,T=>
 bif (decide (C≥0)) then
 uE k A (decide (C<(R.length:Int))) B C D E F G H I J K L M N O P Q R S T
 else
 uE k A false B C D E F G H I J K L M N O P Q R S T
noncomputable def uE:Nat→Bool→Bool→Int→Int→Int→Int→ByteArray→ByteArray→Int→ByteArray→ByteArray→Int→ByteArray→List aN→List aE→List aA→List aA→List aN→List aE→List aA→List aA→Option (aC)
 | 0,_,_,_,_,_,_,_,_,_,_,_,_,_,_,_,_,_,_,_,_,_=>none
 | k+1,A,B,C,D,E,F,G,H,I,J,K,L,M,N,O,P,Q,R,S,T,U=>
 bif (C==1) then
 (j7 k (⟨K,L,R,S,M,T,U⟩:aC)).bind fun r3=>
 aT k H I J r3.Key r3.Width r3.Forged N O P Q r3.Ends r3.Flight r3.Given r3.Taken
 else
 bif (C==2) then
 rI k B C D E F G H I J K L M N O P Q R S T U
 else
 bif (C==4) then
 rI k B C D E F G H I J K L M N O P Q R S T U
 else
 vD k A B C C D E F G H I J K L M N O P Q R S T U
noncomputable def aT:Nat→ByteArray→Int→ByteArray→ByteArray→Int→ByteArray→List aN→List aE→List aA→List aA→List aN→List aE→List aA→List aA→Option (aC)
 | 0,_,_,_,_,_,_,_,_,_,_,_,_,_,_=>none
 | k+1,A,B,C,D,E,F,G,H,I,J,K,L,M,N=>
 some (⟨D,E,K,L,F,M,N⟩:aC)
noncomputable def rI:Nat→Bool→Int→Int→Int→Int→ByteArray→ByteArray→Int→ByteArray→ByteArray→Int→ByteArray→List aN→List aE→List aA→List aA→List aN→List aE→List aA→List aA→Option (aC)
 | 0,_,_,_,_,_,_,_,_,_,_,_,_,_,_,_,_,_,_,_,_=>none
 | k+1,A,B,C,D,E,F,G,H,I,J,K,L,M,N,O,P,Q,R,S,T=>
 bif A then
 (idx R C).bind fun _=>
 (R[(Int.toNat C)]?).bind fun y4=>
 (if (C:Int)=C then wnd R.length 0 C else none).bind fun p5=>
 (wnd R.length (IntKind.wrap .i64 (C+1)) (R.length:Int)).bind fun p6=>
 (app 40 (iA R p5.1 p5.2) (iA R p6.1 p6.2)).bind fun l7=>
 bif (B==2) then
 (fV k (⟨J,K,Q,l7,L,S,T⟩:aC) y4).bind fun r8=>
 aT k G H I r8.Key r8.Width r8.Forged M N O P r8.Ends r8.Flight r8.Given r8.Taken
 else
 aT k G H I J K L M N O P Q l7 S T
 else
 aT k G H I J K L M N O P Q R S T
noncomputable def vD:Nat→Bool→Bool→Int→Int→Int→Int→Int→ByteArray→ByteArray→Int→ByteArray→ByteArray→Int→ByteArray→List aN→List aE→List aA→List aA→List aN→List aE→List aA→List aA→Option (aC)
 | 0,_,_,_,_,_,_,_,_,_,_,_,_,_,_,_,_,_,_,_,_,_,_=>none
 | k+1,A,B,C,D,E,F,G,H,I,J,K,L,M,N,O,P,Q,R,S,T,U,V=>
 bif (C==3) then
 bif B then
 bif (decide ((T.length:Int)<1000)) then
 (idx T E).bind fun _=>
 (T[(Int.toNat E)]?).bind fun y9=>
 (app 40 T ([y9]:List aE)).bind fun l10=>
 aT k I J K L M N O P Q R S l10 U V
 else
 aT k I J K L M N O P Q R S T U V
 else
 aT k I J K L M N O P Q R S T U V
 else
 bif (C==5) then
 bif B then
 bif (decide (G≥0)) then
 bif (decide (F≥0)) then
 (idx T E).bind fun _=>
 (T[(Int.toNat E)]?).bind fun y11=>
 bif (decide (F<(y11.Bytes.size:Int))) then
 (idx T E).bind fun _=>
 (T[(Int.toNat E)]?).bind fun y12=>
 (idx (bC y12.Bytes) F).bind fun _=>
 ((bC y12.Bytes)[(Int.toNat F)]?).bind fun y13=>
 (J0 G 256).bind fun q14=>
 (idx (bC y12.Bytes) F).bind fun _=>
 ((bC y12.Bytes)[(Int.toNat F)]?).bind fun y15=>
 (idx T E).bind fun _=>
 (T[(Int.toNat E)]?).bind fun y16=>
 aT k I J K L M N O P Q R S (T.set (Int.toNat E) (⟨y16.To,y16.Sent,(mD ((bC y12.Bytes).set (Int.toNat F) (vG .u8 y13 (IntKind.wrap .u8 q14))))⟩:aE)) U V
 else
 aT k I J K L M N O P Q R S T U V
 else
 aT k I J K L M N O P Q R S T U V
 else
 aT k I J K L M N O P Q R S T U V
 else
 aT k I J K L M N O P Q R S T U V
 else
 bif (C==6) then
 bif B then
 bif (decide (F≥0)) then
 (idx T E).bind fun _=>
 (T[(Int.toNat E)]?).bind fun y17=>
 bif (decide (F≤(y17.Bytes.size:Int))) then
 (idx T E).bind fun _=>
 (T[(Int.toNat E)]?).bind fun y18=>
 (wnd y18.Bytes.size 0 F).bind fun p19=>
 (idx T E).bind fun _=>
 (T[(Int.toNat E)]?).bind fun y20=>
 aT k I J K L M N O P Q R S (T.set (Int.toNat E) (⟨y20.To,y20.Sent,(y18.Bytes.extract p19.1 p19.2)⟩:aE)) U V
 else
 aT k I J K L M N O P Q R S T U V
 else
 aT k I J K L M N O P Q R S T U V
 else
 aT k I J K L M N O P Q R S T U V
 else
 bif (C==7) then
 bif B then
 (idx T E).bind fun _=>
 (T[(Int.toNat E)]?).bind fun y21=>
 (idx T E).bind fun _=>
 (T[(Int.toNat E)]?).bind fun y22=>
 aT k I J K L M N O P Q R S (T.set (Int.toNat E) (⟨(IntKind.wrap .i64 (3-y21.To)),y22.Sent,y22.Bytes⟩:aE)) U V
 else
 aT k I J K L M N O P Q R S T U V
 else
 bif (C==8) then
 bif A then
 (idx S (IntKind.wrap .i64 (E-1))).bind fun _=>
 (S[(Int.toNat (IntKind.wrap .i64 (E-1)))]?).bind fun y23=>
 (sM k y23).bind fun r24=>
 (idx S (IntKind.wrap .i64 (E-1))).bind fun _=>
 (S[(Int.toNat (IntKind.wrap .i64 (E-1)))]?).bind fun y25=>
 aT k I J K L M N O P Q R (S.set (Int.toNat (IntKind.wrap .i64 (E-1))) r24) T U V
 else
 aT k I J K L M N O P Q R S T U V
 else
 bif (C==9) then
 bif A then
 (idx S (IntKind.wrap .i64 (E-1))).bind fun _=>
 (S[(Int.toNat (IntKind.wrap .i64 (E-1)))]?).bind fun y26=>
 (sV k y26).bind fun r27=>
 (idx S (IntKind.wrap .i64 (E-1))).bind fun _=>
 (S[(Int.toNat (IntKind.wrap .i64 (E-1)))]?).bind fun y28=>
 aT k I J K L M N O P Q R (S.set (Int.toNat (IntKind.wrap .i64 (E-1))) r27) T U V
 else
 aT k I J K L M N O P Q R S T U V
 else
 bif (C==10) then
 bif A then
 (jX k (⟨L,M,S,T,N,U,V⟩:aC)).bind fun r29=>
 bif (!r29.1) then
 both (
 (idx r29.2.Ends (IntKind.wrap .i64 (E-1))).bind fun _=>
 (r29.2.Ends[(Int.toNat (IntKind.wrap .i64 (E-1)))]?).bind fun y30=>
 (fW k y30 H).bind fun r31=>
 bif (r31.Code==0) then
 (idx r29.2.Ends (IntKind.wrap .i64 (E-1))).bind fun _=>
 (r29.2.Ends[(Int.toNat (IntKind.wrap .i64 (E-1)))]?).bind fun y32=>
 (app 40 r29.2.Given ([(⟨E,r31.End.Life,r31.End.Peer,H⟩:aA)]:List aA)).bind fun l33=>
 aT k I J K r29.2.Key r29.2.Width r29.2.Forged O P Q R (r29.2.Ends.set (Int.toNat (IntKind.wrap .i64 (E-1))) r31.End) r29.2.Flight l33 r29.2.Taken
 else
 aT k I J K r29.2.Key r29.2.Width r29.2.Forged O P Q R r29.2.Ends r29.2.Flight r29.2.Given r29.2.Taken
 ) (
 (idx r29.2.Ends (IntKind.wrap .i64 (E-1))).bind fun _=>
 (r29.2.Ends[(Int.toNat (IntKind.wrap .i64 (E-1)))]?).bind fun y34=>
 (fW k y34 H).bind fun r35=>
 bif (r35.Code==0) then
 (idx r29.2.Ends (IntKind.wrap .i64 (E-1))).bind fun _=>
 (r29.2.Ends[(Int.toNat (IntKind.wrap .i64 (E-1)))]?).bind fun y36=>
 (app 40 r29.2.Given ([(⟨E,r35.End.Life,r35.End.Peer,H⟩:aA)]:List aA)).bind fun l37=>
 aT k I J K r29.2.Key r29.2.Width r29.2.Forged O P Q R (r29.2.Ends.set (Int.toNat (IntKind.wrap .i64 (E-1))) r35.End) r29.2.Flight l37 r29.2.Taken
 else
 aT k I J K r29.2.Key r29.2.Width r29.2.Forged O P Q R r29.2.Ends r29.2.Flight r29.2.Given r29.2.Taken
 )
 else
 aT k I J K r29.2.Key r29.2.Width r29.2.Forged O P Q R r29.2.Ends r29.2.Flight r29.2.Given r29.2.Taken
 else
 aT k I J K L M N O P Q R S T U V
 else
 bif (C==11) then
 bif A then
 (j6 k (⟨L,M,S,T,N,U,V⟩:aC) E).bind fun r38=>
 aT k I J K r38.Key r38.Width r38.Forged O P Q R r38.Ends r38.Flight r38.Given r38.Taken
 else
 aT k I J K L M N O P Q R S T U V
 else
 aT k I J K L M N O P Q R S T U V
end
noncomputable def s7 (k:Nat) (a0:aC) (a1:bI):Option (aC):=
 (fC k a0).bind fun r1=>
 bif (!r1) then
 some (⟨(⟨#[]⟩:ByteArray),0,([]:List aN),([]:List aE),(⟨#[]⟩:ByteArray),([]:List aA),([]:List aA)⟩:aC)
 else
 (lQ k a0).bind fun r2=>
 bif (a1.A==1) then
 tZ k true a1.Kind a1.A a1.B a1.C a1.Text (⟨#[]⟩:ByteArray) 0 (⟨#[]⟩:ByteArray) r2.Key r2.Width r2.Forged ([]:List aN) ([]:List aE) ([]:List aA) ([]:List aA) r2.Ends r2.Flight r2.Given r2.Taken
 else
 tZ k (a1.A==2) a1.Kind a1.A a1.B a1.C a1.Text (⟨#[]⟩:ByteArray) 0 (⟨#[]⟩:ByteArray) r2.Key r2.Width r2.Forged ([]:List aN) ([]:List aE) ([]:List aA) ([]:List aA) r2.Ends r2.Flight r2.Given r2.Taken
noncomputable def dO:Nat→List aA→Int→Option (Bool)
 | 0,_,_=>none
 | k+1,A,B=>
 bif (decide (B<(A.length:Int))) then
 (idx A B).bind fun y1=>
 (a6 k y1.From 1 2).bind fun r2=>
 bif (!r2) then
 some false
 else
 (a6 k y1.A 1 1000).bind fun r3=>
 bif (!r3) then
 some false
 else
 (a6 k y1.B 1 1000).bind fun r4=>
 bif (!r4) then
 some false
 else
 bif (decide ((y1.Text.size:Int)>200)) then
 some false
 else
 dO k A (IntKind.wrap .i64 (B+1))
 else
 some true
noncomputable def lY (k:Nat) (a0:List aA):Option (Bool):=
 dO k a0 0
mutual
noncomputable def d7:Nat→Int→ByteArray→Int→List aN→List aE→ByteArray→List aA→List aA→Option (Bool)
 | 0,_,_,_,_,_,_,_,_=>none
 | k+1,A,B,C,D,E,F,G,H=>
 bif (decide (A<2)) then
 (idx D A).bind fun y2=>
 (dT k y2).bind fun r3=>
 bif (!r3) then
 some false
 else
 (idx D A).bind fun y4=>
 bif (y4.Number !=(IntKind.wrap .i64 (A+1))) then
 some false
 else
 d7 k (IntKind.wrap .i64 (A+1)) B C D E F G H
 else
 d6 k 0 B C D E F G H
noncomputable def d6:Nat→Int→ByteArray→Int→List aN→List aE→ByteArray→List aA→List aA→Option (Bool)
 | 0,_,_,_,_,_,_,_,_=>none
 | k+1,A,B,C,D,E,F,G,H=>
 bif (decide (A<(E.length:Int))) then
 (idx E A).bind fun y5=>
 (a6 k y5.To 1 2).bind fun r6=>
 bif (!r6) then
 some false
 else
 bif (decide ((y5.Sent.size:Int)>100)) then
 some false
 else
 bif (decide ((y5.Bytes.size:Int)>100)) then
 some false
 else
 d6 k (IntKind.wrap .i64 (A+1)) B C D E F G H
 else
 (lY k G).bind fun r7=>
 bif r7 then
 (lY k H).bind fun r8=>
 some r8
 else
 some false
end
noncomputable def fD (k:Nat) (a0:aC):Option (Bool):=
 (a6 k a0.Width 1 8).bind fun r1=>
 bif (!r1) then
 some false
 else
 bif (decide ((a0.Key.size:Int)>30)) then
 some false
 else
 bif ((a0.Ends.length:Int) !=2) then
 some false
 else
 bif (decide ((a0.Flight.length:Int)>1000)) then
 some false
 else
 bif (decide ((IntKind.wrap .i64 ((a0.Given.length:Int)+(a0.Taken.length:Int)))>400)) then
 some false
 else
 d7 k 0 a0.Key a0.Width a0.Ends a0.Flight a0.Forged a0.Given a0.Taken
noncomputable def jF:Nat→Int→ByteArray→Int→List aN→List aE→ByteArray→List aA→List aA→ByteArray→Int→ByteArray→ByteArray→Int→List aE→ByteArray→List aA→List aA→List aN→List aE→List aA→List aA→List aN→Option (aC)
 | 0,_,_,_,_,_,_,_,_,_,_,_,_,_,_,_,_,_,_,_,_,_,_=>none
 | k+1,A,B,C,D,E,F,G,H,I,J,K,L,M,N,O,P,Q,R,S,T,U,V=>
 bif (decide (A<(D.length:Int))) then
 (idx D A).bind fun y1=>
 (gK k y1).bind fun r2=>
 (app 152 V ([r2]:List aN)).bind fun l3=>
 jF k (IntKind.wrap .i64 (A+1)) B C D E F G H I J K L M N O P Q R S T U l3
 else
 (app 40 ([]:List aE) E).bind fun l4=>
 (app 40 ([]:List aA) G).bind fun l5=>
 (app 40 ([]:List aA) H).bind fun l6=>
 some (⟨L,M,V,l4,O,l5,l6⟩:aC)
noncomputable def iL (k:Nat) (a0:aC):Option (aC):=
 jF k 0 a0.Key a0.Width a0.Ends a0.Flight a0.Forged a0.Given a0.Taken (⟨#[]⟩:ByteArray) 0 (⟨#[]⟩:ByteArray) a0.Key a0.Width a0.Flight a0.Forged a0.Given a0.Taken ([]:List aN) ([]:List aE) ([]:List aA) ([]:List aA) ([]:List aN)
mutual
noncomputable def dW:Nat→Int→ByteArray→Int→ByteArray→ByteArray→Int→ByteArray→List aN→List aE→List aA→List aA→List aN→List aE→List aA→List aA→Option (aC)
 | 0,_,_,_,_,_,_,_,_,_,_,_,_,_,_,_=>none
 | k+1,A,B,C,D,E,F,G,H,I,J,K,L,M,N,O=>
 bif (decide (A<2)) then
 (idx H A).bind fun _=>
 (H[(Int.toNat A)]?).bind fun y1=>
 (sE k y1).bind fun r2=>
 (idx H A).bind fun _=>
 (H[(Int.toNat A)]?).bind fun y3=>
 jC k A 0 B C D E F G r2.Code r2.End.Number r2.End.Up r2.End.Life r2.End.Peer r2.End.Since r2.End.Owes r2.End.Send.Base r2.End.Take.Next r2.End.Take.Open r2.Text (H.set (Int.toNat A) r2.End) I J K L M N O r2.Out
 else
 some (⟨B,C,H,I,D,J,K⟩:aC)
noncomputable def jC:Nat→Int→Int→ByteArray→Int→ByteArray→ByteArray→Int→ByteArray→Int→Int→Bool→Int→Int→Int→Bool→Int→Int→ByteArray→ByteArray→List aN→List aE→List aA→List aA→List aN→List aE→List aA→List aA→List aF→Option (aC)
 | 0,_,_,_,_,_,_,_,_,_,_,_,_,_,_,_,_,_,_,_,_,_,_,_,_,_,_,_,_=>none
 | k+1,A,B,C,D,E,F,G,H,I,J,K,L,M,N,O,P,Q,R,S,T,U,V,W,X,Y,Z,x26,x27=>
 bif (decide (B<(x27.length:Int))) then
 bif (decide ((U.length:Int)<1000)) then
 (idx x27 B).bind fun _=>
 (x27[(Int.toNat B)]?).bind fun y4=>
 (hH k y4 C D).bind fun r5=>
 (app 40 U ([(⟨(IntKind.wrap .i64 (2-A)),r5,r5⟩:aE)]:List aE)).bind fun l6=>
 jC k A (IntKind.wrap .i64 (B+1)) C D E F G H I J K L M N O P Q R S T l6 V W X Y Z x26 x27
 else
 dW k (IntKind.wrap .i64 (A+1)) C D E F G H T U V W X Y Z x26
 else
 dW k (IntKind.wrap .i64 (A+1)) C D E F G H T U V W X Y Z x26
end
noncomputable def rA (k:Nat) (a0:aC):Option (aC):=
 dW k 0 a0.Key a0.Width a0.Forged (⟨#[]⟩:ByteArray) 0 (⟨#[]⟩:ByteArray) a0.Ends a0.Flight a0.Given a0.Taken ([]:List aN) ([]:List aE) ([]:List aA) ([]:List aA)
noncomputable def jH (k:Nat) (a0:List aE) (a1:Int):Option (List aE):=
 (wnd a0.length 0 a1).bind fun p1=>
 (app 40 ([]:List aE) (iA a0 p1.1 p1.2)).bind fun l2=>
 (wnd a0.length (IntKind.wrap .i64 (a1+1)) (a0.length:Int)).bind fun p3=>
 (app 40 l2 (iA a0 p3.1 p3.2)).bind fun l4=>
 some l4
noncomputable def gZ:Nat→ByteArray→Int→ByteArray→ByteArray→Int→ByteArray→Int→ByteArray→ByteArray→Int→Int→Int→Int→Int→Int→Int→Bool→ByteArray→List aN→List aE→List aA→List aA→List aN→List aE→List aA→List aA→Option (aC)
 | 0,_,_,_,_,_,_,_,_,_,_,_,_,_,_,_,_,_,_,_,_,_,_,_,_,_,_=>none
 | k+1,A,B,C,D,E,F,G,H,I,J,K,L,M,N,O,P,Q,R,S,T,U,V,W,X,Y,Z=>
 (idx S (IntKind.wrap .i64 (G-1))).bind fun _=>
 (S[(Int.toNat (IntKind.wrap .i64 (G-1)))]?).bind fun y4=>
 (sB k y4 (⟨J,K,L,M,N,O,P,Q,R⟩:aF)).bind fun r5=>
 (idx S (IntKind.wrap .i64 (G-1))).bind fun _=>
 (S[(Int.toNat (IntKind.wrap .i64 (G-1)))]?).bind fun y6=>
 some (⟨A,B,(S.set (Int.toNat (IntKind.wrap .i64 (G-1))) r5.End),T,C,U,V⟩:aC)
noncomputable def oU (k:Nat) (a0:aC) (a1:Int):Option (aC):=
 (idx a0.Flight a1).bind fun _=>
 (a0.Flight[(Int.toNat a1)]?).bind fun y1=>
 (jH k a0.Flight a1).bind fun r2=>
 (nM k y1.Bytes a0.Key a0.Width).bind fun r3=>
 bif (!r3.2) then
 some (⟨a0.Key,a0.Width,a0.Ends,r2,a0.Forged,a0.Given,a0.Taken⟩:aC)
 else
 bif (!(y1.Bytes.toList==y1.Sent.toList)) then
 bif (a0.Forged.toList==(⟨#[]⟩:ByteArray).toList) then
 gZ k a0.Key a0.Width y1.Bytes (⟨#[]⟩:ByteArray) 0 (⟨#[]⟩:ByteArray) y1.To y1.Sent y1.Bytes r3.1.Kind r3.1.From r3.1.Mine r3.1.Yours r3.1.Next r3.1.Mask r3.1.Seq r3.1.Last r3.1.Part a0.Ends r2 a0.Given a0.Taken ([]:List aN) ([]:List aE) ([]:List aA) ([]:List aA)
 else
 gZ k a0.Key a0.Width a0.Forged (⟨#[]⟩:ByteArray) 0 (⟨#[]⟩:ByteArray) y1.To y1.Sent y1.Bytes r3.1.Kind r3.1.From r3.1.Mine r3.1.Yours r3.1.Next r3.1.Mask r3.1.Seq r3.1.Last r3.1.Part a0.Ends r2 a0.Given a0.Taken ([]:List aN) ([]:List aE) ([]:List aA) ([]:List aA)
 else
 gZ k a0.Key a0.Width a0.Forged (⟨#[]⟩:ByteArray) 0 (⟨#[]⟩:ByteArray) y1.To y1.Sent y1.Bytes r3.1.Kind r3.1.From r3.1.Mine r3.1.Yours r3.1.Next r3.1.Mask r3.1.Seq r3.1.Last r3.1.Part a0.Ends r2 a0.Given a0.Taken ([]:List aN) ([]:List aE) ([]:List aA) ([]:List aA)
mutual
noncomputable def gX:Nat→ByteArray→Int→ByteArray→ByteArray→Int→ByteArray→List aN→List aE→List aA→List aA→List aN→List aE→List aA→List aA→Option (aC)
 | 0,_,_,_,_,_,_,_,_,_,_,_,_,_,_=>none
 | k+1,A,B,C,D,E,F,G,H,I,J,K,L,M,N=>
 some (⟨A,B,G,H,C,I,J⟩:aC)
noncomputable def bO:Nat→ByteArray→Int→ByteArray→Int→Int→Int→Int→ByteArray→ByteArray→Int→ByteArray→Int→ByteArray→ByteArray→List aN→List aE→List aA→List aA→List aN→List aE→List aA→List aA→Option (aC)
 | 0,_,_,_,_,_,_,_,_,_,_,_,_,_,_,_,_,_,_,_,_,_,_=>none
 | k+1,A,B,C,D,E,F,G,H,I,J,K,L,M,N,O,P,Q,R,S,T,U,V=>
 (idx P E).bind fun _=>
 (P[(Int.toNat E)]?).bind fun y9=>
 some (⟨A,B,O,(P.set (Int.toNat E) (⟨L,M,N⟩:aE)),C,Q,R⟩:aC)
end
noncomputable def qB (k:Nat) (a0:aC) (a1:bI):Option (aC):=
 (idx a0.Flight a1.A).bind fun _=>
 (a0.Flight[(Int.toNat a1.A)]?).bind fun y1=>
 bif (a1.Kind==2) then
 (oU k a0 a1.A).bind fun r2=>
 some r2
 else
 bif (a1.Kind==4) then
 (jH k a0.Flight a1.A).bind fun r3=>
 some (⟨a0.Key,a0.Width,a0.Ends,r3,a0.Forged,a0.Given,a0.Taken⟩:aC)
 else
 bif (a1.Kind==3) then
 bif (decide ((a0.Flight.length:Int)<1000)) then
 (app 40 a0.Flight ([y1]:List aE)).bind fun l4=>
 gX k a0.Key a0.Width a0.Forged (⟨#[]⟩:ByteArray) 0 (⟨#[]⟩:ByteArray) a0.Ends l4 a0.Given a0.Taken ([]:List aN) ([]:List aE) ([]:List aA) ([]:List aA)
 else
 gX k a0.Key a0.Width a0.Forged (⟨#[]⟩:ByteArray) 0 (⟨#[]⟩:ByteArray) a0.Ends a0.Flight a0.Given a0.Taken ([]:List aN) ([]:List aE) ([]:List aA) ([]:List aA)
 else
 bif (a1.Kind==5) then
 bif (decide (a1.B≥0)) then
 bif (decide (a1.B<(y1.Bytes.size:Int))) then
 bif (decide (a1.C≥0)) then
 (idx (bC y1.Bytes) a1.B).bind fun _=>
 ((bC y1.Bytes)[(Int.toNat a1.B)]?).bind fun y5=>
 (J0 a1.C 256).bind fun q6=>
 (idx (bC y1.Bytes) a1.B).bind fun _=>
 ((bC y1.Bytes)[(Int.toNat a1.B)]?).bind fun y7=>
 bO k a0.Key a0.Width a0.Forged a1.Kind a1.A a1.B a1.C a1.Text (⟨#[]⟩:ByteArray) 0 (⟨#[]⟩:ByteArray) y1.To y1.Sent (mD ((bC y1.Bytes).set (Int.toNat a1.B) (vG .u8 y5 (IntKind.wrap .u8 q6)))) a0.Ends a0.Flight a0.Given a0.Taken ([]:List aN) ([]:List aE) ([]:List aA) ([]:List aA)
 else
 bO k a0.Key a0.Width a0.Forged a1.Kind a1.A a1.B a1.C a1.Text (⟨#[]⟩:ByteArray) 0 (⟨#[]⟩:ByteArray) y1.To y1.Sent y1.Bytes a0.Ends a0.Flight a0.Given a0.Taken ([]:List aN) ([]:List aE) ([]:List aA) ([]:List aA)
 else
 bO k a0.Key a0.Width a0.Forged a1.Kind a1.A a1.B a1.C a1.Text (⟨#[]⟩:ByteArray) 0 (⟨#[]⟩:ByteArray) y1.To y1.Sent y1.Bytes a0.Ends a0.Flight a0.Given a0.Taken ([]:List aN) ([]:List aE) ([]:List aA) ([]:List aA)
 else
 bO k a0.Key a0.Width a0.Forged a1.Kind a1.A a1.B a1.C a1.Text (⟨#[]⟩:ByteArray) 0 (⟨#[]⟩:ByteArray) y1.To y1.Sent y1.Bytes a0.Ends a0.Flight a0.Given a0.Taken ([]:List aN) ([]:List aE) ([]:List aA) ([]:List aA)
 else
 bif (a1.Kind==6) then
 bif (decide (a1.B≥0)) then
 bif (decide (a1.B≤(y1.Bytes.size:Int))) then
 (wnd y1.Bytes.size 0 a1.B).bind fun p8=>
 bO k a0.Key a0.Width a0.Forged a1.Kind a1.A a1.B a1.C a1.Text (⟨#[]⟩:ByteArray) 0 (⟨#[]⟩:ByteArray) y1.To y1.Sent (y1.Bytes.extract p8.1 p8.2) a0.Ends a0.Flight a0.Given a0.Taken ([]:List aN) ([]:List aE) ([]:List aA) ([]:List aA)
 else
 bO k a0.Key a0.Width a0.Forged a1.Kind a1.A a1.B a1.C a1.Text (⟨#[]⟩:ByteArray) 0 (⟨#[]⟩:ByteArray) y1.To y1.Sent y1.Bytes a0.Ends a0.Flight a0.Given a0.Taken ([]:List aN) ([]:List aE) ([]:List aA) ([]:List aA)
 else
 bO k a0.Key a0.Width a0.Forged a1.Kind a1.A a1.B a1.C a1.Text (⟨#[]⟩:ByteArray) 0 (⟨#[]⟩:ByteArray) y1.To y1.Sent y1.Bytes a0.Ends a0.Flight a0.Given a0.Taken ([]:List aN) ([]:List aE) ([]:List aA) ([]:List aA)
 else
 bif (a1.Kind==7) then
 bO k a0.Key a0.Width a0.Forged a1.Kind a1.A a1.B a1.C a1.Text (⟨#[]⟩:ByteArray) 0 (⟨#[]⟩:ByteArray) (IntKind.wrap .i64 (3-y1.To)) y1.Sent y1.Bytes a0.Ends a0.Flight a0.Given a0.Taken ([]:List aN) ([]:List aE) ([]:List aA) ([]:List aA)
 else
 bO k a0.Key a0.Width a0.Forged a1.Kind a1.A a1.B a1.C a1.Text (⟨#[]⟩:ByteArray) 0 (⟨#[]⟩:ByteArray) y1.To y1.Sent y1.Bytes a0.Ends a0.Flight a0.Given a0.Taken ([]:List aN) ([]:List aE) ([]:List aA) ([]:List aA)
noncomputable def cK:Nat→ByteArray→Int→ByteArray→ByteArray→Int→ByteArray→List aN→List aE→List aA→List aA→List aN→List aE→List aA→List aA→Option (aC)
 | 0,_,_,_,_,_,_,_,_,_,_,_,_,_,_=>none
 | k+1,A,B,C,D,E,F,G,H,I,J,K,L,M,N=>
 some (⟨A,B,G,H,C,I,J⟩:aC)
noncomputable def qP (k:Nat) (a0:aC) (a1:bI):Option (aC):=
 (idx a0.Ends (IntKind.wrap .i64 (a1.A-1))).bind fun _=>
 (a0.Ends[(Int.toNat (IntKind.wrap .i64 (a1.A-1)))]?).bind fun y1=>
 bif (a1.Kind==8) then
 (sC k y1).bind fun r2=>
 (idx a0.Ends (IntKind.wrap .i64 (a1.A-1))).bind fun _=>
 (a0.Ends[(Int.toNat (IntKind.wrap .i64 (a1.A-1)))]?).bind fun y3=>
 cK k a0.Key a0.Width a0.Forged (⟨#[]⟩:ByteArray) 0 (⟨#[]⟩:ByteArray) (a0.Ends.set (Int.toNat (IntKind.wrap .i64 (a1.A-1))) r2) a0.Flight a0.Given a0.Taken ([]:List aN) ([]:List aE) ([]:List aA) ([]:List aA)
 else
 bif (a1.Kind==9) then
 (sK k y1).bind fun r4=>
 (idx a0.Ends (IntKind.wrap .i64 (a1.A-1))).bind fun _=>
 (a0.Ends[(Int.toNat (IntKind.wrap .i64 (a1.A-1)))]?).bind fun y5=>
 cK k a0.Key a0.Width a0.Forged (⟨#[]⟩:ByteArray) 0 (⟨#[]⟩:ByteArray) (a0.Ends.set (Int.toNat (IntKind.wrap .i64 (a1.A-1))) r4) a0.Flight a0.Given a0.Taken ([]:List aN) ([]:List aE) ([]:List aA) ([]:List aA)
 else
 bif (a1.Kind==10) then
 (jR k y1 a1.Text).bind fun r6=>
 bif (r6.Code==0) then
 bif (decide ((IntKind.wrap .i64 ((a0.Given.length:Int)+(a0.Taken.length:Int)))<400)) then
 (idx a0.Ends (IntKind.wrap .i64 (a1.A-1))).bind fun _=>
 (a0.Ends[(Int.toNat (IntKind.wrap .i64 (a1.A-1)))]?).bind fun y7=>
 (app 40 a0.Given ([(⟨a1.A,y1.Life,y1.Peer,a1.Text⟩:aA)]:List aA)).bind fun l8=>
 cK k a0.Key a0.Width a0.Forged (⟨#[]⟩:ByteArray) 0 (⟨#[]⟩:ByteArray) (a0.Ends.set (Int.toNat (IntKind.wrap .i64 (a1.A-1))) r6.End) a0.Flight l8 a0.Taken ([]:List aN) ([]:List aE) ([]:List aA) ([]:List aA)
 else
 cK k a0.Key a0.Width a0.Forged (⟨#[]⟩:ByteArray) 0 (⟨#[]⟩:ByteArray) a0.Ends a0.Flight a0.Given a0.Taken ([]:List aN) ([]:List aE) ([]:List aA) ([]:List aA)
 else
 cK k a0.Key a0.Width a0.Forged (⟨#[]⟩:ByteArray) 0 (⟨#[]⟩:ByteArray) a0.Ends a0.Flight a0.Given a0.Taken ([]:List aN) ([]:List aE) ([]:List aA) ([]:List aA)
 else
 bif (a1.Kind==11) then
 (oT k y1).bind fun r9=>
 bif (r9.Code==0) then
 bif (decide ((IntKind.wrap .i64 ((a0.Given.length:Int)+(a0.Taken.length:Int)))<400)) then
 (idx a0.Ends (IntKind.wrap .i64 (a1.A-1))).bind fun _=>
 (a0.Ends[(Int.toNat (IntKind.wrap .i64 (a1.A-1)))]?).bind fun y10=>
 (app 40 a0.Taken ([(⟨(IntKind.wrap .i64 (3-a1.A)),y1.Peer,y1.Life,r9.Text⟩:aA)]:List aA)).bind fun l11=>
 cK k a0.Key a0.Width a0.Forged (⟨#[]⟩:ByteArray) 0 (⟨#[]⟩:ByteArray) (a0.Ends.set (Int.toNat (IntKind.wrap .i64 (a1.A-1))) r9.End) a0.Flight a0.Given l11 ([]:List aN) ([]:List aE) ([]:List aA) ([]:List aA)
 else
 cK k a0.Key a0.Width a0.Forged (⟨#[]⟩:ByteArray) 0 (⟨#[]⟩:ByteArray) a0.Ends a0.Flight a0.Given a0.Taken ([]:List aN) ([]:List aE) ([]:List aA) ([]:List aA)
 else
 cK k a0.Key a0.Width a0.Forged (⟨#[]⟩:ByteArray) 0 (⟨#[]⟩:ByteArray) a0.Ends a0.Flight a0.Given a0.Taken ([]:List aN) ([]:List aE) ([]:List aA) ([]:List aA)
 else
 cK k a0.Key a0.Width a0.Forged (⟨#[]⟩:ByteArray) 0 (⟨#[]⟩:ByteArray) a0.Ends a0.Flight a0.Given a0.Taken ([]:List aN) ([]:List aE) ([]:List aA) ([]:List aA)
noncomputable def CA (k:Nat) (a0:aC) (a1:bI):Option (aC):=
 bif (a1.Kind==1) then
 (rA k a0).bind fun r1=>
 some r1
 else
 (a6 k a1.Kind 2 7).bind fun r2=>
 bif r2 then
 (a6 k a1.A 0 (IntKind.wrap .i64 ((a0.Flight.length:Int)-1))).bind fun r3=>
 bif r3 then
 (qB k a0 a1).bind fun r4=>
 some r4
 else
 (a6 k a1.Kind 8 11).bind fun r5=>
 bif r5 then
 (a6 k a1.A 1 2).bind fun r6=>
 bif r6 then
 (qP k a0 a1).bind fun r7=>
 some r7
 else
 some a0
 else
 some a0
 else
 (a6 k a1.Kind 8 11).bind fun r8=>
 bif r8 then
 (a6 k a1.A 1 2).bind fun r9=>
 bif r9 then
 (qP k a0 a1).bind fun r10=>
 some r10
 else
 some a0
 else
 some a0
noncomputable def uU (k:Nat) (a0:aC) (a1:bI):Option (aC):=
 (fD k a0).bind fun r1=>
 bif (!r1) then
 some (⟨(⟨#[]⟩:ByteArray),0,([]:List aN),([]:List aE),(⟨#[]⟩:ByteArray),([]:List aA),([]:List aA)⟩:aC)
 else
 (iL k a0).bind fun r2=>
 (CA k r2 a1).bind fun r3=>
 (iL k r3).bind fun r4=>
 some r4
mutual
noncomputable def gD:Nat→List aA→Int→Int→ByteArray→Int→List aN→List aE→ByteArray→List aA→List aA→List (DPair×List ByteArray)→Option (Bool)
 | 0,_,_,_,_,_,_,_,_,_,_,_=>none
 | k+1,A,B,C,D,E,F,G,H,I,J,K=>
 bif (decide (C<B)) then
 (idx A C).bind fun y2=>
 optK (cC (cJ (⟨y2.From,y2.A,y2.B⟩:DPair)) K 0) (
 (app 16 ([]:List ByteArray) ([y2.Text]:List ByteArray)).bind fun l4=>
 (idx (K++[((⟨y2.From,y2.A,y2.B⟩:DPair),([]:List ByteArray))]) (K.length:Int)).bind fun e5=>
 gD k A B (IntKind.wrap .i64 (C+1)) D E F G H I J ((K++[((⟨y2.From,y2.A,y2.B⟩:DPair),([]:List ByteArray))]).set (Int.toNat (K.length:Int)) (e5.1,l4))
 ) (fun p3=>
 (app 16 p3.2 ([y2.Text]:List ByteArray)).bind fun l6=>
 bif Nat.beq p3.1 (Int.toNat (p3.1:Int)) then
 (idx K (p3.1:Int)).bind fun e7=>
 gD k A B (IntKind.wrap .i64 (C+1)) D E F G H I J (K.set (Int.toNat (p3.1:Int)) (e7.1,l6))
 else
 none
 )
 else
 bS k J (J.length:Int) 0 K ([]:List (DPair×Int))
noncomputable def bS:Nat→List aA→Int→Int→List (DPair×List ByteArray)→List (DPair×Int)→Option (Bool)
 | 0,_,_,_,_,_=>none
 | k+1,A,B,C,D,E=>
 bif (decide (C<B)) then
 (idx A C).bind fun y8=>
 optK (cC (cJ (⟨y8.From,y8.A,y8.B⟩:DPair)) E 0) (
 optK (cC (cJ (⟨y8.From,y8.A,y8.B⟩:DPair)) D 0) (
 bif (decide ((0:Int)≥(([]:List ByteArray).length:Int))) then
 some false
 else
 optK (cC (cJ (⟨y8.From,y8.A,y8.B⟩:DPair)) D 0) (
 optK (cC (cJ (⟨y8.From,y8.A,y8.B⟩:DPair)) E 0) (
 none
 ) (fun p12=>
 none
 )
 ) (fun p11=>
 optK (cC (cJ (⟨y8.From,y8.A,y8.B⟩:DPair)) E 0) (
 (idx p11.2 0).bind fun _=>
 (p11.2[(Int.toNat 0)]?).bind fun y14=>
 bif (!(y14.toList==y8.Text.toList)) then
 some false
 else
 bZ k A B C (D.modify p11.1 fun e=>(e.1,p11.2)) E y8.From y8.A y8.B
 ) (fun p13=>
 (idx p11.2 p13.2).bind fun _=>
 (p11.2[(Int.toNat p13.2)]?).bind fun y15=>
 bif (!(y15.toList==y8.Text.toList)) then
 some false
 else
 bZ k A B C (D.modify p11.1 fun e=>(e.1,p11.2)) E y8.From y8.A y8.B
 )
 )
 ) (fun p10=>
 bif (decide ((0:Int)≥(p10.2.length:Int))) then
 some false
 else
 optK (cC (cJ (⟨y8.From,y8.A,y8.B⟩:DPair)) (D.modify p10.1 fun e=>(e.1,p10.2)) 0) (
 optK (cC (cJ (⟨y8.From,y8.A,y8.B⟩:DPair)) E 0) (
 none
 ) (fun p17=>
 none
 )
 ) (fun p16=>
 optK (cC (cJ (⟨y8.From,y8.A,y8.B⟩:DPair)) E 0) (
 (idx p16.2 0).bind fun _=>
 (p16.2[(Int.toNat 0)]?).bind fun y19=>
 bif (!(y19.toList==y8.Text.toList)) then
 some false
 else
 bZ k A B C ((D.modify p10.1 fun e=>(e.1,p10.2)).modify p16.1 fun e=>(e.1,p16.2)) E y8.From y8.A y8.B
 ) (fun p18=>
 (idx p16.2 p18.2).bind fun _=>
 (p16.2[(Int.toNat p18.2)]?).bind fun y20=>
 bif (!(y20.toList==y8.Text.toList)) then
 some false
 else
 bZ k A B C ((D.modify p10.1 fun e=>(e.1,p10.2)).modify p16.1 fun e=>(e.1,p16.2)) E y8.From y8.A y8.B
 )
 )
 )
 ) (fun p9=>
 optK (cC (cJ (⟨y8.From,y8.A,y8.B⟩:DPair)) D 0) (
 bif (decide (p9.2≥(([]:List ByteArray).length:Int))) then
 some false
 else
 optK (cC (cJ (⟨y8.From,y8.A,y8.B⟩:DPair)) D 0) (
 optK (cC (cJ (⟨y8.From,y8.A,y8.B⟩:DPair)) E 0) (
 none
 ) (fun p23=>
 none
 )
 ) (fun p22=>
 optK (cC (cJ (⟨y8.From,y8.A,y8.B⟩:DPair)) E 0) (
 (idx p22.2 0).bind fun _=>
 (p22.2[(Int.toNat 0)]?).bind fun y25=>
 bif (!(y25.toList==y8.Text.toList)) then
 some false
 else
 bZ k A B C (D.modify p22.1 fun e=>(e.1,p22.2)) E y8.From y8.A y8.B
 ) (fun p24=>
 (idx p22.2 p24.2).bind fun _=>
 (p22.2[(Int.toNat p24.2)]?).bind fun y26=>
 bif (!(y26.toList==y8.Text.toList)) then
 some false
 else
 bZ k A B C (D.modify p22.1 fun e=>(e.1,p22.2)) E y8.From y8.A y8.B
 )
 )
 ) (fun p21=>
 bif (decide (p9.2≥(p21.2.length:Int))) then
 some false
 else
 optK (cC (cJ (⟨y8.From,y8.A,y8.B⟩:DPair)) (D.modify p21.1 fun e=>(e.1,p21.2)) 0) (
 optK (cC (cJ (⟨y8.From,y8.A,y8.B⟩:DPair)) E 0) (
 none
 ) (fun p28=>
 none
 )
 ) (fun p27=>
 optK (cC (cJ (⟨y8.From,y8.A,y8.B⟩:DPair)) E 0) (
 (idx p27.2 0).bind fun _=>
 (p27.2[(Int.toNat 0)]?).bind fun y30=>
 bif (!(y30.toList==y8.Text.toList)) then
 some false
 else
 bZ k A B C ((D.modify p21.1 fun e=>(e.1,p21.2)).modify p27.1 fun e=>(e.1,p27.2)) E y8.From y8.A y8.B
 ) (fun p29=>
 (idx p27.2 p29.2).bind fun _=>
 (p27.2[(Int.toNat p29.2)]?).bind fun y31=>
 bif (!(y31.toList==y8.Text.toList)) then
 some false
 else
 bZ k A B C ((D.modify p21.1 fun e=>(e.1,p21.2)).modify p27.1 fun e=>(e.1,p27.2)) E y8.From y8.A y8.B
 )
 )
 )
 )
 else
 some true
noncomputable def bZ:Nat→List aA→Int→Int→List (DPair×List ByteArray)→List (DPair×Int)→Int→Int→Int→Option (Bool)
 | 0,_,_,_,_,_,_,_,_=>none
 | k+1,A,B,C,D,E,F,G,H=>
 both (
 optK (cC (cJ (⟨F,G,H⟩:DPair)) E 0) (
 optK (cC (cJ (⟨F,G,H⟩:DPair)) E 0) (
 (idx (E++[((⟨F,G,H⟩:DPair),0)]) (E.length:Int)).bind fun e34=>
 bS k A B (IntKind.wrap .i64 (C+1)) D ((E++[((⟨F,G,H⟩:DPair),0)]).set (Int.toNat (E.length:Int)) (e34.1,(IntKind.wrap .i64 (0+1))))
 ) (fun p33=>
 (idx E (p33.1:Int)).bind fun e35=>
 bS k A B (IntKind.wrap .i64 (C+1)) D (E.set (Int.toNat (p33.1:Int)) (e35.1,(IntKind.wrap .i64 (0+1))))
 )
 ) (fun p32=>
 optK (cC (cJ (⟨F,G,H⟩:DPair)) E 0) (
 (idx (E++[((⟨F,G,H⟩:DPair),0)]) (E.length:Int)).bind fun e37=>
 bS k A B (IntKind.wrap .i64 (C+1)) D ((E++[((⟨F,G,H⟩:DPair),0)]).set (Int.toNat (E.length:Int)) (e37.1,(IntKind.wrap .i64 (p32.2+1))))
 ) (fun p36=>
 (idx E (p36.1:Int)).bind fun e38=>
 bS k A B (IntKind.wrap .i64 (C+1)) D (E.set (Int.toNat (p36.1:Int)) (e38.1,(IntKind.wrap .i64 (p32.2+1))))
 )
 )
 ) (
 optK (cC (cJ (⟨F,G,H⟩:DPair)) E 0) (
 optK (cC (cJ (⟨F,G,H⟩:DPair)) (E++[((⟨F,G,H⟩:DPair),0)]) 0) (
 (idx (E++[((⟨F,G,H⟩:DPair),0)]) (E.length:Int)).bind fun e41=>
 bS k A B (IntKind.wrap .i64 (C+1)) D ((E++[((⟨F,G,H⟩:DPair),0)]).set (Int.toNat (E.length:Int)) (e41.1,(IntKind.wrap .i64 (0+1))))
 ) (fun p40=>
 (idx (E++[((⟨F,G,H⟩:DPair),0)]) (E.length:Int)).bind fun e42=>
 bS k A B (IntKind.wrap .i64 (C+1)) D ((E++[((⟨F,G,H⟩:DPair),0)]).set (Int.toNat (E.length:Int)) (e42.1,(IntKind.wrap .i64 (p40.2+1))))
 )
 ) (fun p39=>
 optK (cC (cJ (⟨F,G,H⟩:DPair)) E 0) (
 (idx E (p39.1:Int)).bind fun e44=>
 bS k A B (IntKind.wrap .i64 (C+1)) D (E.set (Int.toNat (p39.1:Int)) (e44.1,(IntKind.wrap .i64 (0+1))))
 ) (fun p43=>
 (idx E (p39.1:Int)).bind fun e45=>
 bS k A B (IntKind.wrap .i64 (C+1)) D (E.set (Int.toNat (p39.1:Int)) (e45.1,(IntKind.wrap .i64 (p43.2+1))))
 )
 )
 )
end
noncomputable def yI (k:Nat) (a0:aC):Option (Bool):=
 (fC k a0).bind fun r1=>
 bif (!r1) then
 some false
 else
 gD k a0.Given (a0.Given.length:Int) 0 a0.Key a0.Width a0.Ends a0.Flight a0.Forged a0.Given a0.Taken ([]:List (DPair×List ByteArray))
mutual
noncomputable def iB:Nat→Int→Int→ByteArray→Int→ByteArray→ByteArray→Int→ByteArray→List (DKey×Int)→List aN→List aE→List aA→List aA→List aN→List aE→List aA→List aA→Option (aC)
 | 0,_,_,_,_,_,_,_,_,_,_,_,_,_,_,_,_,_=>none
 | k+1,A,B,C,D,E,F,G,H,I,J,K,L,M,N,O,P,Q=>
 bif (decide (A>0)) then
 (j7 k (⟨F,G,N,O,H,P,Q⟩:aC)).bind fun r3=>
 iN k A B (r3.Flight.length:Int) 0 C D E r3.Key r3.Width r3.Forged I r3.Flight J K L M r3.Ends ([]:List aE) r3.Given r3.Taken
 else
 some (⟨F,G,N,O,H,P,Q⟩:aC)
noncomputable def iN:Nat→Int→Int→Int→Int→ByteArray→Int→ByteArray→ByteArray→Int→ByteArray→List (DKey×Int)→List aE→List aN→List aE→List aA→List aA→List aN→List aE→List aA→List aA→Option (aC)
 | 0,_,_,_,_,_,_,_,_,_,_,_,_,_,_,_,_,_,_,_,_=>none
 | k+1,A,B,C,D,E,F,G,H,I,J,K,L,M,N,O,P,Q,R,S,T=>
 bif (decide (D<C)) then
 (idx L D).bind fun _=>
 (L[(Int.toNat D)]?).bind fun y4=>
 both (
 optK (cC (lI (⟨y4.To,y4.Bytes⟩:DKey)) K 0) (
 optK (cC (lI (⟨y4.To,y4.Bytes⟩:DKey)) K 0) (
 (idx (K++[((⟨y4.To,y4.Bytes⟩:DKey),0)]) (K.length:Int)).bind fun e7=>
 cV k A B C D E F G H I J ((K++[((⟨y4.To,y4.Bytes⟩:DKey),0)]).set (Int.toNat (K.length:Int)) (e7.1,(IntKind.wrap .i64 (0+1)))) y4.To y4.Sent y4.Bytes y4.To y4.Bytes L M N O P Q R S T
 ) (fun p6=>
 (idx K (p6.1:Int)).bind fun e8=>
 cV k A B C D E F G H I J (K.set (Int.toNat (p6.1:Int)) (e8.1,(IntKind.wrap .i64 (0+1)))) y4.To y4.Sent y4.Bytes y4.To y4.Bytes L M N O P Q R S T
 )
 ) (fun p5=>
 optK (cC (lI (⟨y4.To,y4.Bytes⟩:DKey)) K 0) (
 (idx (K++[((⟨y4.To,y4.Bytes⟩:DKey),0)]) (K.length:Int)).bind fun e10=>
 cV k A B C D E F G H I J ((K++[((⟨y4.To,y4.Bytes⟩:DKey),0)]).set (Int.toNat (K.length:Int)) (e10.1,(IntKind.wrap .i64 (p5.2+1)))) y4.To y4.Sent y4.Bytes y4.To y4.Bytes L M N O P Q R S T
 ) (fun p9=>
 (idx K (p9.1:Int)).bind fun e11=>
 cV k A B C D E F G H I J (K.set (Int.toNat (p9.1:Int)) (e11.1,(IntKind.wrap .i64 (p5.2+1)))) y4.To y4.Sent y4.Bytes y4.To y4.Bytes L M N O P Q R S T
 )
 )
 ) (
 optK (cC (lI (⟨y4.To,y4.Bytes⟩:DKey)) K 0) (
 optK (cC (lI (⟨y4.To,y4.Bytes⟩:DKey)) (K++[((⟨y4.To,y4.Bytes⟩:DKey),0)]) 0) (
 (idx (K++[((⟨y4.To,y4.Bytes⟩:DKey),0)]) (K.length:Int)).bind fun e14=>
 cV k A B C D E F G H I J ((K++[((⟨y4.To,y4.Bytes⟩:DKey),0)]).set (Int.toNat (K.length:Int)) (e14.1,(IntKind.wrap .i64 (0+1)))) y4.To y4.Sent y4.Bytes y4.To y4.Bytes L M N O P Q R S T
 ) (fun p13=>
 (idx (K++[((⟨y4.To,y4.Bytes⟩:DKey),0)]) (K.length:Int)).bind fun e15=>
 cV k A B C D E F G H I J ((K++[((⟨y4.To,y4.Bytes⟩:DKey),0)]).set (Int.toNat (K.length:Int)) (e15.1,(IntKind.wrap .i64 (p13.2+1)))) y4.To y4.Sent y4.Bytes y4.To y4.Bytes L M N O P Q R S T
 )
 ) (fun p12=>
 optK (cC (lI (⟨y4.To,y4.Bytes⟩:DKey)) K 0) (
 (idx K (p12.1:Int)).bind fun e17=>
 cV k A B C D E F G H I J (K.set (Int.toNat (p12.1:Int)) (e17.1,(IntKind.wrap .i64 (0+1)))) y4.To y4.Sent y4.Bytes y4.To y4.Bytes L M N O P Q R S T
 ) (fun p16=>
 (idx K (p12.1:Int)).bind fun e18=>
 cV k A B C D E F G H I J (K.set (Int.toNat (p12.1:Int)) (e18.1,(IntKind.wrap .i64 (p16.2+1)))) y4.To y4.Sent y4.Bytes y4.To y4.Bytes L M N O P Q R S T
 )
 )
 )
 else
 eN k A B 1 E F G H I J K M N O P Q R S T
noncomputable def cV:Nat→Int→Int→Int→Int→ByteArray→Int→ByteArray→ByteArray→Int→ByteArray→List (DKey×Int)→Int→ByteArray→ByteArray→Int→ByteArray→List aE→List aN→List aE→List aA→List aA→List aN→List aE→List aA→List aA→Option (aC)
 | 0,_,_,_,_,_,_,_,_,_,_,_,_,_,_,_,_,_,_,_,_,_,_,_,_,_=>none
 | k+1,A,B,C,D,E,F,G,H,I,J,K,L,M,N,O,P,Q,R,S,T,U,V,W,X,Y=>
 optK (cC (lI (⟨O,P⟩:DKey)) K 0) (
 (J0 0 B).bind fun q20=>
 bif (q20==0) then
 (fV k (⟨H,I,V,W,J,X,Y⟩:aC) (⟨L,M,N⟩:aE)).bind fun r21=>
 iJ k A B C D E F G r21.Key r21.Width r21.Forged K Q R S T U r21.Ends r21.Flight r21.Given r21.Taken
 else
 iJ k A B C D E F G H I J K Q R S T U V W X Y
 ) (fun p19=>
 (J0 p19.2 B).bind fun q22=>
 bif (q22==0) then
 (fV k (⟨H,I,V,W,J,X,Y⟩:aC) (⟨L,M,N⟩:aE)).bind fun r23=>
 iJ k A B C D E F G r23.Key r23.Width r23.Forged K Q R S T U r23.Ends r23.Flight r23.Given r23.Taken
 else
 iJ k A B C D E F G H I J K Q R S T U V W X Y
 )
noncomputable def eN:Nat→Int→Int→Int→ByteArray→Int→ByteArray→ByteArray→Int→ByteArray→List (DKey×Int)→List aN→List aE→List aA→List aA→List aN→List aE→List aA→List aA→Option (aC)
 | 0,_,_,_,_,_,_,_,_,_,_,_,_,_,_,_,_,_,_=>none
 | k+1,A,B,C,D,E,F,G,H,I,J,K,L,M,N,O,P,Q,R=>
 bif (decide (C≤2)) then
 kR k A B C 0 D E F G H I J K L M N O P Q R
 else
 iB k (IntKind.wrap .i64 (A-1)) B D E F G H I J K L M N O P Q R
noncomputable def iJ:Nat→Int→Int→Int→Int→ByteArray→Int→ByteArray→ByteArray→Int→ByteArray→List (DKey×Int)→List aE→List aN→List aE→List aA→List aA→List aN→List aE→List aA→List aA→Option (aC)
 | 0,_,_,_,_,_,_,_,_,_,_,_,_,_,_,_,_,_,_,_,_=>none
 | k+1,A,B,C,D,E,F,G,H,I,J,K,L,M,N,O,P,Q,R,S,T=>
 iN k A B C (IntKind.wrap .i64 (D+1)) E F G H I J K L M N O P Q R S T
noncomputable def kR:Nat→Int→Int→Int→Int→ByteArray→Int→ByteArray→ByteArray→Int→ByteArray→List (DKey×Int)→List aN→List aE→List aA→List aA→List aN→List aE→List aA→List aA→Option (aC)
 | 0,_,_,_,_,_,_,_,_,_,_,_,_,_,_,_,_,_,_,_=>none
 | k+1,A,B,C,D,E,F,G,H,I,J,K,L,M,N,O,P,Q,R,S=>
 bif (decide (D<4)) then
 (idx P (IntKind.wrap .i64 (C-1))).bind fun _=>
 (P[(Int.toNat (IntKind.wrap .i64 (C-1)))]?).bind fun y24=>
 bif (decide ((y24.Take.Ready.length:Int)>0)) then
 (j6 k (⟨H,I,P,Q,J,R,S⟩:aC) C).bind fun r25=>
 kR k A B C (IntKind.wrap .i64 (D+1)) E F G r25.Key r25.Width r25.Forged K L M N O r25.Ends r25.Flight r25.Given r25.Taken
 else
 eN k A B (IntKind.wrap .i64 (C+1)) E F G H I J K L M N O P Q R S
 else
 eN k A B (IntKind.wrap .i64 (C+1)) E F G H I J K L M N O P Q R S
end
noncomputable def BV (k:Nat) (a0:aC) (a1:Int) (a2:Int):Option (aC):=
 (fC k a0).bind fun r1=>
 bif (!r1) then
 some (⟨(⟨#[]⟩:ByteArray),0,([]:List aN),([]:List aE),(⟨#[]⟩:ByteArray),([]:List aA),([]:List aA)⟩:aC)
 else
 bif (decide (a2<1)) then
 some (⟨(⟨#[]⟩:ByteArray),0,([]:List aN),([]:List aE),(⟨#[]⟩:ByteArray),([]:List aA),([]:List aA)⟩:aC)
 else
 bif (decide (a2>10)) then
 some (⟨(⟨#[]⟩:ByteArray),0,([]:List aN),([]:List aE),(⟨#[]⟩:ByteArray),([]:List aA),([]:List aA)⟩:aC)
 else
 (lQ k a0).bind fun r2=>
 bif (decide (a1>5000)) then
 iB k 5000 a2 (⟨#[]⟩:ByteArray) 0 (⟨#[]⟩:ByteArray) r2.Key r2.Width r2.Forged ([]:List (DKey×Int)) ([]:List aN) ([]:List aE) ([]:List aA) ([]:List aA) r2.Ends r2.Flight r2.Given r2.Taken
 else
 iB k a1 a2 (⟨#[]⟩:ByteArray) 0 (⟨#[]⟩:ByteArray) r2.Key r2.Width r2.Forged ([]:List (DKey×Int)) ([]:List aN) ([]:List aE) ([]:List aA) ([]:List aA) r2.Ends r2.Flight r2.Given r2.Taken
noncomputable def mM:Nat→List aN→Int→Int→ByteArray→Int→List aN→List aE→ByteArray→List aA→List aA→Option (Bool)
 | 0,_,_,_,_,_,_,_,_,_,_=>none
 | k+1,A,B,C,D,E,F,G,H,I,J=>
 bif (decide (C<B)) then
 (idx A C).bind fun y2=>
 bif (!y2.Up) then
 some false
 else
 (idx F (IntKind.wrap .i64 (1-C))).bind fun y3=>
 bif (y2.Peer !=y3.Life) then
 some false
 else
 bif (decide ((y2.Send.Items.length:Int)>0)) then
 some false
 else
 bif (decide ((y2.Take.Held.length:Int)>0)) then
 some false
 else
 bif (!(y2.Take.Open.toList==(⟨#[]⟩:ByteArray).toList)) then
 some false
 else
 bif (decide ((y2.Take.Ready.length:Int)>0)) then
 some false
 else
 mM k A B (IntKind.wrap .i64 (C+1)) D E F G H I J
 else
 some true
noncomputable def CE (k:Nat) (a0:aC):Option (Bool):=
 (fC k a0).bind fun r1=>
 bif (!r1) then
 some false
 else
 mM k a0.Ends (a0.Ends.length:Int) 0 a0.Key a0.Width a0.Ends a0.Flight a0.Forged a0.Given a0.Taken
mutual
noncomputable def iP:Nat→Int→ByteArray→Int→List aN→List aE→ByteArray→List aA→List aA→Option (Bool)
 | 0,_,_,_,_,_,_,_,_=>none
 | k+1,A,B,C,D,E,F,G,H=>
 bif (decide (A<(H.length:Int))) then
 (idx H A).bind fun y2=>
 kD k A 0 0 B C D E F G H y2.From y2.A y2.B y2.Text
 else
 some true
noncomputable def kD:Nat→Int→Int→Int→ByteArray→Int→List aN→List aE→ByteArray→List aA→List aA→Int→Int→Int→ByteArray→Option (Bool)
 | 0,_,_,_,_,_,_,_,_,_,_,_,_,_,_=>none
 | k+1,A,B,C,D,E,F,G,H,I,J,K,L,M,N=>
 bif (decide (C<A)) then
 (idx J C).bind fun y3=>
 bif (y3.From==K) then
 (idx J C).bind fun y4=>
 bif (y4.A==L) then
 (idx J C).bind fun y5=>
 bif (y5.B==M) then
 eP k A (IntKind.wrap .i64 (B+1)) C D E F G H I J K L M N
 else
 eP k A B C D E F G H I J K L M N
 else
 eP k A B C D E F G H I J K L M N
 else
 eP k A B C D E F G H I J K L M N
 else
 gJ k A B false 0 D E F G H I J K L M N
noncomputable def eP:Nat→Int→Int→Int→ByteArray→Int→List aN→List aE→ByteArray→List aA→List aA→Int→Int→Int→ByteArray→Option (Bool)
 | 0,_,_,_,_,_,_,_,_,_,_,_,_,_,_=>none
 | k+1,A,B,C,D,E,F,G,H,I,J,K,L,M,N=>
 kD k A B (IntKind.wrap .i64 (C+1)) D E F G H I J K L M N
noncomputable def gJ:Nat→Int→Int→Bool→Int→ByteArray→Int→List aN→List aE→ByteArray→List aA→List aA→Int→Int→Int→ByteArray→Option (Bool)
 | 0,_,_,_,_,_,_,_,_,_,_,_,_,_,_,_=>none
 | k+1,A,B,C,D,E,F,G,H,I,J,K,L,M,N,O=>
 bif (decide (D<(J.length:Int))) then
 (idx J D).bind fun y6=>
 bif (y6.From==L) then
 bif (y6.A==M) then
 bif (y6.B==N) then
 bif C then
 dB k A (IntKind.wrap .i64 (B-1)) true D E F G H I J K L M N O
 else
 bif (B==0) then
 dB k A (IntKind.wrap .i64 (B-1)) (y6.Text.toList==O.toList) D E F G H I J K L M N O
 else
 dB k A (IntKind.wrap .i64 (B-1)) false D E F G H I J K L M N O
 else
 dB k A B C D E F G H I J K L M N O
 else
 dB k A B C D E F G H I J K L M N O
 else
 dB k A B C D E F G H I J K L M N O
 else
 bif (!C) then
 some false
 else
 iP k (IntKind.wrap .i64 (A+1)) E F G H I J K
noncomputable def dB:Nat→Int→Int→Bool→Int→ByteArray→Int→List aN→List aE→ByteArray→List aA→List aA→Int→Int→Int→ByteArray→Option (Bool)
 | 0,_,_,_,_,_,_,_,_,_,_,_,_,_,_,_=>none
 | k+1,A,B,C,D,E,F,G,H,I,J,K,L,M,N,O=>
 gJ k A B C (IntKind.wrap .i64 (D+1)) E F G H I J K L M N O
end
noncomputable def yH (k:Nat) (a0:aC):Option (Bool):=
 (fD k a0).bind fun r1=>
 bif (!r1) then
 some false
 else
 iP k 0 a0.Key a0.Width a0.Ends a0.Flight a0.Forged a0.Given a0.Taken
noncomputable def dG:Nat→Int→Int→List bT→Int→ByteArray→ByteArray→Option (List bT×Bool)
 | 0,_,_,_,_,_,_=>none
 | k+1,A,B,C,D,E,F=>
 bif (decide (B<(C.length:Int))) then
 (idx C B).bind fun _=>
 (C[(Int.toNat B)]?).bind fun y1=>
 bif (y1.to==D) then
 (idx C B).bind fun _=>
 (C[(Int.toNat B)]?).bind fun y2=>
 bif (y2.bytes.toList==F.toList) then
 (idx C B).bind fun _=>
 (C[(Int.toNat B)]?).bind fun y3=>
 (idx C B).bind fun _=>
 (C[(Int.toNat B)]?).bind fun y4=>
 (idx (C.set (Int.toNat B) (⟨y4.to,y4.bytes,(IntKind.wrap .i64 (y3.n+1))⟩:bT)) B).bind fun _=>
 ((C.set (Int.toNat B) (⟨y4.to,y4.bytes,(IntKind.wrap .i64 (y3.n+1))⟩:bT))[(Int.toNat B)]?).bind fun y5=>
 (J0 y5.n A).bind fun q6=>
 some ((C.set (Int.toNat B) (⟨y4.to,y4.bytes,(IntKind.wrap .i64 (y3.n+1))⟩:bT)),(q6==0))
 else
 dG k A (IntKind.wrap .i64 (B+1)) C D E F
 else
 dG k A (IntKind.wrap .i64 (B+1)) C D E F
 else
 (app 32 C ([(⟨D,F,1⟩:bT)]:List bT)).bind fun l7=>
 some (l7,(A==1))
noncomputable def pY (k:Nat) (a0:List bT) (a1:aE) (a2:Int):Option (List bT×Bool):=
 dG k a2 0 a0 a1.To a1.Sent a1.Bytes
mutual
noncomputable def mK:Nat→Int→Int→Int→ByteArray→Int→ByteArray→ByteArray→Int→ByteArray→List bT→List aN→List aE→List aA→List aA→List aN→List aE→List aA→List aA→Option (aC)
 | 0,_,_,_,_,_,_,_,_,_,_,_,_,_,_,_,_,_,_=>none
 | k+1,A,B,C,D,E,F,G,H,I,J,K,L,M,N,O,P,Q,R=>
 bif (decide (C<A)) then
 bif (decide (C<5000)) then
 (rA k (⟨G,H,O,P,I,Q,R⟩:aC)).bind fun r4=>
 kA k A B C D E F r4.Key r4.Width r4.Forged J K L M N r4.Ends r4.Flight r4.Given r4.Taken
 else
 (iL k (⟨G,H,O,P,I,Q,R⟩:aC)).bind fun r5=>
 some r5
 else
 (iL k (⟨G,H,O,P,I,Q,R⟩:aC)).bind fun r6=>
 some r6
noncomputable def kA:Nat→Int→Int→Int→ByteArray→Int→ByteArray→ByteArray→Int→ByteArray→List bT→List aN→List aE→List aA→List aA→List aN→List aE→List aA→List aA→Option (aC)
 | 0,_,_,_,_,_,_,_,_,_,_,_,_,_,_,_,_,_,_=>none
 | k+1,A,B,C,D,E,F,G,H,I,J,K,L,M,N,O,P,Q,R=>
 bif (decide ((P.length:Int)>0)) then
 (idx P 0).bind fun _=>
 (P[(Int.toNat 0)]?).bind fun y7=>
 (pY k J y7 B).bind fun r8=>
 bif r8.2 then
 (oU k (⟨G,H,O,P,I,Q,R⟩:aC) 0).bind fun r9=>
 kA k A B C D E F r9.Key r9.Width r9.Forged r8.1 K L M N r9.Ends r9.Flight r9.Given r9.Taken
 else
 (jH k P 0).bind fun r10=>
 kA k A B C D E F G H I r8.1 K L M N O r10 Q R
 else
 eO k A B C 1 D E F G H I J K L M N O P Q R
noncomputable def eO:Nat→Int→Int→Int→Int→ByteArray→Int→ByteArray→ByteArray→Int→ByteArray→List bT→List aN→List aE→List aA→List aA→List aN→List aE→List aA→List aA→Option (aC)
 | 0,_,_,_,_,_,_,_,_,_,_,_,_,_,_,_,_,_,_,_=>none
 | k+1,A,B,C,D,E,F,G,H,I,J,K,L,M,N,O,P,Q,R,S=>
 bif (decide (D≤2)) then
 kS k A B C D 0 E F G H I J K L M N O P Q R S
 else
 mK k A B (IntKind.wrap .i64 (C+1)) E F G H I J K L M N O P Q R S
noncomputable def kS:Nat→Int→Int→Int→Int→Int→ByteArray→Int→ByteArray→ByteArray→Int→ByteArray→List bT→List aN→List aE→List aA→List aA→List aN→List aE→List aA→List aA→Option (aC)
 | 0,_,_,_,_,_,_,_,_,_,_,_,_,_,_,_,_,_,_,_,_=>none
 | k+1,A,B,C,D,E,F,G,H,I,J,K,L,M,N,O,P,Q,R,S,T=>
 bif (decide (E<4)) then
 (idx Q (IntKind.wrap .i64 (D-1))).bind fun _=>
 (Q[(Int.toNat (IntKind.wrap .i64 (D-1)))]?).bind fun y11=>
 bif (decide ((y11.Take.Ready.length:Int)>0)) then
 (qP k (⟨I,J,Q,R,K,S,T⟩:aC) (⟨11,D,0,0,(⟨#[]⟩:ByteArray)⟩:bI)).bind fun r12=>
 kS k A B C D (IntKind.wrap .i64 (E+1)) F G H r12.Key r12.Width r12.Forged L M N O P r12.Ends r12.Flight r12.Given r12.Taken
 else
 eO k A B C (IntKind.wrap .i64 (D+1)) F G H I J K L M N O P Q R S T
 else
 eO k A B C (IntKind.wrap .i64 (D+1)) F G H I J K L M N O P Q R S T
end
noncomputable def xY (k:Nat) (a0:aC) (a1:Int) (a2:Int):Option (aC):=
 (fD k a0).bind fun r1=>
 bif (!r1) then
 some (⟨(⟨#[]⟩:ByteArray),0,([]:List aN),([]:List aE),(⟨#[]⟩:ByteArray),([]:List aA),([]:List aA)⟩:aC)
 else
 (a6 k a2 1 10).bind fun r2=>
 bif (!r2) then
 some (⟨(⟨#[]⟩:ByteArray),0,([]:List aN),([]:List aE),(⟨#[]⟩:ByteArray),([]:List aA),([]:List aA)⟩:aC)
 else
 (iL k a0).bind fun r3=>
 mK k a1 a2 0 (⟨#[]⟩:ByteArray) 0 (⟨#[]⟩:ByteArray) r3.Key r3.Width r3.Forged ([]:List bT) ([]:List aN) ([]:List aE) ([]:List aA) ([]:List aA) r3.Ends r3.Flight r3.Given r3.Taken
noncomputable def mU:Nat→Int→ByteArray→Int→List aN→List aE→ByteArray→List aA→List aA→Option (Bool)
 | 0,_,_,_,_,_,_,_,_=>none
 | k+1,A,B,C,D,E,F,G,H=>
 bif (decide (A<2)) then
 (idx D A).bind fun y2=>
 bif (!y2.Up) then
 some false
 else
 (idx D (IntKind.wrap .i64 (1-A))).bind fun y3=>
 bif (y2.Peer !=y3.Life) then
 some false
 else
 bif (decide ((y2.Send.Items.length:Int)>0)) then
 some false
 else
 bif (decide ((y2.Take.Held.length:Int)>0)) then
 some false
 else
 bif (!(y2.Take.Open.toList==(⟨#[]⟩:ByteArray).toList)) then
 some false
 else
 bif (decide ((y2.Take.Ready.length:Int)>0)) then
 some false
 else
 mU k (IntKind.wrap .i64 (A+1)) B C D E F G H
 else
 some true
noncomputable def BU (k:Nat) (a0:aC):Option (Bool):=
 (fD k a0).bind fun r1=>
 bif (!r1) then
 some false
 else
 mU k 0 a0.Key a0.Width a0.Ends a0.Flight a0.Forged a0.Given a0.Taken
noncomputable def lD:Nat→List Int→Option (bF)
 | 0,_=>none
 | k+1,A=>
 some (⟨A,0⟩:bF)
noncomputable def vF (k:Nat) (a0:List Int):Option (bF):=
 bif (decide ((a0.length:Int)>2000)) then
 (wnd a0.length 0 2000).bind fun p1=>
 lD k (iA a0 p1.1 p1.2)
 else
 lD k a0
noncomputable def aO (k:Nat) (a0:bF) (a1:Int):Option (Int×bF):=
 bif (decide (a1<1)) then
 some (0,(⟨a0.b,(IntKind.wrap .i64 (a0.p+1))⟩:bF))
 else
 bif ((a0.b.length:Int)==0) then
 some (0,(⟨a0.b,(IntKind.wrap .i64 (a0.p+1))⟩:bF))
 else
 bif (decide ((IntKind.wrap .i64 ((IntKind.wrap .i64 (a0.p+1))-1))<(a0.b.length:Int))) then
 (idx a0.b (IntKind.wrap .i64 ((IntKind.wrap .i64 (a0.p+1))-1))).bind fun y1=>
 (J0 (IntKind.wrap .i64 y1) a1).bind fun q2=>
 some (q2,(⟨a0.b,(IntKind.wrap .i64 (a0.p+1))⟩:bF))
 else
 (J0 (IntKind.wrap .i64 ((IntKind.wrap .i64 (a0.p+1))-1)) (a0.b.length:Int)).bind fun q3=>
 (idx a0.b q3).bind fun y4=>
 (J0 (IntKind.wrap .i64 ((IntKind.wrap .i64 ((IntKind.wrap .i64 ((IntKind.wrap .i64 (a0.p+1))-1))*7))+3)) (a0.b.length:Int)).bind fun q5=>
 (idx a0.b q5).bind fun y6=>
 (UH (IntKind.wrap .i64 ((IntKind.wrap .i64 (a0.p+1))-1)) (a0.b.length:Int)).bind fun q7=>
 (UH (IntKind.wrap .i64 ((IntKind.wrap .i64 ((IntKind.wrap .i64 ((IntKind.wrap .i64 ((IntKind.wrap .i64 y4)*131))+(IntKind.wrap .i64 ((IntKind.wrap .i64 y6)*1117))))+(IntKind.wrap .i64 ((IntKind.wrap .i64 ((IntKind.wrap .i64 (a0.p+1))-1))*29))))+(IntKind.wrap .i64 ((IntKind.wrap .i64 (q7))*53)))) 64).bind fun q8=>
 (J0 (vG .i64 (IntKind.wrap .i64 ((IntKind.wrap .i64 ((IntKind.wrap .i64 ((IntKind.wrap .i64 ((IntKind.wrap .i64 y4)*131))+(IntKind.wrap .i64 ((IntKind.wrap .i64 y6)*1117))))+(IntKind.wrap .i64 ((IntKind.wrap .i64 ((IntKind.wrap .i64 (a0.p+1))-1))*29))))+(IntKind.wrap .i64 ((IntKind.wrap .i64 (q7))*53)))) (IntKind.wrap .i64 (q8))) a1).bind fun q9=>
 some (q9,(⟨a0.b,(IntKind.wrap .i64 (a0.p+1))⟩:bF))
mutual
noncomputable def gM:Nat→ByteArray→Int→ByteArray→Option (ByteArray)
 | 0,_,_,_=>none
 | k+1,A,B,C=>
 bif (decide (B>0)) then
 (J0 B 2).bind fun q1=>
 bif (q1==1) then
 (dK C A).bind fun t2=>
 k8 k A B t2
 else
 k8 k A B C
 else
 some C
noncomputable def k8:Nat→ByteArray→Int→ByteArray→Option (ByteArray)
 | 0,_,_,_=>none
 | k+1,A,B,C=>
 (dK A A).bind fun t3=>
 (UH B 2).bind fun q4=>
 gM k t3 (IntKind.wrap .i64 (q4)) C
end
noncomputable def mC (k:Nat) (a0:ByteArray) (a1:Int):Option (ByteArray):=
 gM k a0 a1 (⟨#[]⟩:ByteArray)
noncomputable def d8:Nat→ByteArray→Int→List Int→Int→Option (ByteArray×bF)
 | 0,_,_,_,_=>none
 | k+1,A,B,C,D=>
 bif (decide (B>0)) then
 (aO k (⟨C,D⟩:bF) 5).bind fun r10=>
 (wnd (⟨#[97,98,99,100,32]⟩:ByteArray).size r10.1 ((⟨#[97,98,99,100,32]⟩:ByteArray).size:Int)).bind fun p11=>
 (wnd ((⟨#[97,98,99,100,32]⟩:ByteArray).extract p11.1 p11.2).size 0 1).bind fun p12=>
 (dK A (((⟨#[97,98,99,100,32]⟩:ByteArray).extract p11.1 p11.2).extract p12.1 p12.2)).bind fun t13=>
 d8 k t13 (IntKind.wrap .i64 (B-1)) r10.2.b r10.2.p
 else
 some (A,(⟨C,D⟩:bF))
noncomputable def oQ (k:Nat) (a0:bF):Option (ByteArray×bF):=
 (aO k a0 8).bind fun r1=>
 bif (r1.1==0) then
 some ((⟨#[]⟩:ByteArray),r1.2)
 else
 bif (r1.1==1) then
 (aO k r1.2 5).bind fun r2=>
 (aO k r2.2 3).bind fun r3=>
 (aO k r3.2 2).bind fun r4=>
 (aO k r4.2 2).bind fun r5=>
 (mC k (⟨#[109]⟩:ByteArray) (IntKind.wrap .i64 ((IntKind.wrap .i64 ((IntKind.wrap .i64 (20*r2.1))+r3.1))-(IntKind.wrap .i64 (r4.1*r5.1))))).bind fun r6=>
 some (r6,r5.2)
 else
 bif (r1.1==2) then
 (aO k r1.2 19).bind fun r7=>
 (mC k (⟨#[48,49,50,51,52,53,54,55,56,57]⟩:ByteArray) (IntKind.wrap .i64 (1+r7.1))).bind fun r8=>
 some (r8,r7.2)
 else
 bif (r1.1==3) then
 some ((⟨#[0,255]⟩:ByteArray),r1.2)
 else
 (aO k r1.2 30).bind fun r9=>
 d8 k (⟨#[]⟩:ByteArray) (IntKind.wrap .i64 (1+r9.1)) r9.2.b r9.2.p
mutual
noncomputable def j9:Nat→Int→Int→List Int→Int→Int→Int→Int→Int→ByteArray→Option (bI×bF)
 | 0,_,_,_,_,_,_,_,_,_=>none
 | k+1,A,B,C,D,E,F,G,H,I=>
 (aO k (⟨C,D⟩:bF) 2).bind fun r5=>
 bif (decide (A<9)) then
 some ((⟨1,0,0,0,(⟨#[]⟩:ByteArray)⟩:bI),r5.2)
 else
 bif (decide (A<19)) then
 some ((⟨2,B,0,0,(⟨#[]⟩:ByteArray)⟩:bI),r5.2)
 else
 bif (decide (A<26)) then
 (oQ k r5.2).bind fun r6=>
 some ((⟨10,(IntKind.wrap .i64 (1+r5.1)),0,0,r6.1⟩:bI),r6.2)
 else
 bif (decide (A<30)) then
 some ((⟨11,(IntKind.wrap .i64 (1+r5.1)),0,0,(⟨#[]⟩:ByteArray)⟩:bI),r5.2)
 else
 bif (A==30) then
 iX k B r5.2.b r5.2.p E F G H I
 else
 bif (A==31) then
 iX k B r5.2.b r5.2.p E F G H I
 else
 pK k B (IntKind.wrap .i64 (1+r5.1)) A r5.2.b r5.2.p E F G H I
noncomputable def iX:Nat→Int→List Int→Int→Int→Int→Int→Int→ByteArray→Option (bI×bF)
 | 0,_,_,_,_,_,_,_,_=>none
 | k+1,A,B,C,D,E,F,G,H=>
 some ((⟨3,A,0,0,(⟨#[]⟩:ByteArray)⟩:bI),(⟨B,C⟩:bF))
noncomputable def pK:Nat→Int→Int→Int→List Int→Int→Int→Int→Int→Int→ByteArray→Option (bI×bF)
 | 0,_,_,_,_,_,_,_,_,_,_=>none
 | k+1,A,B,C,D,E,F,G,H,I,J=>
 bif (C==32) then
 iQ k A D E F G H I J
 else
 bif (C==33) then
 iQ k A D E F G H I J
 else
 lU k A B C D E F G H I J
noncomputable def iQ:Nat→Int→List Int→Int→Int→Int→Int→Int→ByteArray→Option (bI×bF)
 | 0,_,_,_,_,_,_,_,_=>none
 | k+1,A,B,C,D,E,F,G,H=>
 some ((⟨4,A,0,0,(⟨#[]⟩:ByteArray)⟩:bI),(⟨B,C⟩:bF))
noncomputable def lU:Nat→Int→Int→Int→List Int→Int→Int→Int→Int→Int→ByteArray→Option (bI×bF)
 | 0,_,_,_,_,_,_,_,_,_,_=>none
 | k+1,A,B,C,D,E,F,G,H,I,J=>
 bif (C==34) then
 (aO k (⟨D,E⟩:bF) 40).bind fun r7=>
 (aO k r7.2 300).bind fun r8=>
 some ((⟨5,A,r7.1,r8.1,(⟨#[]⟩:ByteArray)⟩:bI),r8.2)
 else
 bif (C==35) then
 (aO k (⟨D,E⟩:bF) 40).bind fun r9=>
 some ((⟨6,A,r9.1,0,(⟨#[]⟩:ByteArray)⟩:bI),r9.2)
 else
 bif (C==36) then
 some ((⟨7,A,0,0,(⟨#[]⟩:ByteArray)⟩:bI),(⟨D,E⟩:bF))
 else
 bif (C==37) then
 some ((⟨8,B,0,0,(⟨#[]⟩:ByteArray)⟩:bI),(⟨D,E⟩:bF))
 else
 some ((⟨9,B,0,0,(⟨#[]⟩:ByteArray)⟩:bI),(⟨D,E⟩:bF))
end
noncomputable def sR (k:Nat) (a0:bF):Option (bI×bF):=
 (aO k a0 40).bind fun r1=>
 (aO k r1.2 24).bind fun r2=>
 (aO k r2.2 2).bind fun r3=>
 bif (r3.1==0) then
 (aO k r3.2 3).bind fun r4=>
 j9 k r1.1 r4.1 r4.2.b r4.2.p 0 0 0 0 (⟨#[]⟩:ByteArray)
 else
 j9 k r1.1 r2.1 r3.2.b r3.2.p 0 0 0 0 (⟨#[]⟩:ByteArray)
noncomputable def hD:Nat→ByteArray→Int→List Int→Int→Option (ByteArray×bF)
 | 0,_,_,_,_=>none
 | k+1,A,B,C,D=>
 (wnd A.size B (A.size:Int)).bind fun p21=>
 (dK A (A.extract p21.1 p21.2)).bind fun t22=>
 some (t22,(⟨C,D⟩:bF))
noncomputable def uN (k:Nat) (a0:bF) (a1:ByteArray):Option (ByteArray×bF):=
 (aO k a0 256).bind fun r1=>
 (UH (IntKind.wrap .i64 (r1.1*(IntKind.wrap .i64 ((a1.size:Int)+1)))) 256).bind fun q2=>
 (aO k r1.2 5).bind fun r3=>
 bif (r3.1==0) then
 (wnd a1.size 0 (IntKind.wrap .i64 (q2))).bind fun p4=>
 some ((a1.extract p4.1 p4.2),r3.2)
 else
 bif (r3.1==1) then
 (wnd a1.size 0 (IntKind.wrap .i64 (q2))).bind fun p5=>
 (aO k r3.2 6).bind fun r6=>
 (idx ([(⟨#[32]⟩:ByteArray),(⟨#[10]⟩:ByteArray),(⟨#[0]⟩:ByteArray),(⟨#[1]⟩:ByteArray),(⟨#[48]⟩:ByteArray),(⟨#[120]⟩:ByteArray)]:List ByteArray) r6.1).bind fun y7=>
 (dK (a1.extract p5.1 p5.2) y7).bind fun t8=>
 (wnd a1.size (IntKind.wrap .i64 (q2)) (a1.size:Int)).bind fun p9=>
 (dK t8 (a1.extract p9.1 p9.2)).bind fun t10=>
 some (t10,r6.2)
 else
 bif (r3.1==2) then
 bif (decide ((IntKind.wrap .i64 (q2))<(a1.size:Int))) then
 (wnd a1.size 0 (IntKind.wrap .i64 (q2))).bind fun p11=>
 (wnd a1.size (IntKind.wrap .i64 ((IntKind.wrap .i64 (q2))+1)) (a1.size:Int)).bind fun p12=>
 (dK (a1.extract p11.1 p11.2) (a1.extract p12.1 p12.2)).bind fun t13=>
 some (t13,r3.2)
 else
 hD k a1 (IntKind.wrap .i64 (q2)) r3.2.b r3.2.p
 else
 bif (r3.1==3) then
 bif (decide ((IntKind.wrap .i64 (q2))<(a1.size:Int))) then
 (wnd a1.size 0 (IntKind.wrap .i64 (q2))).bind fun p14=>
 (zN a1 (IntKind.wrap .i64 (q2))).bind fun c15=>
 (aO k r3.2 8).bind fun r16=>
 (shift .shl .i64 1 (IntKind.wrap .u64 r16.1)).bind fun s17=>
 (dK (a1.extract p14.1 p14.2) (mD ([(IntKind.wrap .u8 (vG .i64 (IntKind.wrap .i64 (c15.toNat:Int)) s17))]:List Int))).bind fun t18=>
 (wnd a1.size (IntKind.wrap .i64 ((IntKind.wrap .i64 (q2))+1)) (a1.size:Int)).bind fun p19=>
 (dK t18 (a1.extract p19.1 p19.2)).bind fun t20=>
 some (t20,r16.2)
 else
 hD k a1 (IntKind.wrap .i64 (q2)) r3.2.b r3.2.p
 else
 hD k a1 (IntKind.wrap .i64 (q2)) r3.2.b r3.2.p
structure cW where
  addr:Bool
  buf:List Int
def impl_kinds:List (ByteArray×Int×Int):=[
 (⟨#[116,105,99,107]⟩,1,0),(⟨#[98,114,105,110,103]⟩,2,1),(⟨#[100,111,117,98,108,101]⟩,3,1),(⟨#[108,111,115,101]⟩,4,1),(⟨#[98,101,110,100]⟩,5,3),
 (⟨#[99,117,116]⟩,6,2),(⟨#[116,117,114,110]⟩,7,1),(⟨#[102,97,108,108]⟩,8,1),(⟨#[114,105,115,101]⟩,9,1)]
def strings_HasPrefix (k:Nat) (s p:ByteArray):Option Bool:=some (Lib.hasPrefix s.data.toList p.data.toList)
def strings_Split (k:Nat) (s sep:ByteArray):Option (List ByteArray):=
 if s.size<4294967281∧1≤sep.size then some (Lib.splitB sep 0 (Lib.countB s sep) s) else none
def strings_SplitN (k:Nat) (s sep:ByteArray) (n:Int):Option (List ByteArray):=
 if s.size<4294967281∧1≤sep.size∧1≤n∧n≤9223372036854775807 then some (Lib.splitB sep 0 (min n.toNat (s.size+1)-1) s) else none
def strconv_Itoa (k:Nat) (n:Int):Option ByteArray:=
 if-9223372036854775808≤n∧n≤9223372036854775807 then some ⟨(Lib.itoa n).toArray⟩ else none
def mP (k:Nat) (s:ByteArray):Option (Int×Unit):=
 if s.size≤9223372036854775806 then (match Lib.atoiAll s.data.toList with | .ok v=>some (v,()) | _=>none) else none
def oG (k:Nat) (b:cW):Option cW:=some ⟨true,b.buf⟩
def lC (k:Nat) (b:cW):Option ByteArray:=
 if b.buf.length≤140737488355328∧(∀x∈b.buf,0≤x∧x<256)∧(b.addr=false∨b.buf≠[]) then some (mD b.buf) else none
end Km.X
