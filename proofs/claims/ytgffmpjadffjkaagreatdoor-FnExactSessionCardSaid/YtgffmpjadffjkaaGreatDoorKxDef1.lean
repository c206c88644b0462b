/- A part of the proof of FnExactSession: the functions that it reads off the program. There is no condition. -/
import Derived.Test.YtgffmpjadffjkaaGreatDoorKmAm4
set_option linter.unusedVariables false
namespace Km.X
open Go Km
set_option maxRecDepth 100000
structure bV where
  Text:ByteArray
  Last:Bool
structure aI where
  Part:bV
  Has:Bool
  Since:Int
structure aK where
  Base:Int
  Items:List aI
structure aP where
  Seq:Int
  Part:bV
structure aM where
  Next:Int
  Held:List aP
  Open:ByteArray
  Ready:List ByteArray
structure aN where
  Number:Int
  Up:Bool
  Life:Int
  Peer:Int
  Since:Int
  Owes:Bool
  Send:aK
  Take:aM
structure aE where
  Kind:Int
  From:Int
  Mine:Int
  Yours:Int
  Next:Int
  Mask:Int
  Seq:Int
  Last:Bool
  Part:ByteArray
structure aV where
  Code:Int
  End:aN
  Out:List aE
  Text:ByteArray
structure c6 where
  Kind:Int
  A:Int
  B:Int
  C:Int
  Text:ByteArray
structure DKey where
  to:Int
  bytes:ByteArray
structure eI where
  b:List Int
  p:Int
structure bQ where
  to:Int
  bytes:ByteArray
  n:Int
structure DPair where
  f:Int
  a:Int
  b:Int
structure aD where
  To:Int
  Sent:ByteArray
  Bytes:ByteArray
structure aA where
  From:Int
  A:Int
  B:Int
  Text:ByteArray
structure aC where
  Key:ByteArray
  Width:Int
  Ends:List aN
  Flight:List aD
  Forged:ByteArray
  Given:List aA
  Taken:List aA
def lH (x y:DKey):Bool:=((x.to==y.to)&&((x.bytes.toList==y.bytes.toList)&&true))
theorem IV {x y:DKey} (h:lH x y=true):x=y:=by
  obtain ⟨x0,x1⟩:=x
  obtain ⟨y0,y1⟩:=y
  simp only [lH,Bool.and_eq_true,Bool.and_true,beq_iff_eq] at h
  obtain ⟨h0,h1⟩:=h
  subst h0;have h1:=Km.toList_inj h1;subst h1;rfl
def cD (x y:DPair):Bool:=((x.f==y.f)&&((x.a==y.a)&&((x.b==y.b)&&true)))
theorem DZ {x y:DPair} (h:cD x y=true):x=y:=by
  obtain ⟨x0,x1,x2⟩:=x
  obtain ⟨y0,y1,y2⟩:=y
  simp only [cD,Bool.and_eq_true,Bool.and_true,beq_iff_eq] at h
  obtain ⟨h0,h1,h2⟩:=h
  subst h0;subst h1;subst h2;rfl
def aZ (k:Nat) (a0:Int) (a1:Int) (a2:Int):Option (Bool):=
 bif (decide (a0≥a1)) then
 some (decide (a0≤a2))
 else
 some false
def jE:Nat→ByteArray→Int→Int→Option (Int)
 | 0,_,_,_=>none
 | k+1,A,B,C=>
 bif (decide (C<(A.size:Int))) then
 (AQ A C).bind fun c1=>
 jE k A (IntKind.wrap .i64 ((IntKind.wrap .i64 (B*256))+(IntKind.wrap .i64 (c1.toNat:Int)))) (IntKind.wrap .i64 (C+1))
 else
 some B
def n5 (k:Nat) (a0:ByteArray):Option (Int):=
 jE k a0 0 0
def oV (k:Nat) (a0:aE):Option (Bool):=
 (aZ k a0.From 1 2).bind fun r1=>
 bif (!r1) then
 some false
 else
 (aZ k a0.Mine 1 1000).bind fun r2=>
 bif (!r2) then
 some false
 else
 (aZ k a0.Yours 0 1000).bind fun r3=>
 bif (!r3) then
 some false
 else
 bif (a0.Kind==1) then
 (aZ k a0.Next 0 1000000).bind fun r4=>
 bif r4 then
 (aZ k a0.Mask 0 255).bind fun r5=>
 bif r5 then
 bif (a0.Seq==0) then
 bif (!a0.Last) then
 some (a0.Part.toList==(⟨#[]⟩:ByteArray).toList)
 else
 some false
 else
 some false
 else
 some false
 else
 some false
 else
 bif (a0.Kind==2) then
 bif (a0.Next==0) then
 bif (a0.Mask==0) then
 (aZ k a0.Seq 0 999999).bind fun r6=>
 bif r6 then
 some (decide ((a0.Part.size:Int)≤20))
 else
 some false
 else
 some false
 else
 some false
 else
 some false
def fQ:Nat→Int→Int→ByteArray→Int→Option (ByteArray)
 | 0,_,_,_,_=>none
 | k+1,A,B,C,D=>
 bif (decide (D<B)) then
 (KP A 256).bind fun q1=>
 (iY (m6 ([(IntKind.wrap .u8 q1)]:List Int)) C).bind fun t2=>
 (VX A 256).bind fun q3=>
 fQ k (IntKind.wrap .i64 (q3)) B t2 (IntKind.wrap .i64 (D+1))
 else
 some C
def dT (k:Nat) (a0:Int) (a1:Int):Option (ByteArray):=
 fQ k a0 a1 (⟨#[]⟩:ByteArray) 0
def k8:Nat→ByteArray→Int→Int→Int→Int→Int→Int→Int→Int→Bool→ByteArray→Option (ByteArray)
 | 0,_,_,_,_,_,_,_,_,_,_,_=>none
 | k+1,A,B,C,D,E,F,G,H,I,J,K=>
 (dT k I 4).bind fun r12=>
 (iY A r12).bind fun t13=>
 (dT k B 1).bind fun r14=>
 (iY t13 r14).bind fun t15=>
 (iY t15 K).bind fun t16=>
 some t16
def qT (k:Nat) (a0:aE):Option (ByteArray):=
 (dT k a0.Kind 1).bind fun r1=>
 (dT k a0.From 1).bind fun r2=>
 (iY r1 r2).bind fun t3=>
 (dT k a0.Mine 2).bind fun r4=>
 (iY t3 r4).bind fun t5=>
 (dT k a0.Yours 2).bind fun r6=>
 (iY t5 r6).bind fun t7=>
 bif (a0.Kind==1) then
 (dT k a0.Next 4).bind fun r8=>
 (iY t7 r8).bind fun t9=>
 (dT k a0.Mask 1).bind fun r10=>
 (iY t9 r10).bind fun t11=>
 some t11
 else
 bif a0.Last then
 k8 k t7 1 a0.Kind a0.From a0.Mine a0.Yours a0.Next a0.Mask a0.Seq a0.Last a0.Part
 else
 k8 k t7 0 a0.Kind a0.From a0.Mine a0.Yours a0.Next a0.Mask a0.Seq a0.Last a0.Part
mutual
def oH:Nat→Int→ByteArray→Int→Int→Option (ByteArray)
 | 0,_,_,_,_=>none
 | k+1,A,B,C,D=>
 bif (decide (D<(B.size:Int))) then
 (AQ B D).bind fun c4=>
 oH k A B (IntKind.wrap .u64 ((w6 .u64 C (IntKind.wrap .u64 (c4.toNat:Int)))*1099511628211)) (IntKind.wrap .i64 (D+1))
 else
 mK k A C (⟨#[]⟩:ByteArray) 0
def mK:Nat→Int→Int→ByteArray→Int→Option (ByteArray)
 | 0,_,_,_,_=>none
 | k+1,A,B,C,D=>
 bif (decide (D<A)) then
 (KP B 256).bind fun q5=>
 (iY (m6 ([(IntKind.wrap .u8 q5)]:List Int)) C).bind fun t6=>
 (VX B 256).bind fun q7=>
 mK k A (IntKind.wrap .u64 (q7)) t6 (IntKind.wrap .i64 (D+1))
 else
 some C
end
def GL (k:Nat) (a0:ByteArray) (a1:ByteArray) (a2:Int):Option (ByteArray):=
 (aZ k a2 1 8).bind fun r1=>
 bif (!r1) then
 some (⟨#[]⟩:ByteArray)
 else
 bif (decide ((a1.size:Int)>30)) then
 some (⟨#[]⟩:ByteArray)
 else
 (iY a1 (⟨#[0]⟩:ByteArray)).bind fun t2=>
 (iY t2 a0).bind fun t3=>
 oH k a2 t3 14695981039346656037 0
def gW (k:Nat) (a0:aE) (a1:ByteArray) (a2:Int):Option (ByteArray):=
 (oV k a0).bind fun r1=>
 bif (!r1) then
 some (⟨#[]⟩:ByteArray)
 else
 (aZ k a2 1 8).bind fun r2=>
 bif (!r2) then
 some (⟨#[]⟩:ByteArray)
 else
 bif (decide ((a1.size:Int)>30)) then
 some (⟨#[]⟩:ByteArray)
 else
 (qT k a0).bind fun r3=>
 (GL k r3 a1 a2).bind fun r4=>
 (qT k a0).bind fun r5=>
 (iY r4 r5).bind fun t6=>
 some t6
def eY:Nat→ByteArray→ByteArray→Int→Int→Int→Int→Int→Int→Int→Int→Bool→ByteArray→Int→Int→Int→Int→Int→Int→Int→Bool→ByteArray→Option (aE×Bool)
 | 0,_,_,_,_,_,_,_,_,_,_,_,_,_,_,_,_,_,_,_,_,_=>none
 | k+1,A,B,C,D,E,F,G,H,I,J,K,L,M,N,O,P,Q,R,S,T,U=>
 (gW k (⟨M,N,O,P,Q,R,S,T,U⟩:aE) B C).bind fun r16=>
 bif (!(r16.toList==A.toList)) then
 some ((⟨0,0,0,0,0,0,0,false,(⟨#[]⟩:ByteArray)⟩:aE),false)
 else
 some ((⟨M,N,O,P,Q,R,S,T,U⟩:aE),true)
def mY (k:Nat) (a0:ByteArray) (a1:ByteArray) (a2:Int):Option (aE×Bool):=
 (aZ k a2 1 8).bind fun r1=>
 bif (!r1) then
 some ((⟨0,0,0,0,0,0,0,false,(⟨#[]⟩:ByteArray)⟩:aE),false)
 else
 bif (decide ((a0.size:Int)<(IntKind.wrap .i64 (a2+11)))) then
 some ((⟨0,0,0,0,0,0,0,false,(⟨#[]⟩:ByteArray)⟩:aE),false)
 else
 (wnd a0.size a2 (a0.size:Int)).bind fun p2=>
 (AQ (a0.extract p2.1 p2.2) 0).bind fun c3=>
 (AQ (a0.extract p2.1 p2.2) 1).bind fun c4=>
 (wnd (a0.extract p2.1 p2.2).size 2 4).bind fun p5=>
 (n5 k ((a0.extract p2.1 p2.2).extract p5.1 p5.2)).bind fun r6=>
 (wnd (a0.extract p2.1 p2.2).size 4 6).bind fun p7=>
 (n5 k ((a0.extract p2.1 p2.2).extract p7.1 p7.2)).bind fun r8=>
 bif ((IntKind.wrap .i64 (c3.toNat:Int))==1) then
 (wnd (a0.extract p2.1 p2.2).size 6 10).bind fun p9=>
 (n5 k ((a0.extract p2.1 p2.2).extract p9.1 p9.2)).bind fun r10=>
 (AQ (a0.extract p2.1 p2.2) 10).bind fun c11=>
 eY k a0 a1 a2 0 0 0 0 0 0 0 false (⟨#[]⟩:ByteArray) (IntKind.wrap .i64 (c3.toNat:Int)) (IntKind.wrap .i64 (c4.toNat:Int)) r6 r8 r10 (IntKind.wrap .i64 (c11.toNat:Int)) 0 false (⟨#[]⟩:ByteArray)
 else
 (wnd (a0.extract p2.1 p2.2).size 6 10).bind fun p12=>
 (n5 k ((a0.extract p2.1 p2.2).extract p12.1 p12.2)).bind fun r13=>
 (AQ (a0.extract p2.1 p2.2) 10).bind fun c14=>
 (wnd (a0.extract p2.1 p2.2).size 11 ((a0.extract p2.1 p2.2).size:Int)).bind fun p15=>
 eY k a0 a1 a2 0 0 0 0 0 0 0 false (⟨#[]⟩:ByteArray) (IntKind.wrap .i64 (c3.toNat:Int)) (IntKind.wrap .i64 (c4.toNat:Int)) r6 r8 0 0 r13 ((c14.toNat:Int)==1) ((a0.extract p2.1 p2.2).extract p15.1 p15.2)
def bP (k:Nat) (a0:Int) (a1:Int) (a2:Int):Option (Bool):=
 bif (decide (a0≥a1)) then
 some (decide (a0≤a2))
 else
 some false
def c8:Nat→List aI→Int→Int→Option (Bool)
 | 0,_,_,_=>none
 | k+1,A,B,C=>
 bif (decide (C<B)) then
 (idx A C).bind fun y2=>
 bif (decide ((y2.Part.Text.size:Int)>20)) then
 some false
 else
 (bP k y2.Since (-1) 3).bind fun r3=>
 bif (!r3) then
 some false
 else
 bif (decide (C≥8)) then
 bif (y2.Since !=(-1)) then
 some false
 else
 bif y2.Has then
 bif (decide (y2.Since<0)) then
 some false
 else
 c8 k A B (IntKind.wrap .i64 (C+1))
 else
 c8 k A B (IntKind.wrap .i64 (C+1))
 else
 bif y2.Has then
 bif (decide (y2.Since<0)) then
 some false
 else
 c8 k A B (IntKind.wrap .i64 (C+1))
 else
 c8 k A B (IntKind.wrap .i64 (C+1))
 else
 some true
def cQ (k:Nat) (a0:aK):Option (Bool):=
 bif (decide ((a0.Items.length:Int)>60)) then
 some false
 else
 (bP k a0.Base 0 1000000).bind fun r1=>
 bif (!r1) then
 some false
 else
 bif (decide ((IntKind.wrap .i64 (a0.Base+(a0.Items.length:Int)))>1000000)) then
 some false
 else
 c8 k a0.Items (a0.Items.length:Int) 0
def qY (k:Nat) (a0:aM) (a1:bV):Option (Bool):=
 bif (decide ((IntKind.wrap .i64 ((a0.Open.size:Int)+(a1.Text.size:Int)))≤200)) then
 bif (!a1.Last) then
 some true
 else
 some (decide ((a0.Ready.length:Int)<4))
 else
 some false
mutual
def bM:Nat→List aP→Int→Int→Int→List aP→ByteArray→List ByteArray→Option (Bool)
 | 0,_,_,_,_,_,_,_=>none
 | k+1,A,B,C,D,E,F,G=>
 bif (decide (C<B)) then
 (idx A C).bind fun y2=>
 (bP k y2.Seq D (IntKind.wrap .i64 ((IntKind.wrap .i64 (D+8))-1))).bind fun r3=>
 bif (!r3) then
 some false
 else
 bif (decide (y2.Seq>999999)) then
 some false
 else
 bif (decide ((y2.Part.Text.size:Int)>20)) then
 some false
 else
 bif (decide (C>0)) then
 (idx E (IntKind.wrap .i64 (C-1))).bind fun y4=>
 bif (decide (y4.Seq≥y2.Seq)) then
 some false
 else
 bif (y2.Seq==D) then
 (qY k (⟨D,E,F,G⟩:aM) y2.Part).bind fun r5=>
 bif r5 then
 some false
 else
 bM k A B (IntKind.wrap .i64 (C+1)) D E F G
 else
 bM k A B (IntKind.wrap .i64 (C+1)) D E F G
 else
 bif (y2.Seq==D) then
 (qY k (⟨D,E,F,G⟩:aM) y2.Part).bind fun r6=>
 bif r6 then
 some false
 else
 bM k A B (IntKind.wrap .i64 (C+1)) D E F G
 else
 bM k A B (IntKind.wrap .i64 (C+1)) D E F G
 else
 d9 k G (G.length:Int) 0
def d9:Nat→List ByteArray→Int→Int→Option (Bool)
 | 0,_,_,_=>none
 | k+1,A,B,C=>
 bif (decide (C<B)) then
 (idx A C).bind fun y7=>
 bif (decide ((y7.size:Int)>200)) then
 some false
 else
 d9 k A B (IntKind.wrap .i64 (C+1))
 else
 some true
end
def dS (k:Nat) (a0:aM):Option (Bool):=
 (bP k a0.Next 0 1000000).bind fun r1=>
 bif (!r1) then
 some false
 else
 bif (decide ((a0.Held.length:Int)>8)) then
 some false
 else
 bif (decide ((a0.Open.size:Int)>200)) then
 some false
 else
 bif (decide ((a0.Ready.length:Int)>4)) then
 some false
 else
 bM k a0.Held (a0.Held.length:Int) 0 a0.Next a0.Held a0.Open a0.Ready
def kK (k:Nat) (a0:aK):Option (aK):=
 (app 40 ([]:List aI) a0.Items).bind fun l1=>
 some (⟨a0.Base,l1⟩:aK)
def nD (k:Nat) (a0:aM):Option (aM):=
 (app 32 ([]:List aP) a0.Held).bind fun l1=>
 (app 16 ([]:List ByteArray) a0.Ready).bind fun l2=>
 some (⟨a0.Next,l1,a0.Open,l2⟩:aM)
mutual
def fO:Nat→Int→Int→Int→List Int→List aI→List aI→Option (aK×List Int)
 | 0,_,_,_,_,_,_=>none
 | k+1,A,B,C,D,E,F=>
 bif (decide (A<(F.length:Int))) then
 bif (decide (A<8)) then
 (idx F A).bind fun _=>
 (F[(Int.toNat A)]?).bind fun y3=>
 bif y3.Has then
 eG k A B C D E F
 else
 (F[(Int.toNat A)]?).bind fun y4=>
 bif (y4.Since==(-1)) then
 (F[(Int.toNat A)]?).bind fun y5=>
 (app 8 D ([(IntKind.wrap .i64 (C+A))]:List Int)).bind fun l6=>
 eG k A B C l6 E (F.set (Int.toNat A) (⟨y5.Part,y5.Has,0⟩:aI))
 else
 (F[(Int.toNat A)]?).bind fun y7=>
 bif (y7.Since==3) then
 (F[(Int.toNat A)]?).bind fun y8=>
 (app 8 D ([(IntKind.wrap .i64 (C+A))]:List Int)).bind fun l9=>
 eG k A B C l9 E (F.set (Int.toNat A) (⟨y8.Part,y8.Has,0⟩:aI))
 else
 (F[(Int.toNat A)]?).bind fun y10=>
 (F[(Int.toNat A)]?).bind fun y11=>
 eG k A B C D E (F.set (Int.toNat A) (⟨y11.Part,y11.Has,(IntKind.wrap .i64 (y10.Since+1))⟩:aI))
 else
 some ((⟨C,F⟩:aK),D)
 else
 some ((⟨C,F⟩:aK),D)
def eG:Nat→Int→Int→Int→List Int→List aI→List aI→Option (aK×List Int)
 | 0,_,_,_,_,_,_=>none
 | k+1,A,B,C,D,E,F=>
 fO k (IntKind.wrap .i64 (A+1)) B C D E F
end
def pW (k:Nat) (a0:aK):Option (aK×List Int):=
 (cQ k a0).bind fun r1=>
 bif (!r1) then
 some ((⟨0,([]:List aI)⟩:aK),([]:List Int))
 else
 (kK k a0).bind fun r2=>
 fO k 0 0 r2.Base ([]:List Int) ([]:List aI) r2.Items
def fJ:Nat→Int→List aP→Int→Int→Int→List aP→ByteArray→List ByteArray→Option (Int×Int)
 | 0,_,_,_,_,_,_,_,_=>none
 | k+1,A,B,C,D,E,F,G,H=>
 bif (decide (D<C)) then
 (idx B D).bind fun y2=>
 (shift .shl .i64 1 (IntKind.wrap .i64 (y2.Seq-E))).bind fun s3=>
 fJ k (W9 .i64 A s3) B C (IntKind.wrap .i64 (D+1)) E F G H
 else
 some (E,A)
def kF (k:Nat) (a0:aM):Option (Int×Int):=
 (dS k a0).bind fun r1=>
 bif (!r1) then
 some (0,0)
 else
 fJ k 0 a0.Held (a0.Held.length:Int) 0 a0.Next a0.Held a0.Open a0.Ready
def cG (k:Nat) (a0:aE):Option (Bool):=
 bif (a0.From !=1) then
 bif (a0.From !=2) then
 some false
 else
 (bP k a0.Mine 1 1000).bind fun r1=>
 bif (!r1) then
 some false
 else
 (bP k a0.Yours 0 1000).bind fun r2=>
 bif (!r2) then
 some false
 else
 bif (a0.Kind==1) then
 (bP k a0.Next 0 1000000).bind fun r3=>
 bif r3 then
 (bP k a0.Mask 0 255).bind fun r4=>
 bif r4 then
 bif (a0.Seq==0) then
 bif (!a0.Last) then
 some (a0.Part.toList==(⟨#[]⟩:ByteArray).toList)
 else
 some false
 else
 some false
 else
 some false
 else
 some false
 else
 bif (a0.Kind==2) then
 bif (a0.Next==0) then
 bif (a0.Mask==0) then
 (bP k a0.Seq 0 999999).bind fun r5=>
 bif r5 then
 some (decide ((a0.Part.size:Int)≤20))
 else
 some false
 else
 some false
 else
 some false
 else
 some false
 else
 (bP k a0.Mine 1 1000).bind fun r6=>
 bif (!r6) then
 some false
 else
 (bP k a0.Yours 0 1000).bind fun r7=>
 bif (!r7) then
 some false
 else
 bif (a0.Kind==1) then
 (bP k a0.Next 0 1000000).bind fun r8=>
 bif r8 then
 (bP k a0.Mask 0 255).bind fun r9=>
 bif r9 then
 bif (a0.Seq==0) then
 bif (!a0.Last) then
 some (a0.Part.toList==(⟨#[]⟩:ByteArray).toList)
 else
 some false
 else
 some false
 else
 some false
 else
 some false
 else
 bif (a0.Kind==2) then
 bif (a0.Next==0) then
 bif (a0.Mask==0) then
 (bP k a0.Seq 0 999999).bind fun r10=>
 bif r10 then
 some (decide ((a0.Part.size:Int)≤20))
 else
 some false
 else
 some false
 else
 some false
 else
 some false
def pY:Nat→Int→Int→List Int→Option (ByteArray)
 | 0,_,_,_=>none
 | k+1,A,B,C=>
 bif (decide (B≥0)) then
 (idx C B).bind fun _=>
 (C[(Int.toNat B)]?).bind fun y2=>
 (shift .shr .i64 A 8).bind fun s3=>
 pY k s3 (IntKind.wrap .i64 (B-1)) (C.set (Int.toNat B) (IntKind.wrap .u8 A))
 else
 some (m6 C)
def qW (k:Nat) (a0:Int) (a1:Int):Option (ByteArray):=
 (if (a1:Int)=a1 then room 1 a1 else none).bind fun n1=>
 pY k a0 (IntKind.wrap .i64 (a1-1)) (List.replicate n1 0)
mutual
def nZ:Nat→Int→Int→ByteArray→Int→Option (ByteArray)
 | 0,_,_,_,_=>none
 | k+1,A,B,C,D=>
 bif (decide (D<(C.size:Int))) then
 (AQ C D).bind fun c3=>
 nZ k A (IntKind.wrap .u64 ((w6 .u64 B (IntKind.wrap .u64 (c3.toNat:Int)))*1099511628211)) C (IntKind.wrap .i64 (D+1))
 else
 mD k A B 7 (List.replicate 8 0)
def mD:Nat→Int→Int→Int→List Int→Option (ByteArray)
 | 0,_,_,_,_=>none
 | k+1,A,B,C,D=>
 bif (decide (C≥0)) then
 (if D.length=8 then idx D C else none).bind fun _=>
 (D[(Int.toNat C)]?).bind fun y4=>
 (shift .shr .u64 B 8).bind fun s5=>
 mD k A s5 (IntKind.wrap .i64 (C-1)) (D.set (Int.toNat C) (IntKind.wrap .u8 B))
 else
 (if D.length=8 then wnd 8 (IntKind.wrap .i64 (8-A)) (8:Int) else none).bind fun p6=>
 some (m6 (iF D p6.1 p6.2))
end
def GQ (k:Nat) (a0:ByteArray) (a1:ByteArray) (a2:Int):Option (ByteArray):=
 bif (decide (a2<1)) then
 some (⟨#[]⟩:ByteArray)
 else
 bif (decide (a2>8)) then
 some (⟨#[]⟩:ByteArray)
 else
 bif (decide ((a1.size:Int)>30)) then
 some (⟨#[]⟩:ByteArray)
 else
 (iY a1 (⟨#[0]⟩:ByteArray)).bind fun t1=>
 (iY t1 a0).bind fun t2=>
 nZ k a2 14695981039346656037 t2 0
mutual
def fC:Nat→ByteArray→Int→ByteArray→Option (ByteArray)
 | 0,_,_,_=>none
 | k+1,A,B,C=>
 (GQ k C A B).bind fun r13=>
 (iY r13 C).bind fun t14=>
 some t14
def fU:Nat→ByteArray→Int→ByteArray→Int→Int→Int→Int→Int→Int→Int→Int→Bool→ByteArray→Option (ByteArray)
 | 0,_,_,_,_,_,_,_,_,_,_,_,_,_=>none
 | k+1,A,B,C,D,E,F,G,H,I,J,K,L,M=>
 (qW k K 4).bind fun r15=>
 (qW k D 1).bind fun r16=>
 (iY r15 r16).bind fun t17=>
 (iY t17 M).bind fun t18=>
 (iY C t18).bind fun t19=>
 fC k A B t19
end
def gK (k:Nat) (a0:aE) (a1:ByteArray) (a2:Int):Option (ByteArray):=
 (cG k a0).bind fun r1=>
 bif (!r1) then
 some (⟨#[]⟩:ByteArray)
 else
 bif (decide (a2<1)) then
 some (⟨#[]⟩:ByteArray)
 else
 bif (decide (a2>8)) then
 some (⟨#[]⟩:ByteArray)
 else
 bif (decide ((a1.size:Int)>30)) then
 some (⟨#[]⟩:ByteArray)
 else
 (qW k a0.Kind 1).bind fun r2=>
 (qW k a0.From 1).bind fun r3=>
 (iY r2 r3).bind fun t4=>
 (qW k a0.Mine 2).bind fun r5=>
 (iY t4 r5).bind fun t6=>
 (qW k a0.Yours 2).bind fun r7=>
 (iY t6 r7).bind fun t8=>
 bif (a0.Kind==1) then
 (qW k a0.Next 4).bind fun r9=>
 (qW k a0.Mask 1).bind fun r10=>
 (iY r9 r10).bind fun t11=>
 (iY t8 t11).bind fun t12=>
 fC k a1 a2 t12
 else
 bif a0.Last then
 fU k a1 a2 t8 1 a0.Kind a0.From a0.Mine a0.Yours a0.Next a0.Mask a0.Seq a0.Last a0.Part
 else
 fU k a1 a2 t8 0 a0.Kind a0.From a0.Mine a0.Yours a0.Next a0.Mask a0.Seq a0.Last a0.Part
def n7:Nat→ByteArray→Int→Int→Option (Int)
 | 0,_,_,_=>none
 | k+1,A,B,C=>
 bif (decide (C<(A.size:Int))) then
 (shift .shl .i64 B 8).bind fun s1=>
 (AQ A C).bind fun c2=>
 n7 k A (W9 .i64 s1 (IntKind.wrap .i64 (c2.toNat:Int))) (IntKind.wrap .i64 (C+1))
 else
 some B
def xM (k:Nat) (a0:ByteArray):Option (Int):=
 n7 k a0 0 0
def cY:Nat→ByteArray→ByteArray→Int→Int→Int→Int→Int→Int→Int→Int→Bool→ByteArray→Int→Int→Int→Int→Int→Int→Int→Bool→ByteArray→Option (aE×Bool)
 | 0,_,_,_,_,_,_,_,_,_,_,_,_,_,_,_,_,_,_,_,_,_=>none
 | k+1,A,B,C,D,E,F,G,H,I,J,K,L,M,N,O,P,Q,R,S,T,U=>
 (cG k (⟨M,N,O,P,Q,R,S,T,U⟩:aE)).bind fun r15=>
 bif (!r15) then
 some ((⟨0,0,0,0,0,0,0,false,(⟨#[]⟩:ByteArray)⟩:aE),false)
 else
 (gK k (⟨M,N,O,P,Q,R,S,T,U⟩:aE) B C).bind fun r16=>
 bif (!(r16.toList==A.toList)) then
 some ((⟨0,0,0,0,0,0,0,false,(⟨#[]⟩:ByteArray)⟩:aE),false)
 else
 some ((⟨M,N,O,P,Q,R,S,T,U⟩:aE),true)
def mS (k:Nat) (a0:ByteArray) (a1:ByteArray) (a2:Int):Option (aE×Bool):=
 bif (decide (a2<1)) then
 some ((⟨0,0,0,0,0,0,0,false,(⟨#[]⟩:ByteArray)⟩:aE),false)
 else
 bif (decide (a2>8)) then
 some ((⟨0,0,0,0,0,0,0,false,(⟨#[]⟩:ByteArray)⟩:aE),false)
 else
 bif (decide ((a1.size:Int)>30)) then
 some ((⟨0,0,0,0,0,0,0,false,(⟨#[]⟩:ByteArray)⟩:aE),false)
 else
 bif (decide ((a0.size:Int)<(IntKind.wrap .i64 (a2+11)))) then
 some ((⟨0,0,0,0,0,0,0,false,(⟨#[]⟩:ByteArray)⟩:aE),false)
 else
 (wnd a0.size a2 (a0.size:Int)).bind fun p1=>
 (AQ (a0.extract p1.1 p1.2) 0).bind fun c2=>
 (AQ (a0.extract p1.1 p1.2) 1).bind fun c3=>
 (wnd (a0.extract p1.1 p1.2).size 2 4).bind fun p4=>
 (xM k ((a0.extract p1.1 p1.2).extract p4.1 p4.2)).bind fun r5=>
 (wnd (a0.extract p1.1 p1.2).size 4 6).bind fun p6=>
 (xM k ((a0.extract p1.1 p1.2).extract p6.1 p6.2)).bind fun r7=>
 bif ((IntKind.wrap .i64 (c2.toNat:Int))==1) then
 (wnd (a0.extract p1.1 p1.2).size 6 10).bind fun p8=>
 (xM k ((a0.extract p1.1 p1.2).extract p8.1 p8.2)).bind fun r9=>
 (AQ (a0.extract p1.1 p1.2) 10).bind fun c10=>
 cY k a0 a1 a2 0 0 0 0 0 0 0 false (⟨#[]⟩:ByteArray) (IntKind.wrap .i64 (c2.toNat:Int)) (IntKind.wrap .i64 (c3.toNat:Int)) r5 r7 r9 (IntKind.wrap .i64 (c10.toNat:Int)) 0 false (⟨#[]⟩:ByteArray)
 else
 bif ((IntKind.wrap .i64 (c2.toNat:Int))==2) then
 (wnd (a0.extract p1.1 p1.2).size 6 10).bind fun p11=>
 (xM k ((a0.extract p1.1 p1.2).extract p11.1 p11.2)).bind fun r12=>
 (AQ (a0.extract p1.1 p1.2) 10).bind fun c13=>
 (wnd (a0.extract p1.1 p1.2).size 11 ((a0.extract p1.1 p1.2).size:Int)).bind fun p14=>
 cY k a0 a1 a2 0 0 0 0 0 0 0 false (⟨#[]⟩:ByteArray) (IntKind.wrap .i64 (c2.toNat:Int)) (IntKind.wrap .i64 (c3.toNat:Int)) r5 r7 0 0 r12 ((c13.toNat:Int)==1) ((a0.extract p1.1 p1.2).extract p14.1 p14.2)
 else
 cY k a0 a1 a2 0 0 0 0 0 0 0 false (⟨#[]⟩:ByteArray) (IntKind.wrap .i64 (c2.toNat:Int)) (IntKind.wrap .i64 (c3.toNat:Int)) r5 r7 0 0 0 false (⟨#[]⟩:ByteArray)
mutual
def fN:Nat→Int→Int→Int→Int→Int→List aI→List aI→Option (aK)
 | 0,_,_,_,_,_,_,_=>none
 | k+1,A,B,C,D,E,F,G=>
 bif (decide (C<(G.length:Int))) then
 (idx G C).bind fun _=>
 (G[(Int.toNat C)]?).bind fun y3=>
 bif (decide (y3.Since≥0)) then
 fN k A B (IntKind.wrap .i64 (C+1)) D E F G
 else
 bif (decide (A<E)) then
 some (⟨E,G⟩:aK)
 else
 bif (decide (A>(IntKind.wrap .i64 (E+C)))) then
 some (⟨E,G⟩:aK)
 else
 (bP k B 0 255).bind fun r4=>
 bif (!r4) then
 some (⟨E,G⟩:aK)
 else
 (wnd G.length (IntKind.wrap .i64 (A-E)) (G.length:Int)).bind fun p5=>
 (app 40 ([]:List aI) (iF G p5.1 p5.2)).bind fun l6=>
 c7 k B 0 D A F l6
 else
 bif (decide (A<E)) then
 some (⟨E,G⟩:aK)
 else
 bif (decide (A>(IntKind.wrap .i64 (E+C)))) then
 some (⟨E,G⟩:aK)
 else
 (bP k B 0 255).bind fun r7=>
 bif (!r7) then
 some (⟨E,G⟩:aK)
 else
 (wnd G.length (IntKind.wrap .i64 (A-E)) (G.length:Int)).bind fun p8=>
 (app 40 ([]:List aI) (iF G p8.1 p8.2)).bind fun l9=>
 c7 k B 0 D A F l9
def c7:Nat→Int→Int→Int→Int→List aI→List aI→Option (aK)
 | 0,_,_,_,_,_,_=>none
 | k+1,A,B,C,D,E,F=>
 bif (decide (B<8)) then
 bif (decide (B<(F.length:Int))) then
 (shift .shr .i64 A B).bind fun s10=>
 bif ((aj_ .i64 s10 1)==1) then
 (idx F B).bind fun _=>
 (F[(Int.toNat B)]?).bind fun y11=>
 bif (decide (y11.Since≥0)) then
 (idx F B).bind fun _=>
 (F[(Int.toNat B)]?).bind fun y12=>
 eR k A B C D E (F.set (Int.toNat B) (⟨y12.Part,true,y12.Since⟩:aI))
 else
 eR k A B C D E F
 else
 eR k A B C D E F
 else
 some (⟨D,F⟩:aK)
 else
 some (⟨D,F⟩:aK)
def eR:Nat→Int→Int→Int→Int→List aI→List aI→Option (aK)
 | 0,_,_,_,_,_,_=>none
 | k+1,A,B,C,D,E,F=>
 c7 k A (IntKind.wrap .i64 (B+1)) C D E F
end
def pN (k:Nat) (a0:aK) (a1:Int) (a2:Int):Option (aK):=
 (cQ k a0).bind fun r1=>
 bif (!r1) then
 some (⟨0,([]:List aI)⟩:aK)
 else
 (kK k a0).bind fun r2=>
 fN k a1 a2 0 0 r2.Base ([]:List aI) r2.Items
def mG:Nat→Int→ByteArray→Int→ByteArray→List aP→List ByteArray→List aP→List ByteArray→Option (aM)
 | 0,_,_,_,_,_,_,_,_=>none
 | k+1,A,B,C,D,E,F,G,H=>
 bif (decide ((E.length:Int)>0)) then
 (idx E 0).bind fun _=>
 (E[(Int.toNat 0)]?).bind fun y1=>
 bif (y1.Seq==A) then
 (idx E 0).bind fun _=>
 (E[(Int.toNat 0)]?).bind fun y2=>
 (qY k (⟨A,E,B,F⟩:aM) y2.Part).bind fun r3=>
 bif r3 then
 (idx E 0).bind fun _=>
 (E[(Int.toNat 0)]?).bind fun y4=>
 (wnd E.length 1 (E.length:Int)).bind fun p5=>
 (app 32 ([]:List aP) (iF E p5.1 p5.2)).bind fun l6=>
 (iY B y4.Part.Text).bind fun t7=>
 bif y4.Part.Last then
 (app 16 F ([t7]:List ByteArray)).bind fun l8=>
 mG k (IntKind.wrap .i64 (A+1)) (⟨#[]⟩:ByteArray) C D l6 l8 G H
 else
 mG k (IntKind.wrap .i64 (A+1)) t7 C D l6 F G H
 else
 some (⟨A,E,B,F⟩:aM)
 else
 some (⟨A,E,B,F⟩:aM)
 else
 some (⟨A,E,B,F⟩:aM)
def nE (k:Nat) (a0:aM):Option (aM):=
 mG k a0.Next a0.Open 0 (⟨#[]⟩:ByteArray) a0.Held a0.Ready ([]:List aP) ([]:List ByteArray)
def fM:Nat→Int→Int→ByteArray→Bool→Int→ByteArray→Int→ByteArray→List aP→List ByteArray→List aP→List ByteArray→Option (aM)
 | 0,_,_,_,_,_,_,_,_,_,_,_,_=>none
 | k+1,A,B,C,D,E,F,G,H,I,J,K,L=>
 bif (decide (B<(K.length:Int))) then
 (idx K B).bind fun _=>
 (K[(Int.toNat B)]?).bind fun y4=>
 bif (decide (y4.Seq<A)) then
 fM k A (IntKind.wrap .i64 (B+1)) C D E F G H I J K L
 else
 bif (decide (B<(K.length:Int))) then
 (idx K B).bind fun _=>
 (K[(Int.toNat B)]?).bind fun y5=>
 bif (y5.Seq==A) then
 some (⟨G,K,H,L⟩:aM)
 else
 (app 32 K ([(⟨0,(⟨(⟨#[]⟩:ByteArray),false⟩:bV)⟩:aP)]:List aP)).bind fun l6=>
 (wnd l6.length (IntKind.wrap .i64 (B+1)) (l6.length:Int)).bind fun p7=>
 (wnd l6.length B (l6.length:Int)).bind fun p8=>
 (idx (cpy l6 p7.1 p7.2 (iF l6 p8.1 p8.2)) B).bind fun _=>
 ((cpy l6 p7.1 p7.2 (iF l6 p8.1 p8.2))[(Int.toNat B)]?).bind fun y9=>
 (nE k (⟨G,((cpy l6 p7.1 p7.2 (iF l6 p8.1 p8.2)).set (Int.toNat B) (⟨A,(⟨C,D⟩:bV)⟩:aP)),H,L⟩:aM)).bind fun r10=>
 some r10
 else
 (app 32 K ([(⟨0,(⟨(⟨#[]⟩:ByteArray),false⟩:bV)⟩:aP)]:List aP)).bind fun l11=>
 (wnd l11.length (IntKind.wrap .i64 (B+1)) (l11.length:Int)).bind fun p12=>
 (wnd l11.length B (l11.length:Int)).bind fun p13=>
 (idx (cpy l11 p12.1 p12.2 (iF l11 p13.1 p13.2)) B).bind fun _=>
 ((cpy l11 p12.1 p12.2 (iF l11 p13.1 p13.2))[(Int.toNat B)]?).bind fun y14=>
 (nE k (⟨G,((cpy l11 p12.1 p12.2 (iF l11 p13.1 p13.2)).set (Int.toNat B) (⟨A,(⟨C,D⟩:bV)⟩:aP)),H,L⟩:aM)).bind fun r15=>
 some r15
 else
 bif (decide (B<(K.length:Int))) then
 (idx K B).bind fun _=>
 (K[(Int.toNat B)]?).bind fun y16=>
 bif (y16.Seq==A) then
 some (⟨G,K,H,L⟩:aM)
 else
 (app 32 K ([(⟨0,(⟨(⟨#[]⟩:ByteArray),false⟩:bV)⟩:aP)]:List aP)).bind fun l17=>
 (wnd l17.length (IntKind.wrap .i64 (B+1)) (l17.length:Int)).bind fun p18=>
 (wnd l17.length B (l17.length:Int)).bind fun p19=>
 (idx (cpy l17 p18.1 p18.2 (iF l17 p19.1 p19.2)) B).bind fun _=>
 ((cpy l17 p18.1 p18.2 (iF l17 p19.1 p19.2))[(Int.toNat B)]?).bind fun y20=>
 (nE k (⟨G,((cpy l17 p18.1 p18.2 (iF l17 p19.1 p19.2)).set (Int.toNat B) (⟨A,(⟨C,D⟩:bV)⟩:aP)),H,L⟩:aM)).bind fun r21=>
 some r21
 else
 (app 32 K ([(⟨0,(⟨(⟨#[]⟩:ByteArray),false⟩:bV)⟩:aP)]:List aP)).bind fun l22=>
 (wnd l22.length (IntKind.wrap .i64 (B+1)) (l22.length:Int)).bind fun p23=>
 (wnd l22.length B (l22.length:Int)).bind fun p24=>
 (idx (cpy l22 p23.1 p23.2 (iF l22 p24.1 p24.2)) B).bind fun _=>
 ((cpy l22 p23.1 p23.2 (iF l22 p24.1 p24.2))[(Int.toNat B)]?).bind fun y25=>
 (nE k (⟨G,((cpy l22 p23.1 p23.2 (iF l22 p24.1 p24.2)).set (Int.toNat B) (⟨A,(⟨C,D⟩:bV)⟩:aP)),H,L⟩:aM)).bind fun r26=>
 some r26
def pP (k:Nat) (a0:aM) (a1:Int) (a2:bV):Option (aM):=
 (dS k a0).bind fun r1=>
 bif (!r1) then
 some (⟨0,([]:List aP),(⟨#[]⟩:ByteArray),([]:List ByteArray)⟩:aM)
 else
 (nD k a0).bind fun r2=>
 (bP k a1 a0.Next (IntKind.wrap .i64 ((IntKind.wrap .i64 (a0.Next+8))-1))).bind fun r3=>
 bif (!r3) then
 some r2
 else
 bif (decide (a1>999999)) then
 some r2
 else
 bif (decide ((a2.Text.size:Int)>20)) then
 some r2
 else
 fM k a1 0 a2.Text a2.Last 0 (⟨#[]⟩:ByteArray) r2.Next r2.Open ([]:List aP) ([]:List ByteArray) r2.Held r2.Ready
def qX:Nat→ByteArray→List bV→Option (List bV)
 | 0,_,_=>none
 | k+1,A,B=>
 bif (decide ((A.size:Int)>20)) then
 (wnd A.size 0 20).bind fun p1=>
 (app 24 B ([(⟨(A.extract p1.1 p1.2),false⟩:bV)]:List bV)).bind fun l2=>
 (wnd A.size 20 (A.size:Int)).bind fun p3=>
 qX k (A.extract p3.1 p3.2) l2
 else
 (app 24 B ([(⟨A,true⟩:bV)]:List bV)).bind fun l4=>
 some l4
def BF (k:Nat) (a0:ByteArray):Option (List bV):=
 bif (decide ((a0.size:Int)>200)) then
 some ([]:List bV)
 else
 qX k a0 ([]:List bV)
def fH:Nat→Int→Int→Int→Int→List bV→List aI→List aI→Option (aK×Int)
 | 0,_,_,_,_,_,_,_=>none
 | k+1,A,B,C,D,E,F,G=>
 bif (decide (B<A)) then
 (idx E B).bind fun _=>
 (E[(Int.toNat B)]?).bind fun y4=>
 (app 40 G ([(⟨y4,false,(-1)⟩:aI)]:List aI)).bind fun l5=>
 fH k A (IntKind.wrap .i64 (B+1)) C D E F l5
 else
 some ((⟨D,G⟩:aK),0)
def pJ (k:Nat) (a0:aK) (a1:ByteArray):Option (aK×Int):=
 (cQ k a0).bind fun r1=>
 bif (!r1) then
 some ((⟨0,([]:List aI)⟩:aK),1)
 else
 bif (decide ((a1.size:Int)>200)) then
 some ((⟨0,([]:List aI)⟩:aK),1)
 else
 (BF k a1).bind fun r2=>
 bif (decide ((IntKind.wrap .i64 ((a0.Items.length:Int)+(r2.length:Int)))>60)) then
 some ((⟨0,([]:List aI)⟩:aK),3)
 else
 bif (decide ((IntKind.wrap .i64 (a0.Base+(IntKind.wrap .i64 ((a0.Items.length:Int)+(r2.length:Int)))))>1000000)) then
 some ((⟨0,([]:List aI)⟩:aK),3)
 else
 (kK k a0).bind fun r3=>
 fH k (r2.length:Int) 0 0 r3.Base r2 ([]:List aI) r3.Items
def pL (k:Nat) (a0:aM):Option (aM×ByteArray×Bool):=
 (dS k a0).bind fun r1=>
 bif (!r1) then
 some ((⟨0,([]:List aP),(⟨#[]⟩:ByteArray),([]:List ByteArray)⟩:aM),(⟨#[]⟩:ByteArray),false)
 else
 (nD k a0).bind fun r2=>
 bif ((r2.Ready.length:Int)==0) then
 some (r2,(⟨#[]⟩:ByteArray),false)
 else
 (idx r2.Ready 0).bind fun _=>
 (r2.Ready[(Int.toNat 0)]?).bind fun y3=>
 (wnd r2.Ready.length 1 (r2.Ready.length:Int)).bind fun p4=>
 (app 16 ([]:List ByteArray) (iF r2.Ready p4.1 p4.2)).bind fun l5=>
 (nE k (⟨r2.Next,r2.Held,r2.Open,l5⟩:aM)).bind fun r6=>
 some (r6,y3,true)
def bN:Nat→Int→Int→List aI→Option (Bool)
 | 0,_,_,_=>none
 | k+1,A,B,C=>
 bif (decide (A<(C.length:Int))) then
 (idx C A).bind fun y2=>
 bif (decide ((y2.Part.Text.size:Int)>20)) then
 some false
 else
 (aZ k y2.Since (-1) 3).bind fun r3=>
 bif (!r3) then
 some false
 else
 bif (decide (A≥8)) then
 bif (y2.Since !=(-1)) then
 some false
 else
 bif y2.Has then
 bif (decide (y2.Since<0)) then
 some false
 else
 bN k (IntKind.wrap .i64 (A+1)) B C
 else
 bN k (IntKind.wrap .i64 (A+1)) B C
 else
 bif y2.Has then
 bif (decide (y2.Since<0)) then
 some false
 else
 bN k (IntKind.wrap .i64 (A+1)) B C
 else
 bN k (IntKind.wrap .i64 (A+1)) B C
 else
 some true
def dC (k:Nat) (a0:aK):Option (Bool):=
 bif (decide ((a0.Items.length:Int)>60)) then
 some false
 else
 (aZ k a0.Base 0 1000000).bind fun r1=>
 bif (!r1) then
 some false
 else
 bif (decide ((IntKind.wrap .i64 (a0.Base+(a0.Items.length:Int)))>1000000)) then
 some false
 else
 bN k 0 a0.Base a0.Items
def rA (k:Nat) (a0:aM) (a1:Int):Option (Bool):=
 (aZ k a1 a0.Next (IntKind.wrap .i64 ((IntKind.wrap .i64 (a0.Next+8))-1))).bind fun r1=>
 bif r1 then
 some (decide (a1≤999999))
 else
 some false
def mF (k:Nat) (a0:aM) (a1:bV):Option (Bool):=
 bif (decide ((IntKind.wrap .i64 ((a0.Open.size:Int)+(a1.Text.size:Int)))≤200)) then
 bif (!a1.Last) then
 some true
 else
 some (decide ((a0.Ready.length:Int)<4))
 else
 some false
mutual
def eS:Nat→Int→Int→List aP→ByteArray→List ByteArray→Option (Bool)
 | 0,_,_,_,_,_=>none
 | k+1,A,B,C,D,E=>
 bif (decide (A<(E.length:Int))) then
 (idx E A).bind fun y2=>
 bif (decide ((y2.size:Int)>200)) then
 some false
 else
 eS k (IntKind.wrap .i64 (A+1)) B C D E
 else
 bK k 0 B C D E
def bK:Nat→Int→Int→List aP→ByteArray→List ByteArray→Option (Bool)
 | 0,_,_,_,_,_=>none
 | k+1,A,B,C,D,E=>
 bif (decide (A<(C.length:Int))) then
 (idx C A).bind fun y3=>
 (rA k (⟨B,C,D,E⟩:aM) y3.Seq).bind fun r4=>
 bif (!r4) then
 some false
 else
 bif (decide ((y3.Part.Text.size:Int)>20)) then
 some false
 else
 bif (decide (A>0)) then
 (idx C (IntKind.wrap .i64 (A-1))).bind fun y5=>
 bif (decide (y5.Seq≥y3.Seq)) then
 some false
 else
 bif (y3.Seq==B) then
 (mF k (⟨B,C,D,E⟩:aM) y3.Part).bind fun r6=>
 bif r6 then
 some false
 else
 bK k (IntKind.wrap .i64 (A+1)) B C D E
 else
 bK k (IntKind.wrap .i64 (A+1)) B C D E
 else
 bif (y3.Seq==B) then
 (mF k (⟨B,C,D,E⟩:aM) y3.Part).bind fun r7=>
 bif r7 then
 some false
 else
 bK k (IntKind.wrap .i64 (A+1)) B C D E
 else
 bK k (IntKind.wrap .i64 (A+1)) B C D E
 else
 some true
end
def gH (k:Nat) (a0:aM):Option (Bool):=
 (aZ k a0.Next 0 1000000).bind fun r1=>
 bif (!r1) then
 some false
 else
 bif (decide ((a0.Held.length:Int)>8)) then
 some false
 else
 bif (decide ((a0.Open.size:Int)>200)) then
 some false
 else
 bif (decide ((a0.Ready.length:Int)>4)) then
 some false
 else
 eS k 0 a0.Next a0.Held a0.Open a0.Ready
def jS (k:Nat) (a0:aK):Option (aK):=
 (app 40 ([]:List aI) a0.Items).bind fun l1=>
 some (⟨a0.Base,l1⟩:aK)
def oG (k:Nat) (a0:aM):Option (aM):=
 (app 32 ([]:List aP) a0.Held).bind fun l1=>
 (app 16 ([]:List ByteArray) a0.Ready).bind fun l2=>
 some (⟨a0.Next,l1,a0.Open,l2⟩:aM)
mutual
def fR:Nat→Int→Int→List aI→Int→List Int→Int→List aI→List aI→Option (aK×List Int)
 | 0,_,_,_,_,_,_,_,_=>none
 | k+1,A,B,C,D,E,F,G,H=>
 bif (decide (A<(H.length:Int))) then
 bif (decide (A<8)) then
 (idx H A).bind fun _=>
 (H[(Int.toNat A)]?).bind fun y3=>
 bif y3.Has then
 eK k A B C D E F G H
 else
 bif (y3.Since==(-1)) then
 (app 8 E ([(IntKind.wrap .i64 (B+A))]:List Int)).bind fun l4=>
 (idx H A).bind fun _=>
 (H[(Int.toNat A)]?).bind fun y5=>
 eK k A B C D l4 F G (H.set (Int.toNat A) (⟨y5.Part,y5.Has,0⟩:aI))
 else
 bif (y3.Since==3) then
 (app 8 E ([(IntKind.wrap .i64 (B+A))]:List Int)).bind fun l6=>
 (idx H A).bind fun _=>
 (H[(Int.toNat A)]?).bind fun y7=>
 eK k A B C D l6 F G (H.set (Int.toNat A) (⟨y7.Part,y7.Has,0⟩:aI))
 else
 (idx H A).bind fun _=>
 (H[(Int.toNat A)]?).bind fun y8=>
 eK k A B C D E F G (H.set (Int.toNat A) (⟨y8.Part,y8.Has,(IntKind.wrap .i64 (y3.Since+1))⟩:aI))
 else
 some ((⟨F,H⟩:aK),E)
 else
 some ((⟨F,H⟩:aK),E)
def eK:Nat→Int→Int→List aI→Int→List Int→Int→List aI→List aI→Option (aK×List Int)
 | 0,_,_,_,_,_,_,_,_=>none
 | k+1,A,B,C,D,E,F,G,H=>
 fR k (IntKind.wrap .i64 (A+1)) B C D E F G H
end
def nL (k:Nat) (a0:aK):Option (aK×List Int):=
 (dC k a0).bind fun r1=>
 bif (!r1) then
 some ((⟨0,([]:List aI)⟩:aK),([]:List Int))
 else
 (jS k a0).bind fun r2=>
 fR k 0 a0.Base a0.Items 0 ([]:List Int) r2.Base ([]:List aI) r2.Items
mutual
def eF:Nat→Int→Int→Int→List aP→ByteArray→List ByteArray→Option (Int×Int)
 | 0,_,_,_,_,_,_=>none
 | k+1,A,B,C,D,E,F=>
 bif (decide (B<(D.length:Int))) then
 fL k A B 1 C C D E F
 else
 some (C,A)
def fL:Nat→Int→Int→Int→Int→Int→List aP→ByteArray→List ByteArray→Option (Int×Int)
 | 0,_,_,_,_,_,_,_,_=>none
 | k+1,A,B,C,D,E,F,G,H=>
 (idx F B).bind fun y2=>
 bif (decide (D<y2.Seq)) then
 fL k A B (IntKind.wrap .i64 (C*2)) (IntKind.wrap .i64 (D+1)) E F G H
 else
 eF k (IntKind.wrap .i64 (A+C)) (IntKind.wrap .i64 (B+1)) E F G H
end
def kP (k:Nat) (a0:aM):Option (Int×Int):=
 (gH k a0).bind fun r1=>
 bif (!r1) then
 some (0,0)
 else
 eF k 0 0 a0.Next a0.Held a0.Open a0.Ready
def gT:Nat→Int→Int→List aI→Option (Int)
 | 0,_,_,_=>none
 | k+1,A,B,C=>
 bif (decide (A<(C.length:Int))) then
 (idx C A).bind fun y1=>
 bif (decide (y1.Since≥0)) then
 gT k (IntKind.wrap .i64 (A+1)) B C
 else
 some A
 else
 some A
def EL (k:Nat) (a0:aK):Option (Int):=
 gT k 0 a0.Base a0.Items
mutual
def cT:Nat→Int→Int→Int→Int→List aI→List aI→Option (aK)
 | 0,_,_,_,_,_,_=>none
 | k+1,A,B,C,D,E,F=>
 bif (decide (B<8)) then
 (KP A 2).bind fun q7=>
 bif (q7==1) then
 bif (decide (B<(F.length:Int))) then
 (idx F B).bind fun _=>
 (F[(Int.toNat B)]?).bind fun y8=>
 bif (decide (y8.Since≥0)) then
 (idx F B).bind fun _=>
 (F[(Int.toNat B)]?).bind fun y9=>
 cJ k A B C D E (F.set (Int.toNat B) (⟨y9.Part,true,y9.Since⟩:aI))
 else
 cJ k A B C D E F
 else
 cJ k A B C D E F
 else
 cJ k A B C D E F
 else
 some (⟨D,F⟩:aK)
def cJ:Nat→Int→Int→Int→Int→List aI→List aI→Option (aK)
 | 0,_,_,_,_,_,_=>none
 | k+1,A,B,C,D,E,F=>
 (VX A 2).bind fun q10=>
 cT k (IntKind.wrap .i64 (q10)) (IntKind.wrap .i64 (B+1)) C D E F
end
def m8 (k:Nat) (a0:aK) (a1:Int) (a2:Int):Option (aK):=
 (dC k a0).bind fun r1=>
 bif (!r1) then
 some (⟨0,([]:List aI)⟩:aK)
 else
 (jS k a0).bind fun r2=>
 bif (decide (a1<a0.Base)) then
 some r2
 else
 (EL k a0).bind fun r3=>
 bif (decide (a1>(IntKind.wrap .i64 (a0.Base+r3)))) then
 some r2
 else
 (aZ k a2 0 255).bind fun r4=>
 bif (!r4) then
 some r2
 else
 (wnd r2.Items.length (IntKind.wrap .i64 (a1-a0.Base)) (r2.Items.length:Int)).bind fun p5=>
 (app 40 ([]:List aI) (iF r2.Items p5.1 p5.2)).bind fun l6=>
 cT k a2 0 0 a1 ([]:List aI) l6
def f7:Nat→Int→ByteArray→Int→ByteArray→List aP→List ByteArray→List aP→List ByteArray→Option (aM)
 | 0,_,_,_,_,_,_,_,_=>none
 | k+1,A,B,C,D,E,F,G,H=>
 bif (decide ((E.length:Int)>0)) then
 (idx E 0).bind fun _=>
 (E[(Int.toNat 0)]?).bind fun y1=>
 bif (y1.Seq==A) then
 (idx E 0).bind fun _=>
 (E[(Int.toNat 0)]?).bind fun y2=>
 (mF k (⟨A,E,B,F⟩:aM) y2.Part).bind fun r3=>
 bif r3 then
 (idx E 0).bind fun _=>
 (E[(Int.toNat 0)]?).bind fun y4=>
 (wnd E.length 1 (E.length:Int)).bind fun p5=>
 (app 32 ([]:List aP) (iF E p5.1 p5.2)).bind fun l6=>
 (iY B y4.Part.Text).bind fun t7=>
 bif y4.Part.Last then
 (app 16 F ([t7]:List ByteArray)).bind fun l8=>
 f7 k (IntKind.wrap .i64 (A+1)) (⟨#[]⟩:ByteArray) C D l6 l8 G H
 else
 f7 k (IntKind.wrap .i64 (A+1)) t7 C D l6 F G H
 else
 some (⟨A,E,B,F⟩:aM)
 else
 some (⟨A,E,B,F⟩:aM)
 else
 some (⟨A,E,B,F⟩:aM)
def xA (k:Nat) (a0:aM):Option (aM):=
 f7 k a0.Next a0.Open 0 (⟨#[]⟩:ByteArray) a0.Held a0.Ready ([]:List aP) ([]:List ByteArray)
mutual
def cV:Nat→Int→Bool→Int→Int→List aP→ByteArray→List ByteArray→ByteArray→Bool→Int→ByteArray→Int→ByteArray→List aP→List aP→List ByteArray→List aP→List ByteArray→Option (aM)
 | 0,_,_,_,_,_,_,_,_,_,_,_,_,_,_,_,_,_,_=>none
 | k+1,A,B,C,D,E,F,G,H,I,J,K,L,M,N,O,P,Q,R=>
 bif (decide (C<(E.length:Int))) then
 (idx E C).bind fun y4=>
 bif (y4.Seq==A) then
 some (⟨L,Q,M,R⟩:aM)
 else
 bif (!B) then
 (idx E C).bind fun y5=>
 bif (decide (y5.Seq>A)) then
 (app 32 N ([(⟨A,(⟨H,I⟩:bV)⟩:aP)]:List aP)).bind fun l6=>
 dP k A true C D E F G H I J K L M l6 O P Q R
 else
 dP k A B C D E F G H I J K L M N O P Q R
 else
 dP k A B C D E F G H I J K L M N O P Q R
 else
 bif (!B) then
 (app 32 N ([(⟨A,(⟨H,I⟩:bV)⟩:aP)]:List aP)).bind fun l7=>
 gQ k J K L M l7 O P Q R
 else
 gQ k J K L M N O P Q R
def dP:Nat→Int→Bool→Int→Int→List aP→ByteArray→List ByteArray→ByteArray→Bool→Int→ByteArray→Int→ByteArray→List aP→List aP→List ByteArray→List aP→List ByteArray→Option (aM)
 | 0,_,_,_,_,_,_,_,_,_,_,_,_,_,_,_,_,_,_=>none
 | k+1,A,B,C,D,E,F,G,H,I,J,K,L,M,N,O,P,Q,R=>
 (idx E C).bind fun y8=>
 (app 32 N ([y8]:List aP)).bind fun l9=>
 cV k A B (IntKind.wrap .i64 (C+1)) D E F G H I J K L M l9 O P Q R
def gQ:Nat→Int→ByteArray→Int→ByteArray→List aP→List aP→List ByteArray→List aP→List ByteArray→Option (aM)
 | 0,_,_,_,_,_,_,_,_,_=>none
 | k+1,A,B,C,D,E,F,G,H,I=>
 (xA k (⟨C,E,D,I⟩:aM)).bind fun r10=>
 some r10
end
def pM (k:Nat) (a0:aM) (a1:Int) (a2:bV):Option (aM):=
 (gH k a0).bind fun r1=>
 bif (!r1) then
 some (⟨0,([]:List aP),(⟨#[]⟩:ByteArray),([]:List ByteArray)⟩:aM)
 else
 (oG k a0).bind fun r2=>
 (rA k a0 a1).bind fun r3=>
 bif (!r3) then
 some r2
 else
 bif (decide ((a2.Text.size:Int)>20)) then
 some r2
 else
 cV k a1 false 0 a0.Next a0.Held a0.Open a0.Ready a2.Text a2.Last 0 (⟨#[]⟩:ByteArray) r2.Next r2.Open ([]:List aP) ([]:List aP) ([]:List ByteArray) r2.Held r2.Ready
def l0:Nat→ByteArray→List bV→Option (List bV)
 | 0,_,_=>none
 | k+1,A,B=>
 bif (decide ((A.size:Int)>20)) then
 (wnd A.size 0 20).bind fun p1=>
 (app 24 B ([(⟨(A.extract p1.1 p1.2),false⟩:bV)]:List bV)).bind fun l2=>
 (wnd A.size 20 (A.size:Int)).bind fun p3=>
 l0 k (A.extract p3.1 p3.2) l2
 else
 (app 24 B ([(⟨A,true⟩:bV)]:List bV)).bind fun l4=>
 some l4
def xP (k:Nat) (a0:ByteArray):Option (List bV):=
 bif (decide ((a0.size:Int)>200)) then
 some ([]:List bV)
 else
 l0 k a0 ([]:List bV)
def fT:Nat→Int→Int→List bV→Int→List aI→List aI→Option (aK×Int)
 | 0,_,_,_,_,_,_=>none
 | k+1,A,B,C,D,E,F=>
 bif (decide (A<(C.length:Int))) then
 (idx C A).bind fun _=>
 (C[(Int.toNat A)]?).bind fun y4=>
 (app 40 F ([(⟨y4,false,(-1)⟩:aI)]:List aI)).bind fun l5=>
 fT k (IntKind.wrap .i64 (A+1)) B C D E l5
 else
 some ((⟨D,F⟩:aK),0)
def iH (k:Nat) (a0:aK) (a1:ByteArray):Option (aK×Int):=
 (dC k a0).bind fun r1=>
 bif (!r1) then
 some ((⟨0,([]:List aI)⟩:aK),1)
 else
 bif (decide ((a1.size:Int)>200)) then
 some ((⟨0,([]:List aI)⟩:aK),1)
 else
 (xP k a1).bind fun r2=>
 bif (decide ((IntKind.wrap .i64 ((a0.Items.length:Int)+(r2.length:Int)))>60)) then
 some ((⟨0,([]:List aI)⟩:aK),3)
 else
 bif (decide ((IntKind.wrap .i64 (a0.Base+(IntKind.wrap .i64 ((a0.Items.length:Int)+(r2.length:Int)))))>1000000)) then
 some ((⟨0,([]:List aI)⟩:aK),3)
 else
 (jS k a0).bind fun r3=>
 fT k 0 0 r2 r3.Base ([]:List aI) r3.Items
def pX (k:Nat) (a0:aM):Option (aM×ByteArray×Bool):=
 (gH k a0).bind fun r1=>
 bif (!r1) then
 some ((⟨0,([]:List aP),(⟨#[]⟩:ByteArray),([]:List ByteArray)⟩:aM),(⟨#[]⟩:ByteArray),false)
 else
 (oG k a0).bind fun r2=>
 bif ((r2.Ready.length:Int)==0) then
 some (r2,(⟨#[]⟩:ByteArray),false)
 else
 (idx r2.Ready 0).bind fun _=>
 (r2.Ready[(Int.toNat 0)]?).bind fun y3=>
 (wnd r2.Ready.length 1 (r2.Ready.length:Int)).bind fun p4=>
 (app 16 ([]:List ByteArray) (iF r2.Ready p4.1 p4.2)).bind fun l5=>
 (xA k (⟨r2.Next,r2.Held,r2.Open,l5⟩:aM)).bind fun r6=>
 some (r6,y3,true)
def u9:Nat→Int→ByteArray→Option (ByteArray)
 | 0,_,_=>none
 | k+1,A,B=>
 bif (decide (A>0)) then
 (KP A 10).bind fun q1=>
 (iY (m6 ([(IntKind.wrap .u8 (IntKind.wrap .i64 (48+q1)))]:List Int)) B).bind fun t2=>
 (VX A 10).bind fun q3=>
 u9 k (IntKind.wrap .i64 (q3)) t2
 else
 (iY (⟨#[109]⟩:ByteArray) B).bind fun t4=>
 some t4
def OT (k:Nat) (a0:Int):Option (ByteArray):=
 bif (decide (a0≤0)) then
 some (⟨#[109,48]⟩:ByteArray)
 else
 u9 k a0 (⟨#[]⟩:ByteArray)
def qD (k:Nat) (a0:Int):Option (aN):=
 bif (a0 !=1) then
 bif (a0 !=2) then
 some (⟨0,false,0,0,0,false,(⟨0,([]:List aI)⟩:aK),(⟨0,([]:List aP),(⟨#[]⟩:ByteArray),([]:List ByteArray)⟩:aM)⟩:aN)
 else
 some (⟨a0,true,1,0,0,false,(⟨0,([]:List aI)⟩:aK),(⟨0,([]:List aP),(⟨#[]⟩:ByteArray),([]:List ByteArray)⟩:aM)⟩:aN)
 else
 some (⟨a0,true,1,0,0,false,(⟨0,([]:List aI)⟩:aK),(⟨0,([]:List aP),(⟨#[]⟩:ByteArray),([]:List ByteArray)⟩:aM)⟩:aN)
def qO (k:Nat) (a0:Int):Option (aN):=
 (aZ k a0 1 2).bind fun r1=>
 bif (!r1) then
 some (⟨0,false,0,0,0,false,(⟨0,([]:List aI)⟩:aK),(⟨0,([]:List aP),(⟨#[]⟩:ByteArray),([]:List ByteArray)⟩:aM)⟩:aN)
 else
 some (⟨a0,true,1,0,0,false,(⟨0,([]:List aI)⟩:aK),(⟨0,([]:List aP),(⟨#[]⟩:ByteArray),([]:List ByteArray)⟩:aM)⟩:aN)
def tX (k:Nat) (a0:aK):Option (Bool):=
 bif (a0.Base==0) then
 some ((a0.Items.length:Int)==0)
 else
 some false
def tS (k:Nat) (a0:aM):Option (Bool):=
 bif (a0.Next==0) then
 bif ((a0.Held.length:Int)==0) then
 bif (a0.Open.toList==(⟨#[]⟩:ByteArray).toList) then
 some ((a0.Ready.length:Int)==0)
 else
 some false
 else
 some false
 else
 some false
def dU (k:Nat) (a0:aN):Option (Bool):=
 bif (a0.Number !=1) then
 bif (a0.Number !=2) then
 some false
 else
 (bP k a0.Life 1 1000).bind fun r1=>
 bif (!r1) then
 some false
 else
 (bP k a0.Peer 0 1000).bind fun r2=>
 bif (!r2) then
 some false
 else
 (bP k a0.Since 0 1000000).bind fun r3=>
 bif (!r3) then
 some false
 else
 (cQ k a0.Send).bind fun r4=>
 bif (!r4) then
 some false
 else
 (dS k a0.Take).bind fun r5=>
 bif (!r5) then
 some false
 else
 bif (a0.Peer==0) then
 (tX k a0.Send).bind fun r6=>
 bif r6 then
 (tS k a0.Take).bind fun r7=>
 bif (!r7) then
 some false
 else
 bif a0.Up then
 some true
 else
 bif (a0.Peer==0) then
 bif (a0.Since==0) then
 some (!a0.Owes)
 else
 some false
 else
 some false
 else
 some false
 else
 bif a0.Up then
 some true
 else
 bif (a0.Peer==0) then
 bif (a0.Since==0) then
 some (!a0.Owes)
 else
 some false
 else
 some false
 else
 (bP k a0.Life 1 1000).bind fun r8=>
 bif (!r8) then
 some false
 else
 (bP k a0.Peer 0 1000).bind fun r9=>
 bif (!r9) then
 some false
 else
 (bP k a0.Since 0 1000000).bind fun r10=>
 bif (!r10) then
 some false
 else
 (cQ k a0.Send).bind fun r11=>
 bif (!r11) then
 some false
 else
 (dS k a0.Take).bind fun r12=>
 bif (!r12) then
 some false
 else
 bif (a0.Peer==0) then
 (tX k a0.Send).bind fun r13=>
 bif r13 then
 (tS k a0.Take).bind fun r14=>
 bif (!r14) then
 some false
 else
 bif a0.Up then
 some true
 else
 bif (a0.Peer==0) then
 bif (a0.Since==0) then
 some (!a0.Owes)
 else
 some false
 else
 some false
 else
 some false
 else
 bif a0.Up then
 some true
 else
 bif (a0.Peer==0) then
 bif (a0.Since==0) then
 some (!a0.Owes)
 else
 some false
 else
 some false
def gC (k:Nat) (a0:aN):Option (aN):=
 (kK k a0.Send).bind fun r1=>
 (nD k a0.Take).bind fun r2=>
 some (⟨a0.Number,a0.Up,a0.Life,a0.Peer,a0.Since,a0.Owes,r1,r2⟩:aN)
mutual
def jZ:Nat→Int→Int→Bool→Int→Int→Int→Bool→Int→Int→ByteArray→ByteArray→Int→Int→Bool→Int→Int→Int→Bool→Int→Int→ByteArray→ByteArray→List aI→List aP→List ByteArray→List aE→List aI→List aP→List ByteArray→List aE→Option (aV)
 | 0,_,_,_,_,_,_,_,_,_,_,_,_,_,_,_,_,_,_,_,_,_,_,_,_,_,_,_,_,_,_=>none
 | k+1,A,B,C,D,E,F,G,H,I,J,K,L,M,N,O,P,Q,R,S,T,U,V,W,X,Y,Z,x26,x27,x28,x29=>
 bif (P !=0) then
 (pW k (⟨S,x26⟩:aK)).bind fun r3=>
 fI k (r3.2.length:Int) 0 A B C D E F G H I J K L M N O P Q R r3.1.Base T U V r3.2 W X Y Z r3.1.Items x27 x28 x29
 else
 iR k A B C D E F G H I J K L M N O P Q R S T U V W X Y Z x26 x27 x28 x29
def fI:Nat→Int→Int→Int→Int→Bool→Int→Int→Int→Bool→Int→Int→ByteArray→ByteArray→Int→Int→Bool→Int→Int→Int→Bool→Int→Int→ByteArray→ByteArray→List Int→List aI→List aP→List ByteArray→List aE→List aI→List aP→List ByteArray→List aE→Option (aV)
 | 0,_,_,_,_,_,_,_,_,_,_,_,_,_,_,_,_,_,_,_,_,_,_,_,_,_,_,_,_,_,_,_,_,_=>none
 | k+1,A,B,C,D,E,F,G,H,I,J,K,L,M,N,O,P,Q,R,S,T,U,V,W,X,Y,Z,x26,x27,x28,x29,x30,x31,x32=>
 bif (decide (B<A)) then
 (idx Y B).bind fun _=>
 (Y[(Int.toNat B)]?).bind fun y4=>
 (idx x29 (IntKind.wrap .i64 (y4-U))).bind fun _=>
 (x29[(Int.toNat (IntKind.wrap .i64 (y4-U)))]?).bind fun y5=>
 (app 80 x32 ([(⟨2,O,Q,R,0,0,y4,y5.Part.Last,y5.Part.Text⟩:aE)]:List aE)).bind fun l6=>
 fI k A (IntKind.wrap .i64 (B+1)) C D E F G H I J K L M N O P Q R S T U V W X Y Z x26 x27 x28 x29 x30 x31 l6
 else
 iR k C D E F G H I J K L M N O P Q R S T U V W X Z x26 x27 x28 x29 x30 x31 x32
def iR:Nat→Int→Int→Bool→Int→Int→Int→Bool→Int→Int→ByteArray→ByteArray→Int→Int→Bool→Int→Int→Int→Bool→Int→Int→ByteArray→ByteArray→List aI→List aP→List ByteArray→List aE→List aI→List aP→List ByteArray→List aE→Option (aV)
 | 0,_,_,_,_,_,_,_,_,_,_,_,_,_,_,_,_,_,_,_,_,_,_,_,_,_,_,_,_,_,_=>none
 | k+1,A,B,C,D,E,F,G,H,I,J,K,L,M,N,O,P,Q,R,S,T,U,V,W,X,Y,Z,x26,x27,x28,x29=>
 bif R then
 (kF k (⟨T,x27,U,x28⟩:aM)).bind fun r7=>
 (app 80 x29 ([(⟨1,M,O,P,r7.1,r7.2,0,false,(⟨#[]⟩:ByteArray)⟩:aE)]:List aE)).bind fun l8=>
 eM k A B C D E F G H I J K L M N O P 0 false S T U V W X Y Z x26 x27 x28 l8
 else
 bif (decide (Q≥6)) then
 (kF k (⟨T,x27,U,x28⟩:aM)).bind fun r9=>
 (app 80 x29 ([(⟨1,M,O,P,r9.1,r9.2,0,false,(⟨#[]⟩:ByteArray)⟩:aE)]:List aE)).bind fun l10=>
 eM k A B C D E F G H I J K L M N O P 0 false S T U V W X Y Z x26 x27 x28 l10
 else
 eM k A B C D E F G H I J K L M N O P Q R S T U V W X Y Z x26 x27 x28 x29
def eM:Nat→Int→Int→Bool→Int→Int→Int→Bool→Int→Int→ByteArray→ByteArray→Int→Int→Bool→Int→Int→Int→Bool→Int→Int→ByteArray→ByteArray→List aI→List aP→List ByteArray→List aE→List aI→List aP→List ByteArray→List aE→Option (aV)
 | 0,_,_,_,_,_,_,_,_,_,_,_,_,_,_,_,_,_,_,_,_,_,_,_,_,_,_,_,_,_,_=>none
 | k+1,A,B,C,D,E,F,G,H,I,J,K,L,M,N,O,P,Q,R,S,T,U,V,W,X,Y,Z,x26,x27,x28,x29=>
 some (⟨L,(⟨M,N,O,P,Q,R,(⟨S,x26⟩:aK),(⟨T,x27,U,x28⟩:aM)⟩:aN),x29,V⟩:aV)
end
def rS (k:Nat) (a0:aN):Option (aV):=
 (dU k a0).bind fun r1=>
 bif (!r1) then
 some (⟨1,(⟨0,false,0,0,0,false,(⟨0,([]:List aI)⟩:aK),(⟨0,([]:List aP),(⟨#[]⟩:ByteArray),([]:List ByteArray)⟩:aM)⟩:aN),([]:List aE),(⟨#[]⟩:ByteArray)⟩:aV)
 else
 (gC k a0).bind fun r2=>
 bif (!r2.Up) then
 some (⟨0,r2,([]:List aE),(⟨#[]⟩:ByteArray)⟩:aV)
 else
 bif (decide (r2.Since<1000000)) then
 jZ k 0 0 false 0 0 0 false 0 0 (⟨#[]⟩:ByteArray) (⟨#[]⟩:ByteArray) 0 r2.Number r2.Up r2.Life r2.Peer (IntKind.wrap .i64 (r2.Since+1)) r2.Owes r2.Send.Base r2.Take.Next r2.Take.Open (⟨#[]⟩:ByteArray) ([]:List aI) ([]:List aP) ([]:List ByteArray) ([]:List aE) r2.Send.Items r2.Take.Held r2.Take.Ready ([]:List aE)
 else
 jZ k 0 0 false 0 0 0 false 0 0 (⟨#[]⟩:ByteArray) (⟨#[]⟩:ByteArray) 0 r2.Number r2.Up r2.Life r2.Peer r2.Since r2.Owes r2.Send.Base r2.Take.Next r2.Take.Open (⟨#[]⟩:ByteArray) ([]:List aI) ([]:List aP) ([]:List ByteArray) ([]:List aE) r2.Send.Items r2.Take.Held r2.Take.Ready ([]:List aE)
mutual
def jR:Nat→Int→Int→Int→Int→Int→Int→Int→Bool→ByteArray→Int→Int→Bool→Int→Int→Int→Bool→Int→Int→ByteArray→ByteArray→Int→Int→Bool→Int→Int→Int→Bool→Int→Int→ByteArray→ByteArray→List aI→List aP→List ByteArray→List aE→List aI→List aP→List ByteArray→List aE→Option (aV)
 | 0,_,_,_,_,_,_,_,_,_,_,_,_,_,_,_,_,_,_,_,_,_,_,_,_,_,_,_,_,_,_,_,_,_,_,_,_,_,_,_=>none
 | k+1,A,B,C,D,E,F,G,H,I,J,K,L,M,N,O,P,Q,R,S,T,U,V,W,X,Y,Z,x26,x27,x28,x29,x30,x31,x32,x33,x34,x35,x36,x37,x38=>
 bif (D !=X) then
 some (⟨U,(⟨V,W,X,Y,Z,true,(⟨x27,x35⟩:aK),(⟨x28,x36,x29,x37⟩:aM)⟩:aN),x38,x30⟩:aV)
 else
 bif (A==1) then
 (pN k (⟨x27,x35⟩:aK) E F).bind fun r4=>
 iM k J K L M N O P Q R S T U V W X Y Z x26 r4.Base x28 x29 x30 x31 x32 x33 x34 r4.Items x36 x37 x38
 else
 (pP k (⟨x28,x36,x29,x37⟩:aM) G (⟨I,H⟩:bV)).bind fun r5=>
 iM k J K L M N O P Q R S T U V W X Y Z true x27 r5.Next r5.Open x30 x31 x32 x33 x34 x35 r5.Held r5.Ready x38
def iM:Nat→Int→Int→Bool→Int→Int→Int→Bool→Int→Int→ByteArray→ByteArray→Int→Int→Bool→Int→Int→Int→Bool→Int→Int→ByteArray→ByteArray→List aI→List aP→List ByteArray→List aE→List aI→List aP→List ByteArray→List aE→Option (aV)
 | 0,_,_,_,_,_,_,_,_,_,_,_,_,_,_,_,_,_,_,_,_,_,_,_,_,_,_,_,_,_,_=>none
 | k+1,A,B,C,D,E,F,G,H,I,J,K,L,M,N,O,P,Q,R,S,T,U,V,W,X,Y,Z,x26,x27,x28,x29=>
 some (⟨L,(⟨M,N,O,P,Q,R,(⟨S,x26⟩:aK),(⟨T,x27,U,x28⟩:aM)⟩:aN),x29,V⟩:aV)
end
def rX (k:Nat) (a0:aN) (a1:aE):Option (aV):=
 (dU k a0).bind fun r1=>
 bif (!r1) then
 some (⟨1,(⟨0,false,0,0,0,false,(⟨0,([]:List aI)⟩:aK),(⟨0,([]:List aP),(⟨#[]⟩:ByteArray),([]:List ByteArray)⟩:aM)⟩:aN),([]:List aE),(⟨#[]⟩:ByteArray)⟩:aV)
 else
 (gC k a0).bind fun r2=>
 bif (!r2.Up) then
 some (⟨0,r2,([]:List aE),(⟨#[]⟩:ByteArray)⟩:aV)
 else
 (cG k a1).bind fun r3=>
 bif (!r3) then
 some (⟨0,r2,([]:List aE),(⟨#[]⟩:ByteArray)⟩:aV)
 else
 bif (a1.From==r2.Number) then
 some (⟨0,r2,([]:List aE),(⟨#[]⟩:ByteArray)⟩:aV)
 else
 bif (decide (a1.Mine<r2.Peer)) then
 some (⟨0,r2,([]:List aE),(⟨#[]⟩:ByteArray)⟩:aV)
 else
 bif (decide (a1.Mine>r2.Peer)) then
 jR k a1.Kind a1.From a1.Mine a1.Yours a1.Next a1.Mask a1.Seq a1.Last a1.Part 0 0 false 0 0 0 false 0 0 (⟨#[]⟩:ByteArray) (⟨#[]⟩:ByteArray) 0 r2.Number r2.Up r2.Life a1.Mine r2.Since true 0 0 (⟨#[]⟩:ByteArray) (⟨#[]⟩:ByteArray) ([]:List aI) ([]:List aP) ([]:List ByteArray) ([]:List aE) ([]:List aI) ([]:List aP) ([]:List ByteArray) ([]:List aE)
 else
 jR k a1.Kind a1.From a1.Mine a1.Yours a1.Next a1.Mask a1.Seq a1.Last a1.Part 0 0 false 0 0 0 false 0 0 (⟨#[]⟩:ByteArray) (⟨#[]⟩:ByteArray) 0 r2.Number r2.Up r2.Life r2.Peer r2.Since r2.Owes r2.Send.Base r2.Take.Next r2.Take.Open (⟨#[]⟩:ByteArray) ([]:List aI) ([]:List aP) ([]:List ByteArray) ([]:List aE) r2.Send.Items r2.Take.Held r2.Take.Ready ([]:List aE)
def rY (k:Nat) (a0:aN):Option (aN):=
 (dU k a0).bind fun r1=>
 bif (!r1) then
 some (⟨0,false,0,0,0,false,(⟨0,([]:List aI)⟩:aK),(⟨0,([]:List aP),(⟨#[]⟩:ByteArray),([]:List ByteArray)⟩:aM)⟩:aN)
 else
 some (⟨a0.Number,false,a0.Life,0,0,false,(⟨0,([]:List aI)⟩:aK),(⟨0,([]:List aP),(⟨#[]⟩:ByteArray),([]:List ByteArray)⟩:aM)⟩:aN)
def rN (k:Nat) (a0:aN):Option (aN):=
 (dU k a0).bind fun r1=>
 bif (!r1) then
 some (⟨0,false,0,0,0,false,(⟨0,([]:List aI)⟩:aK),(⟨0,([]:List aP),(⟨#[]⟩:ByteArray),([]:List ByteArray)⟩:aM)⟩:aN)
 else
 bif a0.Up then
 (gC k a0).bind fun r2=>
 some r2
 else
 bif (a0.Life==1000) then
 (gC k a0).bind fun r3=>
 some r3
 else
 some (⟨a0.Number,true,(IntKind.wrap .i64 (a0.Life+1)),0,0,false,(⟨0,([]:List aI)⟩:aK),(⟨0,([]:List aP),(⟨#[]⟩:ByteArray),([]:List ByteArray)⟩:aM)⟩:aN)
def fV (k:Nat) (a0:aN) (a1:ByteArray):Option (aV):=
 (dU k a0).bind fun r1=>
 bif (!r1) then
 some (⟨1,(⟨0,false,0,0,0,false,(⟨0,([]:List aI)⟩:aK),(⟨0,([]:List aP),(⟨#[]⟩:ByteArray),([]:List ByteArray)⟩:aM)⟩:aN),([]:List aE),(⟨#[]⟩:ByteArray)⟩:aV)
 else
 bif (!a0.Up) then
 some (⟨2,(⟨0,false,0,0,0,false,(⟨0,([]:List aI)⟩:aK),(⟨0,([]:List aP),(⟨#[]⟩:ByteArray),([]:List ByteArray)⟩:aM)⟩:aN),([]:List aE),(⟨#[]⟩:ByteArray)⟩:aV)
 else
 bif (a0.Peer==0) then
 some (⟨2,(⟨0,false,0,0,0,false,(⟨0,([]:List aI)⟩:aK),(⟨0,([]:List aP),(⟨#[]⟩:ByteArray),([]:List ByteArray)⟩:aM)⟩:aN),([]:List aE),(⟨#[]⟩:ByteArray)⟩:aV)
 else
 (pJ k a0.Send a1).bind fun r2=>
 bif (r2.2 !=0) then
 some (⟨r2.2,(⟨0,false,0,0,0,false,(⟨0,([]:List aI)⟩:aK),(⟨0,([]:List aP),(⟨#[]⟩:ByteArray),([]:List ByteArray)⟩:aM)⟩:aN),([]:List aE),(⟨#[]⟩:ByteArray)⟩:aV)
 else
 (gC k a0).bind fun r3=>
 some (⟨0,(⟨r3.Number,r3.Up,r3.Life,r3.Peer,r3.Since,r3.Owes,r2.1,r3.Take⟩:aN),([]:List aE),(⟨#[]⟩:ByteArray)⟩:aV)
def mE (k:Nat) (a0:aN):Option (aV):=
 (dU k a0).bind fun r1=>
 bif (!r1) then
 some (⟨1,(⟨0,false,0,0,0,false,(⟨0,([]:List aI)⟩:aK),(⟨0,([]:List aP),(⟨#[]⟩:ByteArray),([]:List ByteArray)⟩:aM)⟩:aN),([]:List aE),(⟨#[]⟩:ByteArray)⟩:aV)
 else
 bif (!a0.Up) then
 some (⟨2,(⟨0,false,0,0,0,false,(⟨0,([]:List aI)⟩:aK),(⟨0,([]:List aP),(⟨#[]⟩:ByteArray),([]:List ByteArray)⟩:aM)⟩:aN),([]:List aE),(⟨#[]⟩:ByteArray)⟩:aV)
 else
 (pL k a0.Take).bind fun r2=>
 bif (!r2.2.2) then
 some (⟨4,(⟨0,false,0,0,0,false,(⟨0,([]:List aI)⟩:aK),(⟨0,([]:List aP),(⟨#[]⟩:ByteArray),([]:List ByteArray)⟩:aM)⟩:aN),([]:List aE),(⟨#[]⟩:ByteArray)⟩:aV)
 else
 (gC k a0).bind fun r3=>
 some (⟨0,(⟨r3.Number,r3.Up,r3.Life,r3.Peer,r3.Since,true,r3.Send,r2.1⟩:aN),([]:List aE),r2.2.1⟩:aV)
def pK (k:Nat) (a0:aK):Option (Bool):=
 bif (a0.Base==0) then
 some ((a0.Items.length:Int)==0)
 else
 some false
def pH (k:Nat) (a0:aM):Option (Bool):=
 bif (a0.Next==0) then
 bif ((a0.Held.length:Int)==0) then
 bif (a0.Open.toList==(⟨#[]⟩:ByteArray).toList) then
 some ((a0.Ready.length:Int)==0)
 else
 some false
 else
 some false
 else
 some false
def dV (k:Nat) (a0:aN):Option (Bool):=
 (aZ k a0.Number 1 2).bind fun r1=>
 bif (!r1) then
 some false
 else
 (aZ k a0.Life 1 1000).bind fun r2=>
 bif (!r2) then
 some false
 else
 (aZ k a0.Peer 0 1000).bind fun r3=>
 bif (!r3) then
 some false
 else
 (aZ k a0.Since 0 1000000).bind fun r4=>
 bif (!r4) then
 some false
 else
 (dC k a0.Send).bind fun r5=>
 bif (!r5) then
 some false
 else
 (gH k a0.Take).bind fun r6=>
 bif (!r6) then
 some false
 else
 bif (a0.Peer==0) then
 (pK k a0.Send).bind fun r7=>
 bif (!r7) then
 some false
 else
 (pH k a0.Take).bind fun r8=>
 bif (!r8) then
 some false
 else
 bif a0.Up then
 some true
 else
 bif (a0.Peer==0) then
 bif (a0.Since==0) then
 some (!a0.Owes)
 else
 some false
 else
 some false
 else
 bif a0.Up then
 some true
 else
 bif (a0.Peer==0) then
 bif (a0.Since==0) then
 some (!a0.Owes)
 else
 some false
 else
 some false
def gG (k:Nat) (a0:aN):Option (aN):=
 (jS k a0.Send).bind fun r1=>
 (oG k a0.Take).bind fun r2=>
 some (⟨a0.Number,a0.Up,a0.Life,a0.Peer,a0.Since,a0.Owes,r1,r2⟩:aN)
mutual
def jW:Nat→Int→Int→Bool→Int→Int→Int→Bool→Int→Int→ByteArray→ByteArray→Int→Bool→Int→Int→Int→Bool→Int→Int→ByteArray→List aE→List aI→List aP→List ByteArray→List aE→List aI→List aP→List ByteArray→Option (aV)
 | 0,_,_,_,_,_,_,_,_,_,_,_,_,_,_,_,_,_,_,_,_,_,_,_,_,_,_,_,_=>none
 | k+1,A,B,C,D,E,F,G,H,I,J,K,L,M,N,O,P,Q,R,S,T,U,V,W,X,Y,Z,x26,x27=>
 bif (O !=0) then
 (nL k (⟨R,Z⟩:aK)).bind fun r3=>
 fP k 0 A B C D E F G H I J K L M N O P Q r3.1.Base S T U r3.1.Base r3.2 V W X Y r3.1.Items x26 x27
 else
 iV k A B C D E F G H I J K L M N O P Q R S T U V W X Y Z x26 x27
def fP:Nat→Int→Int→Int→Bool→Int→Int→Int→Bool→Int→Int→ByteArray→ByteArray→Int→Bool→Int→Int→Int→Bool→Int→Int→ByteArray→List aE→Int→List Int→List aI→List aP→List ByteArray→List aE→List aI→List aP→List ByteArray→Option (aV)
 | 0,_,_,_,_,_,_,_,_,_,_,_,_,_,_,_,_,_,_,_,_,_,_,_,_,_,_,_,_,_,_,_=>none
 | k+1,A,B,C,D,E,F,G,H,I,J,K,L,M,N,O,P,Q,R,S,T,U,V,W,X,Y,Z,x26,x27,x28,x29,x30=>
 bif (decide (A<(X.length:Int))) then
 (idx X A).bind fun _=>
 (X[(Int.toNat A)]?).bind fun y4=>
 (idx x28 (IntKind.wrap .i64 (y4-W))).bind fun _=>
 (x28[(Int.toNat (IntKind.wrap .i64 (y4-W)))]?).bind fun y5=>
 (idx X A).bind fun _=>
 (X[(Int.toNat A)]?).bind fun y6=>
 (app 80 V ([(⟨2,M,O,P,0,0,y6,y5.Part.Last,y5.Part.Text⟩:aE)]:List aE)).bind fun l7=>
 fP k (IntKind.wrap .i64 (A+1)) B C D E F G H I J K L M N O P Q R S T U l7 W X Y Z x26 x27 x28 x29 x30
 else
 iV k B C D E F G H I J K L M N O P Q R S T U V Y Z x26 x27 x28 x29 x30
def iV:Nat→Int→Int→Bool→Int→Int→Int→Bool→Int→Int→ByteArray→ByteArray→Int→Bool→Int→Int→Int→Bool→Int→Int→ByteArray→List aE→List aI→List aP→List ByteArray→List aE→List aI→List aP→List ByteArray→Option (aV)
 | 0,_,_,_,_,_,_,_,_,_,_,_,_,_,_,_,_,_,_,_,_,_,_,_,_,_,_,_,_=>none
 | k+1,A,B,C,D,E,F,G,H,I,J,K,L,M,N,O,P,Q,R,S,T,U,V,W,X,Y,Z,x26,x27=>
 bif Q then
 (kP k (⟨S,x26,T,x27⟩:aM)).bind fun r8=>
 (app 80 U ([(⟨1,L,N,O,r8.1,r8.2,0,false,(⟨#[]⟩:ByteArray)⟩:aE)]:List aE)).bind fun l9=>
 eC k A B C D E F G H I J K L M N O 0 false R S T l9 V W X Y Z x26 x27
 else
 bif (decide (P≥6)) then
 (kP k (⟨S,x26,T,x27⟩:aM)).bind fun r10=>
 (app 80 U ([(⟨1,L,N,O,r10.1,r10.2,0,false,(⟨#[]⟩:ByteArray)⟩:aE)]:List aE)).bind fun l11=>
 eC k A B C D E F G H I J K L M N O 0 false R S T l11 V W X Y Z x26 x27
 else
 eC k A B C D E F G H I J K L M N O P Q R S T U V W X Y Z x26 x27
def eC:Nat→Int→Int→Bool→Int→Int→Int→Bool→Int→Int→ByteArray→ByteArray→Int→Bool→Int→Int→Int→Bool→Int→Int→ByteArray→List aE→List aI→List aP→List ByteArray→List aE→List aI→List aP→List ByteArray→Option (aV)
 | 0,_,_,_,_,_,_,_,_,_,_,_,_,_,_,_,_,_,_,_,_,_,_,_,_,_,_,_,_=>none
 | k+1,A,B,C,D,E,F,G,H,I,J,K,L,M,N,O,P,Q,R,S,T,U,V,W,X,Y,Z,x26,x27=>
 some (⟨0,(⟨L,M,N,O,P,Q,(⟨R,Z⟩:aK),(⟨S,x26,T,x27⟩:aM)⟩:aN),U,(⟨#[]⟩:ByteArray)⟩:aV)
end
def rZ (k:Nat) (a0:aN):Option (aV):=
 (dV k a0).bind fun r1=>
 bif (!r1) then
 some (⟨1,(⟨0,false,0,0,0,false,(⟨0,([]:List aI)⟩:aK),(⟨0,([]:List aP),(⟨#[]⟩:ByteArray),([]:List ByteArray)⟩:aM)⟩:aN),([]:List aE),(⟨#[]⟩:ByteArray)⟩:aV)
 else
 (gG k a0).bind fun r2=>
 bif (!r2.Up) then
 some (⟨0,r2,([]:List aE),(⟨#[]⟩:ByteArray)⟩:aV)
 else
 bif (decide (r2.Since<1000000)) then
 jW k 0 0 false 0 0 0 false 0 0 (⟨#[]⟩:ByteArray) (⟨#[]⟩:ByteArray) r2.Number r2.Up r2.Life r2.Peer (IntKind.wrap .i64 (r2.Since+1)) r2.Owes r2.Send.Base r2.Take.Next r2.Take.Open ([]:List aE) ([]:List aI) ([]:List aP) ([]:List ByteArray) ([]:List aE) r2.Send.Items r2.Take.Held r2.Take.Ready
 else
 jW k 0 0 false 0 0 0 false 0 0 (⟨#[]⟩:ByteArray) (⟨#[]⟩:ByteArray) r2.Number r2.Up r2.Life r2.Peer r2.Since r2.Owes r2.Send.Base r2.Take.Next r2.Take.Open ([]:List aE) ([]:List aI) ([]:List aP) ([]:List ByteArray) ([]:List aE) r2.Send.Items r2.Take.Held r2.Take.Ready
def iQ:Nat→Int→Int→Int→Int→Int→Int→Int→Bool→ByteArray→Int→Int→Bool→Int→Int→Int→Bool→Int→Int→ByteArray→ByteArray→Int→Bool→Int→Int→Int→Bool→Int→Int→ByteArray→List aI→List aP→List ByteArray→List aE→List aI→List aP→List ByteArray→Option (aV)
 | 0,_,_,_,_,_,_,_,_,_,_,_,_,_,_,_,_,_,_,_,_,_,_,_,_,_,_,_,_,_,_,_,_,_,_,_,_=>none
 | k+1,A,B,C,D,E,F,G,H,I,J,K,L,M,N,O,P,Q,R,S,T,U,V,W,X,Y,Z,x26,x27,x28,x29,x30,x31,x32,x33,x34,x35=>
 bif (D !=W) then
 some (⟨0,(⟨U,V,W,X,Y,true,(⟨x26,x33⟩:aK),(⟨x27,x34,x28,x35⟩:aM)⟩:aN),([]:List aE),(⟨#[]⟩:ByteArray)⟩:aV)
 else
 bif (A==1) then
 (m8 k (⟨x26,x33⟩:aK) E F).bind fun r4=>
 some (⟨0,(⟨U,V,W,X,Y,Z,r4,(⟨x27,x34,x28,x35⟩:aM)⟩:aN),([]:List aE),(⟨#[]⟩:ByteArray)⟩:aV)
 else
 (pM k (⟨x27,x34,x28,x35⟩:aM) G (⟨I,H⟩:bV)).bind fun r5=>
 some (⟨0,(⟨U,V,W,X,Y,true,(⟨x26,x33⟩:aK),r5⟩:aN),([]:List aE),(⟨#[]⟩:ByteArray)⟩:aV)
def sD (k:Nat) (a0:aN) (a1:aE):Option (aV):=
 (dV k a0).bind fun r1=>
 bif (!r1) then
 some (⟨1,(⟨0,false,0,0,0,false,(⟨0,([]:List aI)⟩:aK),(⟨0,([]:List aP),(⟨#[]⟩:ByteArray),([]:List ByteArray)⟩:aM)⟩:aN),([]:List aE),(⟨#[]⟩:ByteArray)⟩:aV)
 else
 (gG k a0).bind fun r2=>
 bif (!r2.Up) then
 some (⟨0,r2,([]:List aE),(⟨#[]⟩:ByteArray)⟩:aV)
 else
 (oV k a1).bind fun r3=>
 bif (!r3) then
 some (⟨0,r2,([]:List aE),(⟨#[]⟩:ByteArray)⟩:aV)
 else
 bif (a1.From==r2.Number) then
 some (⟨0,r2,([]:List aE),(⟨#[]⟩:ByteArray)⟩:aV)
 else
 bif (decide (a1.Mine<r2.Peer)) then
 some (⟨0,r2,([]:List aE),(⟨#[]⟩:ByteArray)⟩:aV)
 else
 bif (decide (a1.Mine>r2.Peer)) then
 iQ k a1.Kind a1.From a1.Mine a1.Yours a1.Next a1.Mask a1.Seq a1.Last a1.Part 0 0 false 0 0 0 false 0 0 (⟨#[]⟩:ByteArray) (⟨#[]⟩:ByteArray) r2.Number r2.Up r2.Life a1.Mine r2.Since true 0 0 (⟨#[]⟩:ByteArray) ([]:List aI) ([]:List aP) ([]:List ByteArray) ([]:List aE) ([]:List aI) ([]:List aP) ([]:List ByteArray)
 else
 iQ k a1.Kind a1.From a1.Mine a1.Yours a1.Next a1.Mask a1.Seq a1.Last a1.Part 0 0 false 0 0 0 false 0 0 (⟨#[]⟩:ByteArray) (⟨#[]⟩:ByteArray) r2.Number r2.Up r2.Life r2.Peer r2.Since r2.Owes r2.Send.Base r2.Take.Next r2.Take.Open ([]:List aI) ([]:List aP) ([]:List ByteArray) ([]:List aE) r2.Send.Items r2.Take.Held r2.Take.Ready
def rT (k:Nat) (a0:aN):Option (aN):=
 (dV k a0).bind fun r1=>
 bif (!r1) then
 some (⟨0,false,0,0,0,false,(⟨0,([]:List aI)⟩:aK),(⟨0,([]:List aP),(⟨#[]⟩:ByteArray),([]:List ByteArray)⟩:aM)⟩:aN)
 else
 some (⟨a0.Number,false,a0.Life,0,0,false,(⟨0,([]:List aI)⟩:aK),(⟨0,([]:List aP),(⟨#[]⟩:ByteArray),([]:List ByteArray)⟩:aM)⟩:aN)
def rV (k:Nat) (a0:aN):Option (aN):=
 (dV k a0).bind fun r1=>
 bif (!r1) then
 some (⟨0,false,0,0,0,false,(⟨0,([]:List aI)⟩:aK),(⟨0,([]:List aP),(⟨#[]⟩:ByteArray),([]:List ByteArray)⟩:aM)⟩:aN)
 else
 bif a0.Up then
 (gG k a0).bind fun r2=>
 some r2
 else
 bif (decide (a0.Life≥1000)) then
 (gG k a0).bind fun r3=>
 some r3
 else
 some (⟨a0.Number,true,(IntKind.wrap .i64 (a0.Life+1)),0,0,false,(⟨0,([]:List aI)⟩:aK),(⟨0,([]:List aP),(⟨#[]⟩:ByteArray),([]:List ByteArray)⟩:aM)⟩:aN)
def j0 (k:Nat) (a0:aN) (a1:ByteArray):Option (aV):=
 (dV k a0).bind fun r1=>
 bif (!r1) then
 some (⟨1,(⟨0,false,0,0,0,false,(⟨0,([]:List aI)⟩:aK),(⟨0,([]:List aP),(⟨#[]⟩:ByteArray),([]:List ByteArray)⟩:aM)⟩:aN),([]:List aE),(⟨#[]⟩:ByteArray)⟩:aV)
 else
 bif (!a0.Up) then
 some (⟨2,(⟨0,false,0,0,0,false,(⟨0,([]:List aI)⟩:aK),(⟨0,([]:List aP),(⟨#[]⟩:ByteArray),([]:List ByteArray)⟩:aM)⟩:aN),([]:List aE),(⟨#[]⟩:ByteArray)⟩:aV)
 else
 bif (a0.Peer==0) then
 some (⟨2,(⟨0,false,0,0,0,false,(⟨0,([]:List aI)⟩:aK),(⟨0,([]:List aP),(⟨#[]⟩:ByteArray),([]:List ByteArray)⟩:aM)⟩:aN),([]:List aE),(⟨#[]⟩:ByteArray)⟩:aV)
 else
 (iH k a0.Send a1).bind fun r2=>
 bif (r2.2 !=0) then
 some (⟨r2.2,(⟨0,false,0,0,0,false,(⟨0,([]:List aI)⟩:aK),(⟨0,([]:List aP),(⟨#[]⟩:ByteArray),([]:List ByteArray)⟩:aM)⟩:aN),([]:List aE),(⟨#[]⟩:ByteArray)⟩:aV)
 else
 (gG k a0).bind fun r3=>
 some (⟨0,(⟨r3.Number,r3.Up,r3.Life,r3.Peer,r3.Since,r3.Owes,r2.1,r3.Take⟩:aN),([]:List aE),(⟨#[]⟩:ByteArray)⟩:aV)
def oX (k:Nat) (a0:aN):Option (aV):=
 (dV k a0).bind fun r1=>
 bif (!r1) then
 some (⟨1,(⟨0,false,0,0,0,false,(⟨0,([]:List aI)⟩:aK),(⟨0,([]:List aP),(⟨#[]⟩:ByteArray),([]:List ByteArray)⟩:aM)⟩:aN),([]:List aE),(⟨#[]⟩:ByteArray)⟩:aV)
 else
 bif (!a0.Up) then
 some (⟨2,(⟨0,false,0,0,0,false,(⟨0,([]:List aI)⟩:aK),(⟨0,([]:List aP),(⟨#[]⟩:ByteArray),([]:List ByteArray)⟩:aM)⟩:aN),([]:List aE),(⟨#[]⟩:ByteArray)⟩:aV)
 else
 (pX k a0.Take).bind fun r2=>
 bif (!r2.2.2) then
 some (⟨4,(⟨0,false,0,0,0,false,(⟨0,([]:List aI)⟩:aK),(⟨0,([]:List aP),(⟨#[]⟩:ByteArray),([]:List ByteArray)⟩:aM)⟩:aN),([]:List aE),(⟨#[]⟩:ByteArray)⟩:aV)
 else
 (gG k a0).bind fun r3=>
 some (⟨0,(⟨r3.Number,r3.Up,r3.Life,r3.Peer,r3.Since,true,r3.Send,r2.1⟩:aN),([]:List aE),r2.2.1⟩:aV)
end Km.X
