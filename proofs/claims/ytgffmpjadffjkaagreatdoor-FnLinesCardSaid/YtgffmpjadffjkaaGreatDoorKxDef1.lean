/- A part of the proof of FnLines: the functions that it reads off the program. There is no condition. -/
import Derived.Test.YtgffmpjadffjkaaGreatDoorKmAm4
set_option linter.unusedVariables false
namespace Km.X
open Go Km
set_option maxRecDepth 100000
structure cA where
  Text:ByteArray
  Last:Bool
structure aQ where
  Part:cA
  Has:Bool
  Since:Int
structure aM where
  Base:Int
  Items:List aQ
structure aR where
  Seq:Int
  Part:cA
structure aL where
  Next:Int
  Held:List aR
  Open:ByteArray
  Ready:List ByteArray
structure aN where
  Number:Int
  Up:Bool
  Life:Int
  Peer:Int
  Since:Int
  Owes:Bool
  Send:aM
  Take:aL
structure aF where
  Kind:Int
  From:Int
  Mine:Int
  Yours:Int
  Next:Int
  Mask:Int
  Seq:Int
  Last:Bool
  Part:ByteArray
structure aY where
  Code:Int
  End:aN
  Out:List aF
  Text:ByteArray
structure bI where
  Kind:Int
  A:Int
  B:Int
  C:Int
  Text:ByteArray
structure DKey where
  to:Int
  bytes:ByteArray
structure bF where
  b:List Int
  p:Int
structure bT where
  to:Int
  bytes:ByteArray
  n:Int
structure DPair where
  f:Int
  a:Int
  b:Int
structure aE where
  To:Int
  Sent:ByteArray
  Bytes:ByteArray
structure aA where
  From:Int
  A:Int
  B:Int
  Text:ByteArray
structure aC where
  Key:ByteArray
  Width:Int
  Ends:List aN
  Flight:List aE
  Forged:ByteArray
  Given:List aA
  Taken:List aA
def lI (x y:DKey):Bool:=((x.to==y.to)&&((x.bytes.toList==y.bytes.toList)&&true))
theorem K7 {x y:DKey} (h:lI x y=true):x=y:=by
  obtain ⟨x0,x1⟩:=x
  obtain ⟨y0,y1⟩:=y
  simp only [lI,Bool.and_eq_true,Bool.and_true,beq_iff_eq] at h
  obtain ⟨h0,h1⟩:=h
  subst h0;have h1:=Km.toList_inj h1;subst h1;rfl
def cJ (x y:DPair):Bool:=((x.f==y.f)&&((x.a==y.a)&&((x.b==y.b)&&true)))
theorem DP {x y:DPair} (h:cJ x y=true):x=y:=by
  obtain ⟨x0,x1,x2⟩:=x
  obtain ⟨y0,y1,y2⟩:=y
  simp only [cJ,Bool.and_eq_true,Bool.and_true,beq_iff_eq] at h
  obtain ⟨h0,h1,h2⟩:=h
  subst h0;subst h1;subst h2;rfl
def EG (x:Int):Prop:=(Lit.int .u8 x).wf=true
def a6 (k:Nat) (a0:Int) (a1:Int) (a2:Int):Option (Bool):=
 bif (decide (a0≥a1)) then
 some (decide (a0≤a2))
 else
 some false
def jE:Nat→ByteArray→Int→Int→Option (Int)
 | 0,_,_,_=>none
 | k+1,A,B,C=>
 bif (decide (C<(A.size:Int))) then
 (zN A C).bind fun c1=>
 jE k A (IntKind.wrap .i64 ((IntKind.wrap .i64 (B*256))+(IntKind.wrap .i64 (c1.toNat:Int)))) (IntKind.wrap .i64 (C+1))
 else
 some B
def n9 (k:Nat) (a0:ByteArray):Option (Int):=
 jE k a0 0 0
def oZ (k:Nat) (a0:aF):Option (Bool):=
 (a6 k a0.From 1 2).bind fun r1=>
 bif (!r1) then
 some false
 else
 (a6 k a0.Mine 1 1000).bind fun r2=>
 bif (!r2) then
 some false
 else
 (a6 k a0.Yours 0 1000).bind fun r3=>
 bif (!r3) then
 some false
 else
 bif (a0.Kind==1) then
 (a6 k a0.Next 0 1000000).bind fun r4=>
 bif r4 then
 (a6 k a0.Mask 0 255).bind fun r5=>
 bif r5 then
 bif (a0.Seq==0) then
 bif (!a0.Last) then
 some (a0.Part.toList==(⟨#[]⟩:ByteArray).toList)
 else
 some false
 else
 some false
 else
 some false
 else
 some false
 else
 bif (a0.Kind==2) then
 bif (a0.Next==0) then
 bif (a0.Mask==0) then
 (a6 k a0.Seq 0 999999).bind fun r6=>
 bif r6 then
 some (decide ((a0.Part.size:Int)≤20))
 else
 some false
 else
 some false
 else
 some false
 else
 some false
def fI:Nat→Int→Int→ByteArray→Int→Option (ByteArray)
 | 0,_,_,_,_=>none
 | k+1,A,B,C,D=>
 bif (decide (D<B)) then
 (J0 A 256).bind fun q1=>
 (dK (mD ([(IntKind.wrap .u8 q1)]:List Int)) C).bind fun t2=>
 (UH A 256).bind fun q3=>
 fI k (IntKind.wrap .i64 (q3)) B t2 (IntKind.wrap .i64 (D+1))
 else
 some C
def dU (k:Nat) (a0:Int) (a1:Int):Option (ByteArray):=
 fI k a0 a1 (⟨#[]⟩:ByteArray) 0
def lJ:Nat→ByteArray→Int→Int→Int→Int→Int→Int→Int→Int→Bool→ByteArray→Option (ByteArray)
 | 0,_,_,_,_,_,_,_,_,_,_,_=>none
 | k+1,A,B,C,D,E,F,G,H,I,J,K=>
 (dU k I 4).bind fun r12=>
 (dK A r12).bind fun t13=>
 (dU k B 1).bind fun r14=>
 (dK t13 r14).bind fun t15=>
 (dK t15 K).bind fun t16=>
 some t16
def qV (k:Nat) (a0:aF):Option (ByteArray):=
 (dU k a0.Kind 1).bind fun r1=>
 (dU k a0.From 1).bind fun r2=>
 (dK r1 r2).bind fun t3=>
 (dU k a0.Mine 2).bind fun r4=>
 (dK t3 r4).bind fun t5=>
 (dU k a0.Yours 2).bind fun r6=>
 (dK t5 r6).bind fun t7=>
 bif (a0.Kind==1) then
 (dU k a0.Next 4).bind fun r8=>
 (dK t7 r8).bind fun t9=>
 (dU k a0.Mask 1).bind fun r10=>
 (dK t9 r10).bind fun t11=>
 some t11
 else
 bif a0.Last then
 lJ k t7 1 a0.Kind a0.From a0.Mine a0.Yours a0.Next a0.Mask a0.Seq a0.Last a0.Part
 else
 lJ k t7 0 a0.Kind a0.From a0.Mine a0.Yours a0.Next a0.Mask a0.Seq a0.Last a0.Part
mutual
def oM:Nat→Int→ByteArray→Int→Int→Option (ByteArray)
 | 0,_,_,_,_=>none
 | k+1,A,B,C,D=>
 bif (decide (D<(B.size:Int))) then
 (zN B D).bind fun c4=>
 oM k A B (IntKind.wrap .u64 ((vG .u64 C (IntKind.wrap .u64 (c4.toNat:Int)))*1099511628211)) (IntKind.wrap .i64 (D+1))
 else
 mL k A C (⟨#[]⟩:ByteArray) 0
def mL:Nat→Int→Int→ByteArray→Int→Option (ByteArray)
 | 0,_,_,_,_=>none
 | k+1,A,B,C,D=>
 bif (decide (D<A)) then
 (J0 B 256).bind fun q5=>
 (dK (mD ([(IntKind.wrap .u8 q5)]:List Int)) C).bind fun t6=>
 (UH B 256).bind fun q7=>
 mL k A (IntKind.wrap .u64 (q7)) t6 (IntKind.wrap .i64 (D+1))
 else
 some C
end
def HO (k:Nat) (a0:ByteArray) (a1:ByteArray) (a2:Int):Option (ByteArray):=
 (a6 k a2 1 8).bind fun r1=>
 bif (!r1) then
 some (⟨#[]⟩:ByteArray)
 else
 bif (decide ((a1.size:Int)>30)) then
 some (⟨#[]⟩:ByteArray)
 else
 (dK a1 (⟨#[0]⟩:ByteArray)).bind fun t2=>
 (dK t2 a0).bind fun t3=>
 oM k a2 t3 14695981039346656037 0
def hH (k:Nat) (a0:aF) (a1:ByteArray) (a2:Int):Option (ByteArray):=
 (oZ k a0).bind fun r1=>
 bif (!r1) then
 some (⟨#[]⟩:ByteArray)
 else
 (a6 k a2 1 8).bind fun r2=>
 bif (!r2) then
 some (⟨#[]⟩:ByteArray)
 else
 bif (decide ((a1.size:Int)>30)) then
 some (⟨#[]⟩:ByteArray)
 else
 (qV k a0).bind fun r3=>
 (HO k r3 a1 a2).bind fun r4=>
 (qV k a0).bind fun r5=>
 (dK r4 r5).bind fun t6=>
 some t6
def fB:Nat→ByteArray→ByteArray→Int→Int→Int→Int→Int→Int→Int→Int→Bool→ByteArray→Int→Int→Int→Int→Int→Int→Int→Bool→ByteArray→Option (aF×Bool)
 | 0,_,_,_,_,_,_,_,_,_,_,_,_,_,_,_,_,_,_,_,_,_=>none
 | k+1,A,B,C,D,E,F,G,H,I,J,K,L,M,N,O,P,Q,R,S,T,U=>
 (hH k (⟨M,N,O,P,Q,R,S,T,U⟩:aF) B C).bind fun r16=>
 bif (!(r16.toList==A.toList)) then
 some ((⟨0,0,0,0,0,0,0,false,(⟨#[]⟩:ByteArray)⟩:aF),false)
 else
 some ((⟨M,N,O,P,Q,R,S,T,U⟩:aF),true)
def nM (k:Nat) (a0:ByteArray) (a1:ByteArray) (a2:Int):Option (aF×Bool):=
 (a6 k a2 1 8).bind fun r1=>
 bif (!r1) then
 some ((⟨0,0,0,0,0,0,0,false,(⟨#[]⟩:ByteArray)⟩:aF),false)
 else
 bif (decide ((a0.size:Int)<(IntKind.wrap .i64 (a2+11)))) then
 some ((⟨0,0,0,0,0,0,0,false,(⟨#[]⟩:ByteArray)⟩:aF),false)
 else
 (wnd a0.size a2 (a0.size:Int)).bind fun p2=>
 (zN (a0.extract p2.1 p2.2) 0).bind fun c3=>
 (zN (a0.extract p2.1 p2.2) 1).bind fun c4=>
 (wnd (a0.extract p2.1 p2.2).size 2 4).bind fun p5=>
 (n9 k ((a0.extract p2.1 p2.2).extract p5.1 p5.2)).bind fun r6=>
 (wnd (a0.extract p2.1 p2.2).size 4 6).bind fun p7=>
 (n9 k ((a0.extract p2.1 p2.2).extract p7.1 p7.2)).bind fun r8=>
 bif ((IntKind.wrap .i64 (c3.toNat:Int))==1) then
 (wnd (a0.extract p2.1 p2.2).size 6 10).bind fun p9=>
 (n9 k ((a0.extract p2.1 p2.2).extract p9.1 p9.2)).bind fun r10=>
 (zN (a0.extract p2.1 p2.2) 10).bind fun c11=>
 fB k a0 a1 a2 0 0 0 0 0 0 0 false (⟨#[]⟩:ByteArray) (IntKind.wrap .i64 (c3.toNat:Int)) (IntKind.wrap .i64 (c4.toNat:Int)) r6 r8 r10 (IntKind.wrap .i64 (c11.toNat:Int)) 0 false (⟨#[]⟩:ByteArray)
 else
 (wnd (a0.extract p2.1 p2.2).size 6 10).bind fun p12=>
 (n9 k ((a0.extract p2.1 p2.2).extract p12.1 p12.2)).bind fun r13=>
 (zN (a0.extract p2.1 p2.2) 10).bind fun c14=>
 (wnd (a0.extract p2.1 p2.2).size 11 ((a0.extract p2.1 p2.2).size:Int)).bind fun p15=>
 fB k a0 a1 a2 0 0 0 0 0 0 0 false (⟨#[]⟩:ByteArray) (IntKind.wrap .i64 (c3.toNat:Int)) (IntKind.wrap .i64 (c4.toNat:Int)) r6 r8 0 0 r13 ((c14.toNat:Int)==1) ((a0.extract p2.1 p2.2).extract p15.1 p15.2)
def bR (k:Nat) (a0:Int) (a1:Int) (a2:Int):Option (Bool):=
 bif (decide (a0≥a1)) then
 some (decide (a0≤a2))
 else
 some false
def c8:Nat→List aQ→Int→Int→Option (Bool)
 | 0,_,_,_=>none
 | k+1,A,B,C=>
 bif (decide (C<B)) then
 (idx A C).bind fun y2=>
 bif (decide ((y2.Part.Text.size:Int)>20)) then
 some false
 else
 (bR k y2.Since (-1) 3).bind fun r3=>
 bif (!r3) then
 some false
 else
 bif (decide (C≥8)) then
 bif (y2.Since !=(-1)) then
 some false
 else
 bif y2.Has then
 bif (decide (y2.Since<0)) then
 some false
 else
 c8 k A B (IntKind.wrap .i64 (C+1))
 else
 c8 k A B (IntKind.wrap .i64 (C+1))
 else
 bif y2.Has then
 bif (decide (y2.Since<0)) then
 some false
 else
 c8 k A B (IntKind.wrap .i64 (C+1))
 else
 c8 k A B (IntKind.wrap .i64 (C+1))
 else
 some true
def cS (k:Nat) (a0:aM):Option (Bool):=
 bif (decide ((a0.Items.length:Int)>60)) then
 some false
 else
 (bR k a0.Base 0 1000000).bind fun r1=>
 bif (!r1) then
 some false
 else
 bif (decide ((IntKind.wrap .i64 (a0.Base+(a0.Items.length:Int)))>1000000)) then
 some false
 else
 c8 k a0.Items (a0.Items.length:Int) 0
def qT (k:Nat) (a0:aL) (a1:cA):Option (Bool):=
 bif (decide ((IntKind.wrap .i64 ((a0.Open.size:Int)+(a1.Text.size:Int)))≤200)) then
 bif (!a1.Last) then
 some true
 else
 some (decide ((a0.Ready.length:Int)<4))
 else
 some false
mutual
def bN:Nat→List aR→Int→Int→Int→List aR→ByteArray→List ByteArray→Option (Bool)
 | 0,_,_,_,_,_,_,_=>none
 | k+1,A,B,C,D,E,F,G=>
 bif (decide (C<B)) then
 (idx A C).bind fun y2=>
 (bR k y2.Seq D (IntKind.wrap .i64 ((IntKind.wrap .i64 (D+8))-1))).bind fun r3=>
 bif (!r3) then
 some false
 else
 bif (decide (y2.Seq>999999)) then
 some false
 else
 bif (decide ((y2.Part.Text.size:Int)>20)) then
 some false
 else
 bif (decide (C>0)) then
 (idx E (IntKind.wrap .i64 (C-1))).bind fun y4=>
 bif (decide (y4.Seq≥y2.Seq)) then
 some false
 else
 bif (y2.Seq==D) then
 (qT k (⟨D,E,F,G⟩:aL) y2.Part).bind fun r5=>
 bif r5 then
 some false
 else
 bN k A B (IntKind.wrap .i64 (C+1)) D E F G
 else
 bN k A B (IntKind.wrap .i64 (C+1)) D E F G
 else
 bif (y2.Seq==D) then
 (qT k (⟨D,E,F,G⟩:aL) y2.Part).bind fun r6=>
 bif r6 then
 some false
 else
 bN k A B (IntKind.wrap .i64 (C+1)) D E F G
 else
 bN k A B (IntKind.wrap .i64 (C+1)) D E F G
 else
 eC k G (G.length:Int) 0
def eC:Nat→List ByteArray→Int→Int→Option (Bool)
 | 0,_,_,_=>none
 | k+1,A,B,C=>
 bif (decide (C<B)) then
 (idx A C).bind fun y7=>
 bif (decide ((y7.size:Int)>200)) then
 some false
 else
 eC k A B (IntKind.wrap .i64 (C+1))
 else
 some true
end
def dR (k:Nat) (a0:aL):Option (Bool):=
 (bR k a0.Next 0 1000000).bind fun r1=>
 bif (!r1) then
 some false
 else
 bif (decide ((a0.Held.length:Int)>8)) then
 some false
 else
 bif (decide ((a0.Open.size:Int)>200)) then
 some false
 else
 bif (decide ((a0.Ready.length:Int)>4)) then
 some false
 else
 bN k a0.Held (a0.Held.length:Int) 0 a0.Next a0.Held a0.Open a0.Ready
def kM (k:Nat) (a0:aM):Option (aM):=
 (app 40 ([]:List aQ) a0.Items).bind fun l1=>
 some (⟨a0.Base,l1⟩:aM)
def nJ (k:Nat) (a0:aL):Option (aL):=
 (app 32 ([]:List aR) a0.Held).bind fun l1=>
 (app 16 ([]:List ByteArray) a0.Ready).bind fun l2=>
 some (⟨a0.Next,l1,a0.Open,l2⟩:aL)
mutual
def fL:Nat→Int→Int→Int→List Int→List aQ→List aQ→Option (aM×List Int)
 | 0,_,_,_,_,_,_=>none
 | k+1,A,B,C,D,E,F=>
 bif (decide (A<(F.length:Int))) then
 bif (decide (A<8)) then
 (idx F A).bind fun _=>
 (F[(Int.toNat A)]?).bind fun y3=>
 bif y3.Has then
 eJ k A B C D E F
 else
 (F[(Int.toNat A)]?).bind fun y4=>
 bif (y4.Since==(-1)) then
 (F[(Int.toNat A)]?).bind fun y5=>
 (app 8 D ([(IntKind.wrap .i64 (C+A))]:List Int)).bind fun l6=>
 eJ k A B C l6 E (F.set (Int.toNat A) (⟨y5.Part,y5.Has,0⟩:aQ))
 else
 (F[(Int.toNat A)]?).bind fun y7=>
 bif (y7.Since==3) then
 (F[(Int.toNat A)]?).bind fun y8=>
 (app 8 D ([(IntKind.wrap .i64 (C+A))]:List Int)).bind fun l9=>
 eJ k A B C l9 E (F.set (Int.toNat A) (⟨y8.Part,y8.Has,0⟩:aQ))
 else
 (F[(Int.toNat A)]?).bind fun y10=>
 (F[(Int.toNat A)]?).bind fun y11=>
 eJ k A B C D E (F.set (Int.toNat A) (⟨y11.Part,y11.Has,(IntKind.wrap .i64 (y10.Since+1))⟩:aQ))
 else
 some ((⟨C,F⟩:aM),D)
 else
 some ((⟨C,F⟩:aM),D)
def eJ:Nat→Int→Int→Int→List Int→List aQ→List aQ→Option (aM×List Int)
 | 0,_,_,_,_,_,_=>none
 | k+1,A,B,C,D,E,F=>
 fL k (IntKind.wrap .i64 (A+1)) B C D E F
end
def qA (k:Nat) (a0:aM):Option (aM×List Int):=
 (cS k a0).bind fun r1=>
 bif (!r1) then
 some ((⟨0,([]:List aQ)⟩:aM),([]:List Int))
 else
 (kM k a0).bind fun r2=>
 fL k 0 0 r2.Base ([]:List Int) ([]:List aQ) r2.Items
def fM:Nat→Int→List aR→Int→Int→Int→List aR→ByteArray→List ByteArray→Option (Int×Int)
 | 0,_,_,_,_,_,_,_,_=>none
 | k+1,A,B,C,D,E,F,G,H=>
 bif (decide (D<C)) then
 (idx B D).bind fun y2=>
 (shift .shl .i64 1 (IntKind.wrap .i64 (y2.Seq-E))).bind fun s3=>
 fM k (X7 .i64 A s3) B C (IntKind.wrap .i64 (D+1)) E F G H
 else
 some (E,A)
def kJ (k:Nat) (a0:aL):Option (Int×Int):=
 (dR k a0).bind fun r1=>
 bif (!r1) then
 some (0,0)
 else
 fM k 0 a0.Held (a0.Held.length:Int) 0 a0.Next a0.Held a0.Open a0.Ready
def cL (k:Nat) (a0:aF):Option (Bool):=
 bif (a0.From !=1) then
 bif (a0.From !=2) then
 some false
 else
 (bR k a0.Mine 1 1000).bind fun r1=>
 bif (!r1) then
 some false
 else
 (bR k a0.Yours 0 1000).bind fun r2=>
 bif (!r2) then
 some false
 else
 bif (a0.Kind==1) then
 (bR k a0.Next 0 1000000).bind fun r3=>
 bif r3 then
 (bR k a0.Mask 0 255).bind fun r4=>
 bif r4 then
 bif (a0.Seq==0) then
 bif (!a0.Last) then
 some (a0.Part.toList==(⟨#[]⟩:ByteArray).toList)
 else
 some false
 else
 some false
 else
 some false
 else
 some false
 else
 bif (a0.Kind==2) then
 bif (a0.Next==0) then
 bif (a0.Mask==0) then
 (bR k a0.Seq 0 999999).bind fun r5=>
 bif r5 then
 some (decide ((a0.Part.size:Int)≤20))
 else
 some false
 else
 some false
 else
 some false
 else
 some false
 else
 (bR k a0.Mine 1 1000).bind fun r6=>
 bif (!r6) then
 some false
 else
 (bR k a0.Yours 0 1000).bind fun r7=>
 bif (!r7) then
 some false
 else
 bif (a0.Kind==1) then
 (bR k a0.Next 0 1000000).bind fun r8=>
 bif r8 then
 (bR k a0.Mask 0 255).bind fun r9=>
 bif r9 then
 bif (a0.Seq==0) then
 bif (!a0.Last) then
 some (a0.Part.toList==(⟨#[]⟩:ByteArray).toList)
 else
 some false
 else
 some false
 else
 some false
 else
 some false
 else
 bif (a0.Kind==2) then
 bif (a0.Next==0) then
 bif (a0.Mask==0) then
 (bR k a0.Seq 0 999999).bind fun r10=>
 bif r10 then
 some (decide ((a0.Part.size:Int)≤20))
 else
 some false
 else
 some false
 else
 some false
 else
 some false
def qM:Nat→Int→Int→List Int→Option (ByteArray)
 | 0,_,_,_=>none
 | k+1,A,B,C=>
 bif (decide (B≥0)) then
 (idx C B).bind fun _=>
 (C[(Int.toNat B)]?).bind fun y2=>
 (shift .shr .i64 A 8).bind fun s3=>
 qM k s3 (IntKind.wrap .i64 (B-1)) (C.set (Int.toNat B) (IntKind.wrap .u8 A))
 else
 some (mD C)
def qZ (k:Nat) (a0:Int) (a1:Int):Option (ByteArray):=
 (if (a1:Int)=a1 then room 1 a1 else none).bind fun n1=>
 qM k a0 (IntKind.wrap .i64 (a1-1)) (List.replicate n1 0)
mutual
def oL:Nat→Int→Int→ByteArray→Int→Option (ByteArray)
 | 0,_,_,_,_=>none
 | k+1,A,B,C,D=>
 bif (decide (D<(C.size:Int))) then
 (zN C D).bind fun c3=>
 oL k A (IntKind.wrap .u64 ((vG .u64 B (IntKind.wrap .u64 (c3.toNat:Int)))*1099511628211)) C (IntKind.wrap .i64 (D+1))
 else
 mR k A B 7 (List.replicate 8 0)
def mR:Nat→Int→Int→Int→List Int→Option (ByteArray)
 | 0,_,_,_,_=>none
 | k+1,A,B,C,D=>
 bif (decide (C≥0)) then
 (if D.length=8 then idx D C else none).bind fun _=>
 (D[(Int.toNat C)]?).bind fun y4=>
 (shift .shr .u64 B 8).bind fun s5=>
 mR k A s5 (IntKind.wrap .i64 (C-1)) (D.set (Int.toNat C) (IntKind.wrap .u8 B))
 else
 (if D.length=8 then wnd 8 (IntKind.wrap .i64 (8-A)) (8:Int) else none).bind fun p6=>
 some (mD (iA D p6.1 p6.2))
end
def G8 (k:Nat) (a0:ByteArray) (a1:ByteArray) (a2:Int):Option (ByteArray):=
 bif (decide (a2<1)) then
 some (⟨#[]⟩:ByteArray)
 else
 bif (decide (a2>8)) then
 some (⟨#[]⟩:ByteArray)
 else
 bif (decide ((a1.size:Int)>30)) then
 some (⟨#[]⟩:ByteArray)
 else
 (dK a1 (⟨#[0]⟩:ByteArray)).bind fun t1=>
 (dK t1 a0).bind fun t2=>
 oL k a2 14695981039346656037 t2 0
mutual
def fF:Nat→ByteArray→Int→ByteArray→Option (ByteArray)
 | 0,_,_,_=>none
 | k+1,A,B,C=>
 (G8 k C A B).bind fun r13=>
 (dK r13 C).bind fun t14=>
 some t14
def fX:Nat→ByteArray→Int→ByteArray→Int→Int→Int→Int→Int→Int→Int→Int→Bool→ByteArray→Option (ByteArray)
 | 0,_,_,_,_,_,_,_,_,_,_,_,_,_=>none
 | k+1,A,B,C,D,E,F,G,H,I,J,K,L,M=>
 (qZ k K 4).bind fun r15=>
 (qZ k D 1).bind fun r16=>
 (dK r15 r16).bind fun t17=>
 (dK t17 M).bind fun t18=>
 (dK C t18).bind fun t19=>
 fF k A B t19
end
def hJ (k:Nat) (a0:aF) (a1:ByteArray) (a2:Int):Option (ByteArray):=
 (cL k a0).bind fun r1=>
 bif (!r1) then
 some (⟨#[]⟩:ByteArray)
 else
 bif (decide (a2<1)) then
 some (⟨#[]⟩:ByteArray)
 else
 bif (decide (a2>8)) then
 some (⟨#[]⟩:ByteArray)
 else
 bif (decide ((a1.size:Int)>30)) then
 some (⟨#[]⟩:ByteArray)
 else
 (qZ k a0.Kind 1).bind fun r2=>
 (qZ k a0.From 1).bind fun r3=>
 (dK r2 r3).bind fun t4=>
 (qZ k a0.Mine 2).bind fun r5=>
 (dK t4 r5).bind fun t6=>
 (qZ k a0.Yours 2).bind fun r7=>
 (dK t6 r7).bind fun t8=>
 bif (a0.Kind==1) then
 (qZ k a0.Next 4).bind fun r9=>
 (qZ k a0.Mask 1).bind fun r10=>
 (dK r9 r10).bind fun t11=>
 (dK t8 t11).bind fun t12=>
 fF k a1 a2 t12
 else
 bif a0.Last then
 fX k a1 a2 t8 1 a0.Kind a0.From a0.Mine a0.Yours a0.Next a0.Mask a0.Seq a0.Last a0.Part
 else
 fX k a1 a2 t8 0 a0.Kind a0.From a0.Mine a0.Yours a0.Next a0.Mask a0.Seq a0.Last a0.Part
def oE:Nat→ByteArray→Int→Int→Option (Int)
 | 0,_,_,_=>none
 | k+1,A,B,C=>
 bif (decide (C<(A.size:Int))) then
 (shift .shl .i64 B 8).bind fun s1=>
 (zN A C).bind fun c2=>
 oE k A (X7 .i64 s1 (IntKind.wrap .i64 (c2.toNat:Int))) (IntKind.wrap .i64 (C+1))
 else
 some B
def yM (k:Nat) (a0:ByteArray):Option (Int):=
 oE k a0 0 0
def c6:Nat→ByteArray→ByteArray→Int→Int→Int→Int→Int→Int→Int→Int→Bool→ByteArray→Int→Int→Int→Int→Int→Int→Int→Bool→ByteArray→Option (aF×Bool)
 | 0,_,_,_,_,_,_,_,_,_,_,_,_,_,_,_,_,_,_,_,_,_=>none
 | k+1,A,B,C,D,E,F,G,H,I,J,K,L,M,N,O,P,Q,R,S,T,U=>
 (cL k (⟨M,N,O,P,Q,R,S,T,U⟩:aF)).bind fun r15=>
 bif (!r15) then
 some ((⟨0,0,0,0,0,0,0,false,(⟨#[]⟩:ByteArray)⟩:aF),false)
 else
 (hJ k (⟨M,N,O,P,Q,R,S,T,U⟩:aF) B C).bind fun r16=>
 bif (!(r16.toList==A.toList)) then
 some ((⟨0,0,0,0,0,0,0,false,(⟨#[]⟩:ByteArray)⟩:aF),false)
 else
 some ((⟨M,N,O,P,Q,R,S,T,U⟩:aF),true)
def nD (k:Nat) (a0:ByteArray) (a1:ByteArray) (a2:Int):Option (aF×Bool):=
 bif (decide (a2<1)) then
 some ((⟨0,0,0,0,0,0,0,false,(⟨#[]⟩:ByteArray)⟩:aF),false)
 else
 bif (decide (a2>8)) then
 some ((⟨0,0,0,0,0,0,0,false,(⟨#[]⟩:ByteArray)⟩:aF),false)
 else
 bif (decide ((a1.size:Int)>30)) then
 some ((⟨0,0,0,0,0,0,0,false,(⟨#[]⟩:ByteArray)⟩:aF),false)
 else
 bif (decide ((a0.size:Int)<(IntKind.wrap .i64 (a2+11)))) then
 some ((⟨0,0,0,0,0,0,0,false,(⟨#[]⟩:ByteArray)⟩:aF),false)
 else
 (wnd a0.size a2 (a0.size:Int)).bind fun p1=>
 (zN (a0.extract p1.1 p1.2) 0).bind fun c2=>
 (zN (a0.extract p1.1 p1.2) 1).bind fun c3=>
 (wnd (a0.extract p1.1 p1.2).size 2 4).bind fun p4=>
 (yM k ((a0.extract p1.1 p1.2).extract p4.1 p4.2)).bind fun r5=>
 (wnd (a0.extract p1.1 p1.2).size 4 6).bind fun p6=>
 (yM k ((a0.extract p1.1 p1.2).extract p6.1 p6.2)).bind fun r7=>
 bif ((IntKind.wrap .i64 (c2.toNat:Int))==1) then
 (wnd (a0.extract p1.1 p1.2).size 6 10).bind fun p8=>
 (yM k ((a0.extract p1.1 p1.2).extract p8.1 p8.2)).bind fun r9=>
 (zN (a0.extract p1.1 p1.2) 10).bind fun c10=>
 c6 k a0 a1 a2 0 0 0 0 0 0 0 false (⟨#[]⟩:ByteArray) (IntKind.wrap .i64 (c2.toNat:Int)) (IntKind.wrap .i64 (c3.toNat:Int)) r5 r7 r9 (IntKind.wrap .i64 (c10.toNat:Int)) 0 false (⟨#[]⟩:ByteArray)
 else
 bif ((IntKind.wrap .i64 (c2.toNat:Int))==2) then
 (wnd (a0.extract p1.1 p1.2).size 6 10).bind fun p11=>
 (yM k ((a0.extract p1.1 p1.2).extract p11.1 p11.2)).bind fun r12=>
 (zN (a0.extract p1.1 p1.2) 10).bind fun c13=>
 (wnd (a0.extract p1.1 p1.2).size 11 ((a0.extract p1.1 p1.2).size:Int)).bind fun p14=>
 c6 k a0 a1 a2 0 0 0 0 0 0 0 false (⟨#[]⟩:ByteArray) (IntKind.wrap .i64 (c2.toNat:Int)) (IntKind.wrap .i64 (c3.toNat:Int)) r5 r7 0 0 r12 ((c13.toNat:Int)==1) ((a0.extract p1.1 p1.2).extract p14.1 p14.2)
 else
 c6 k a0 a1 a2 0 0 0 0 0 0 0 false (⟨#[]⟩:ByteArray) (IntKind.wrap .i64 (c2.toNat:Int)) (IntKind.wrap .i64 (c3.toNat:Int)) r5 r7 0 0 0 false (⟨#[]⟩:ByteArray)
mutual
def fK:Nat→Int→Int→Int→Int→Int→List aQ→List aQ→Option (aM)
 | 0,_,_,_,_,_,_,_=>none
 | k+1,A,B,C,D,E,F,G=>
 bif (decide (C<(G.length:Int))) then
 (idx G C).bind fun _=>
 (G[(Int.toNat C)]?).bind fun y3=>
 bif (decide (y3.Since≥0)) then
 fK k A B (IntKind.wrap .i64 (C+1)) D E F G
 else
 bif (decide (A<E)) then
 some (⟨E,G⟩:aM)
 else
 bif (decide (A>(IntKind.wrap .i64 (E+C)))) then
 some (⟨E,G⟩:aM)
 else
 (bR k B 0 255).bind fun r4=>
 bif (!r4) then
 some (⟨E,G⟩:aM)
 else
 (wnd G.length (IntKind.wrap .i64 (A-E)) (G.length:Int)).bind fun p5=>
 (app 40 ([]:List aQ) (iA G p5.1 p5.2)).bind fun l6=>
 c7 k B 0 D A F l6
 else
 bif (decide (A<E)) then
 some (⟨E,G⟩:aM)
 else
 bif (decide (A>(IntKind.wrap .i64 (E+C)))) then
 some (⟨E,G⟩:aM)
 else
 (bR k B 0 255).bind fun r7=>
 bif (!r7) then
 some (⟨E,G⟩:aM)
 else
 (wnd G.length (IntKind.wrap .i64 (A-E)) (G.length:Int)).bind fun p8=>
 (app 40 ([]:List aQ) (iA G p8.1 p8.2)).bind fun l9=>
 c7 k B 0 D A F l9
def c7:Nat→Int→Int→Int→Int→List aQ→List aQ→Option (aM)
 | 0,_,_,_,_,_,_=>none
 | k+1,A,B,C,D,E,F=>
 bif (decide (B<8)) then
 bif (decide (B<(F.length:Int))) then
 (shift .shr .i64 A B).bind fun s10=>
 bif ((aX_ .i64 s10 1)==1) then
 (idx F B).bind fun _=>
 (F[(Int.toNat B)]?).bind fun y11=>
 bif (decide (y11.Since≥0)) then
 (idx F B).bind fun _=>
 (F[(Int.toNat B)]?).bind fun y12=>
 eU k A B C D E (F.set (Int.toNat B) (⟨y12.Part,true,y12.Since⟩:aQ))
 else
 eU k A B C D E F
 else
 eU k A B C D E F
 else
 some (⟨D,F⟩:aM)
 else
 some (⟨D,F⟩:aM)
def eU:Nat→Int→Int→Int→Int→List aQ→List aQ→Option (aM)
 | 0,_,_,_,_,_,_=>none
 | k+1,A,B,C,D,E,F=>
 c7 k A (IntKind.wrap .i64 (B+1)) C D E F
end
def qH (k:Nat) (a0:aM) (a1:Int) (a2:Int):Option (aM):=
 (cS k a0).bind fun r1=>
 bif (!r1) then
 some (⟨0,([]:List aQ)⟩:aM)
 else
 (kM k a0).bind fun r2=>
 fK k a1 a2 0 0 r2.Base ([]:List aQ) r2.Items
def mS:Nat→Int→ByteArray→Int→ByteArray→List aR→List ByteArray→List aR→List ByteArray→Option (aL)
 | 0,_,_,_,_,_,_,_,_=>none
 | k+1,A,B,C,D,E,F,G,H=>
 bif (decide ((E.length:Int)>0)) then
 (idx E 0).bind fun _=>
 (E[(Int.toNat 0)]?).bind fun y1=>
 bif (y1.Seq==A) then
 (idx E 0).bind fun _=>
 (E[(Int.toNat 0)]?).bind fun y2=>
 (qT k (⟨A,E,B,F⟩:aL) y2.Part).bind fun r3=>
 bif r3 then
 (idx E 0).bind fun _=>
 (E[(Int.toNat 0)]?).bind fun y4=>
 (wnd E.length 1 (E.length:Int)).bind fun p5=>
 (app 32 ([]:List aR) (iA E p5.1 p5.2)).bind fun l6=>
 (dK B y4.Part.Text).bind fun t7=>
 bif y4.Part.Last then
 (app 16 F ([t7]:List ByteArray)).bind fun l8=>
 mS k (IntKind.wrap .i64 (A+1)) (⟨#[]⟩:ByteArray) C D l6 l8 G H
 else
 mS k (IntKind.wrap .i64 (A+1)) t7 C D l6 F G H
 else
 some (⟨A,E,B,F⟩:aL)
 else
 some (⟨A,E,B,F⟩:aL)
 else
 some (⟨A,E,B,F⟩:aL)
def m6 (k:Nat) (a0:aL):Option (aL):=
 mS k a0.Next a0.Open 0 (⟨#[]⟩:ByteArray) a0.Held a0.Ready ([]:List aR) ([]:List ByteArray)
def fO:Nat→Int→Int→ByteArray→Bool→Int→ByteArray→Int→ByteArray→List aR→List ByteArray→List aR→List ByteArray→Option (aL)
 | 0,_,_,_,_,_,_,_,_,_,_,_,_=>none
 | k+1,A,B,C,D,E,F,G,H,I,J,K,L=>
 bif (decide (B<(K.length:Int))) then
 (idx K B).bind fun _=>
 (K[(Int.toNat B)]?).bind fun y4=>
 bif (decide (y4.Seq<A)) then
 fO k A (IntKind.wrap .i64 (B+1)) C D E F G H I J K L
 else
 bif (decide (B<(K.length:Int))) then
 (idx K B).bind fun _=>
 (K[(Int.toNat B)]?).bind fun y5=>
 bif (y5.Seq==A) then
 some (⟨G,K,H,L⟩:aL)
 else
 (app 32 K ([(⟨0,(⟨(⟨#[]⟩:ByteArray),false⟩:cA)⟩:aR)]:List aR)).bind fun l6=>
 (wnd l6.length (IntKind.wrap .i64 (B+1)) (l6.length:Int)).bind fun p7=>
 (wnd l6.length B (l6.length:Int)).bind fun p8=>
 (idx (cpy l6 p7.1 p7.2 (iA l6 p8.1 p8.2)) B).bind fun _=>
 ((cpy l6 p7.1 p7.2 (iA l6 p8.1 p8.2))[(Int.toNat B)]?).bind fun y9=>
 (m6 k (⟨G,((cpy l6 p7.1 p7.2 (iA l6 p8.1 p8.2)).set (Int.toNat B) (⟨A,(⟨C,D⟩:cA)⟩:aR)),H,L⟩:aL)).bind fun r10=>
 some r10
 else
 (app 32 K ([(⟨0,(⟨(⟨#[]⟩:ByteArray),false⟩:cA)⟩:aR)]:List aR)).bind fun l11=>
 (wnd l11.length (IntKind.wrap .i64 (B+1)) (l11.length:Int)).bind fun p12=>
 (wnd l11.length B (l11.length:Int)).bind fun p13=>
 (idx (cpy l11 p12.1 p12.2 (iA l11 p13.1 p13.2)) B).bind fun _=>
 ((cpy l11 p12.1 p12.2 (iA l11 p13.1 p13.2))[(Int.toNat B)]?).bind fun y14=>
 (m6 k (⟨G,((cpy l11 p12.1 p12.2 (iA l11 p13.1 p13.2)).set (Int.toNat B) (⟨A,(⟨C,D⟩:cA)⟩:aR)),H,L⟩:aL)).bind fun r15=>
 some r15
 else
 bif (decide (B<(K.length:Int))) then
 (idx K B).bind fun _=>
 (K[(Int.toNat B)]?).bind fun y16=>
 bif (y16.Seq==A) then
 some (⟨G,K,H,L⟩:aL)
 else
 (app 32 K ([(⟨0,(⟨(⟨#[]⟩:ByteArray),false⟩:cA)⟩:aR)]:List aR)).bind fun l17=>
 (wnd l17.length (IntKind.wrap .i64 (B+1)) (l17.length:Int)).bind fun p18=>
 (wnd l17.length B (l17.length:Int)).bind fun p19=>
 (idx (cpy l17 p18.1 p18.2 (iA l17 p19.1 p19.2)) B).bind fun _=>
 ((cpy l17 p18.1 p18.2 (iA l17 p19.1 p19.2))[(Int.toNat B)]?).bind fun y20=>
 (m6 k (⟨G,((cpy l17 p18.1 p18.2 (iA l17 p19.1 p19.2)).set (Int.toNat B) (⟨A,(⟨C,D⟩:cA)⟩:aR)),H,L⟩:aL)).bind fun r21=>
 some r21
 else
 (app 32 K ([(⟨0,(⟨(⟨#[]⟩:ByteArray),false⟩:cA)⟩:aR)]:List aR)).bind fun l22=>
 (wnd l22.length (IntKind.wrap .i64 (B+1)) (l22.length:Int)).bind fun p23=>
 (wnd l22.length B (l22.length:Int)).bind fun p24=>
 (idx (cpy l22 p23.1 p23.2 (iA l22 p24.1 p24.2)) B).bind fun _=>
 ((cpy l22 p23.1 p23.2 (iA l22 p24.1 p24.2))[(Int.toNat B)]?).bind fun y25=>
 (m6 k (⟨G,((cpy l22 p23.1 p23.2 (iA l22 p24.1 p24.2)).set (Int.toNat B) (⟨A,(⟨C,D⟩:cA)⟩:aR)),H,L⟩:aL)).bind fun r26=>
 some r26
def qF (k:Nat) (a0:aL) (a1:Int) (a2:cA):Option (aL):=
 (dR k a0).bind fun r1=>
 bif (!r1) then
 some (⟨0,([]:List aR),(⟨#[]⟩:ByteArray),([]:List ByteArray)⟩:aL)
 else
 (nJ k a0).bind fun r2=>
 (bR k a1 a0.Next (IntKind.wrap .i64 ((IntKind.wrap .i64 (a0.Next+8))-1))).bind fun r3=>
 bif (!r3) then
 some r2
 else
 bif (decide (a1>999999)) then
 some r2
 else
 bif (decide ((a2.Text.size:Int)>20)) then
 some r2
 else
 fO k a1 0 a2.Text a2.Last 0 (⟨#[]⟩:ByteArray) r2.Next r2.Open ([]:List aR) ([]:List ByteArray) r2.Held r2.Ready
def rM:Nat→ByteArray→List cA→Option (List cA)
 | 0,_,_=>none
 | k+1,A,B=>
 bif (decide ((A.size:Int)>20)) then
 (wnd A.size 0 20).bind fun p1=>
 (app 24 B ([(⟨(A.extract p1.1 p1.2),false⟩:cA)]:List cA)).bind fun l2=>
 (wnd A.size 20 (A.size:Int)).bind fun p3=>
 rM k (A.extract p3.1 p3.2) l2
 else
 (app 24 B ([(⟨A,true⟩:cA)]:List cA)).bind fun l4=>
 some l4
def C3 (k:Nat) (a0:ByteArray):Option (List cA):=
 bif (decide ((a0.size:Int)>200)) then
 some ([]:List cA)
 else
 rM k a0 ([]:List cA)
def fJ:Nat→Int→Int→Int→Int→List cA→List aQ→List aQ→Option (aM×Int)
 | 0,_,_,_,_,_,_,_=>none
 | k+1,A,B,C,D,E,F,G=>
 bif (decide (B<A)) then
 (idx E B).bind fun _=>
 (E[(Int.toNat B)]?).bind fun y4=>
 (app 40 G ([(⟨y4,false,(-1)⟩:aQ)]:List aQ)).bind fun l5=>
 fJ k A (IntKind.wrap .i64 (B+1)) C D E F l5
 else
 some ((⟨D,G⟩:aM),0)
def pS (k:Nat) (a0:aM) (a1:ByteArray):Option (aM×Int):=
 (cS k a0).bind fun r1=>
 bif (!r1) then
 some ((⟨0,([]:List aQ)⟩:aM),1)
 else
 bif (decide ((a1.size:Int)>200)) then
 some ((⟨0,([]:List aQ)⟩:aM),1)
 else
 (C3 k a1).bind fun r2=>
 bif (decide ((IntKind.wrap .i64 ((a0.Items.length:Int)+(r2.length:Int)))>60)) then
 some ((⟨0,([]:List aQ)⟩:aM),3)
 else
 bif (decide ((IntKind.wrap .i64 (a0.Base+(IntKind.wrap .i64 ((a0.Items.length:Int)+(r2.length:Int)))))>1000000)) then
 some ((⟨0,([]:List aQ)⟩:aM),3)
 else
 (kM k a0).bind fun r3=>
 fJ k (r2.length:Int) 0 0 r3.Base r2 ([]:List aQ) r3.Items
def pZ (k:Nat) (a0:aL):Option (aL×ByteArray×Bool):=
 (dR k a0).bind fun r1=>
 bif (!r1) then
 some ((⟨0,([]:List aR),(⟨#[]⟩:ByteArray),([]:List ByteArray)⟩:aL),(⟨#[]⟩:ByteArray),false)
 else
 (nJ k a0).bind fun r2=>
 bif ((r2.Ready.length:Int)==0) then
 some (r2,(⟨#[]⟩:ByteArray),false)
 else
 (idx r2.Ready 0).bind fun _=>
 (r2.Ready[(Int.toNat 0)]?).bind fun y3=>
 (wnd r2.Ready.length 1 (r2.Ready.length:Int)).bind fun p4=>
 (app 16 ([]:List ByteArray) (iA r2.Ready p4.1 p4.2)).bind fun l5=>
 (m6 k (⟨r2.Next,r2.Held,r2.Open,l5⟩:aL)).bind fun r6=>
 some (r6,y3,true)
def bM:Nat→Int→Int→List aQ→Option (Bool)
 | 0,_,_,_=>none
 | k+1,A,B,C=>
 bif (decide (A<(C.length:Int))) then
 (idx C A).bind fun y2=>
 bif (decide ((y2.Part.Text.size:Int)>20)) then
 some false
 else
 (a6 k y2.Since (-1) 3).bind fun r3=>
 bif (!r3) then
 some false
 else
 bif (decide (A≥8)) then
 bif (y2.Since !=(-1)) then
 some false
 else
 bif y2.Has then
 bif (decide (y2.Since<0)) then
 some false
 else
 bM k (IntKind.wrap .i64 (A+1)) B C
 else
 bM k (IntKind.wrap .i64 (A+1)) B C
 else
 bif y2.Has then
 bif (decide (y2.Since<0)) then
 some false
 else
 bM k (IntKind.wrap .i64 (A+1)) B C
 else
 bM k (IntKind.wrap .i64 (A+1)) B C
 else
 some true
def dC (k:Nat) (a0:aM):Option (Bool):=
 bif (decide ((a0.Items.length:Int)>60)) then
 some false
 else
 (a6 k a0.Base 0 1000000).bind fun r1=>
 bif (!r1) then
 some false
 else
 bif (decide ((IntKind.wrap .i64 (a0.Base+(a0.Items.length:Int)))>1000000)) then
 some false
 else
 bM k 0 a0.Base a0.Items
def rB (k:Nat) (a0:aL) (a1:Int):Option (Bool):=
 (a6 k a1 a0.Next (IntKind.wrap .i64 ((IntKind.wrap .i64 (a0.Next+8))-1))).bind fun r1=>
 bif r1 then
 some (decide (a1≤999999))
 else
 some false
def mQ (k:Nat) (a0:aL) (a1:cA):Option (Bool):=
 bif (decide ((IntKind.wrap .i64 ((a0.Open.size:Int)+(a1.Text.size:Int)))≤200)) then
 bif (!a1.Last) then
 some true
 else
 some (decide ((a0.Ready.length:Int)<4))
 else
 some false
mutual
def eR:Nat→Int→Int→List aR→ByteArray→List ByteArray→Option (Bool)
 | 0,_,_,_,_,_=>none
 | k+1,A,B,C,D,E=>
 bif (decide (A<(E.length:Int))) then
 (idx E A).bind fun y2=>
 bif (decide ((y2.size:Int)>200)) then
 some false
 else
 eR k (IntKind.wrap .i64 (A+1)) B C D E
 else
 bL k 0 B C D E
def bL:Nat→Int→Int→List aR→ByteArray→List ByteArray→Option (Bool)
 | 0,_,_,_,_,_=>none
 | k+1,A,B,C,D,E=>
 bif (decide (A<(C.length:Int))) then
 (idx C A).bind fun y3=>
 (rB k (⟨B,C,D,E⟩:aL) y3.Seq).bind fun r4=>
 bif (!r4) then
 some false
 else
 bif (decide ((y3.Part.Text.size:Int)>20)) then
 some false
 else
 bif (decide (A>0)) then
 (idx C (IntKind.wrap .i64 (A-1))).bind fun y5=>
 bif (decide (y5.Seq≥y3.Seq)) then
 some false
 else
 bif (y3.Seq==B) then
 (mQ k (⟨B,C,D,E⟩:aL) y3.Part).bind fun r6=>
 bif r6 then
 some false
 else
 bL k (IntKind.wrap .i64 (A+1)) B C D E
 else
 bL k (IntKind.wrap .i64 (A+1)) B C D E
 else
 bif (y3.Seq==B) then
 (mQ k (⟨B,C,D,E⟩:aL) y3.Part).bind fun r7=>
 bif r7 then
 some false
 else
 bL k (IntKind.wrap .i64 (A+1)) B C D E
 else
 bL k (IntKind.wrap .i64 (A+1)) B C D E
 else
 some true
end
def gH (k:Nat) (a0:aL):Option (Bool):=
 (a6 k a0.Next 0 1000000).bind fun r1=>
 bif (!r1) then
 some false
 else
 bif (decide ((a0.Held.length:Int)>8)) then
 some false
 else
 bif (decide ((a0.Open.size:Int)>200)) then
 some false
 else
 bif (decide ((a0.Ready.length:Int)>4)) then
 some false
 else
 eR k 0 a0.Next a0.Held a0.Open a0.Ready
def mF (k:Nat) (a0:aM):Option (aM):=
 (app 40 ([]:List aQ) a0.Items).bind fun l1=>
 some (⟨a0.Base,l1⟩:aM)
def oD (k:Nat) (a0:aL):Option (aL):=
 (app 32 ([]:List aR) a0.Held).bind fun l1=>
 (app 16 ([]:List ByteArray) a0.Ready).bind fun l2=>
 some (⟨a0.Next,l1,a0.Open,l2⟩:aL)
mutual
def fN:Nat→Int→Int→List aQ→Int→List Int→Int→List aQ→List aQ→Option (aM×List Int)
 | 0,_,_,_,_,_,_,_,_=>none
 | k+1,A,B,C,D,E,F,G,H=>
 bif (decide (A<(H.length:Int))) then
 bif (decide (A<8)) then
 (idx H A).bind fun _=>
 (H[(Int.toNat A)]?).bind fun y3=>
 bif y3.Has then
 eH k A B C D E F G H
 else
 bif (y3.Since==(-1)) then
 (app 8 E ([(IntKind.wrap .i64 (B+A))]:List Int)).bind fun l4=>
 (idx H A).bind fun _=>
 (H[(Int.toNat A)]?).bind fun y5=>
 eH k A B C D l4 F G (H.set (Int.toNat A) (⟨y5.Part,y5.Has,0⟩:aQ))
 else
 bif (y3.Since==3) then
 (app 8 E ([(IntKind.wrap .i64 (B+A))]:List Int)).bind fun l6=>
 (idx H A).bind fun _=>
 (H[(Int.toNat A)]?).bind fun y7=>
 eH k A B C D l6 F G (H.set (Int.toNat A) (⟨y7.Part,y7.Has,0⟩:aQ))
 else
 (idx H A).bind fun _=>
 (H[(Int.toNat A)]?).bind fun y8=>
 eH k A B C D E F G (H.set (Int.toNat A) (⟨y8.Part,y8.Has,(IntKind.wrap .i64 (y3.Since+1))⟩:aQ))
 else
 some ((⟨F,H⟩:aM),E)
 else
 some ((⟨F,H⟩:aM),E)
def eH:Nat→Int→Int→List aQ→Int→List Int→Int→List aQ→List aQ→Option (aM×List Int)
 | 0,_,_,_,_,_,_,_,_=>none
 | k+1,A,B,C,D,E,F,G,H=>
 fN k (IntKind.wrap .i64 (A+1)) B C D E F G H
end
def pT (k:Nat) (a0:aM):Option (aM×List Int):=
 (dC k a0).bind fun r1=>
 bif (!r1) then
 some ((⟨0,([]:List aQ)⟩:aM),([]:List Int))
 else
 (mF k a0).bind fun r2=>
 fN k 0 a0.Base a0.Items 0 ([]:List Int) r2.Base ([]:List aQ) r2.Items
mutual
def eG:Nat→Int→Int→Int→List aR→ByteArray→List ByteArray→Option (Int×Int)
 | 0,_,_,_,_,_,_=>none
 | k+1,A,B,C,D,E,F=>
 bif (decide (B<(D.length:Int))) then
 fR k A B 1 C C D E F
 else
 some (C,A)
def fR:Nat→Int→Int→Int→Int→Int→List aR→ByteArray→List ByteArray→Option (Int×Int)
 | 0,_,_,_,_,_,_,_,_=>none
 | k+1,A,B,C,D,E,F,G,H=>
 (idx F B).bind fun y2=>
 bif (decide (D<y2.Seq)) then
 fR k A B (IntKind.wrap .i64 (C*2)) (IntKind.wrap .i64 (D+1)) E F G H
 else
 eG k (IntKind.wrap .i64 (A+C)) (IntKind.wrap .i64 (B+1)) E F G H
end
def kC (k:Nat) (a0:aL):Option (Int×Int):=
 (gH k a0).bind fun r1=>
 bif (!r1) then
 some (0,0)
 else
 eG k 0 0 a0.Next a0.Held a0.Open a0.Ready
def hC:Nat→Int→Int→List aQ→Option (Int)
 | 0,_,_,_=>none
 | k+1,A,B,C=>
 bif (decide (A<(C.length:Int))) then
 (idx C A).bind fun y1=>
 bif (decide (y1.Since≥0)) then
 hC k (IntKind.wrap .i64 (A+1)) B C
 else
 some A
 else
 some A
def EZ (k:Nat) (a0:aM):Option (Int):=
 hC k 0 a0.Base a0.Items
mutual
def cX:Nat→Int→Int→Int→Int→List aQ→List aQ→Option (aM)
 | 0,_,_,_,_,_,_=>none
 | k+1,A,B,C,D,E,F=>
 bif (decide (B<8)) then
 (J0 A 2).bind fun q7=>
 bif (q7==1) then
 bif (decide (B<(F.length:Int))) then
 (idx F B).bind fun _=>
 (F[(Int.toNat B)]?).bind fun y8=>
 bif (decide (y8.Since≥0)) then
 (idx F B).bind fun _=>
 (F[(Int.toNat B)]?).bind fun y9=>
 cN k A B C D E (F.set (Int.toNat B) (⟨y9.Part,true,y9.Since⟩:aQ))
 else
 cN k A B C D E F
 else
 cN k A B C D E F
 else
 cN k A B C D E F
 else
 some (⟨D,F⟩:aM)
def cN:Nat→Int→Int→Int→Int→List aQ→List aQ→Option (aM)
 | 0,_,_,_,_,_,_=>none
 | k+1,A,B,C,D,E,F=>
 (UH A 2).bind fun q10=>
 cX k (IntKind.wrap .i64 (q10)) (IntKind.wrap .i64 (B+1)) C D E F
end
def qK (k:Nat) (a0:aM) (a1:Int) (a2:Int):Option (aM):=
 (dC k a0).bind fun r1=>
 bif (!r1) then
 some (⟨0,([]:List aQ)⟩:aM)
 else
 (mF k a0).bind fun r2=>
 bif (decide (a1<a0.Base)) then
 some r2
 else
 (EZ k a0).bind fun r3=>
 bif (decide (a1>(IntKind.wrap .i64 (a0.Base+r3)))) then
 some r2
 else
 (a6 k a2 0 255).bind fun r4=>
 bif (!r4) then
 some r2
 else
 (wnd r2.Items.length (IntKind.wrap .i64 (a1-a0.Base)) (r2.Items.length:Int)).bind fun p5=>
 (app 40 ([]:List aQ) (iA r2.Items p5.1 p5.2)).bind fun l6=>
 cX k a2 0 0 a1 ([]:List aQ) l6
def fZ:Nat→Int→ByteArray→Int→ByteArray→List aR→List ByteArray→List aR→List ByteArray→Option (aL)
 | 0,_,_,_,_,_,_,_,_=>none
 | k+1,A,B,C,D,E,F,G,H=>
 bif (decide ((E.length:Int)>0)) then
 (idx E 0).bind fun _=>
 (E[(Int.toNat 0)]?).bind fun y1=>
 bif (y1.Seq==A) then
 (idx E 0).bind fun _=>
 (E[(Int.toNat 0)]?).bind fun y2=>
 (mQ k (⟨A,E,B,F⟩:aL) y2.Part).bind fun r3=>
 bif r3 then
 (idx E 0).bind fun _=>
 (E[(Int.toNat 0)]?).bind fun y4=>
 (wnd E.length 1 (E.length:Int)).bind fun p5=>
 (app 32 ([]:List aR) (iA E p5.1 p5.2)).bind fun l6=>
 (dK B y4.Part.Text).bind fun t7=>
 bif y4.Part.Last then
 (app 16 F ([t7]:List ByteArray)).bind fun l8=>
 fZ k (IntKind.wrap .i64 (A+1)) (⟨#[]⟩:ByteArray) C D l6 l8 G H
 else
 fZ k (IntKind.wrap .i64 (A+1)) t7 C D l6 F G H
 else
 some (⟨A,E,B,F⟩:aL)
 else
 some (⟨A,E,B,F⟩:aL)
 else
 some (⟨A,E,B,F⟩:aL)
def xN (k:Nat) (a0:aL):Option (aL):=
 fZ k a0.Next a0.Open 0 (⟨#[]⟩:ByteArray) a0.Held a0.Ready ([]:List aR) ([]:List ByteArray)
mutual
def cZ:Nat→Int→Bool→Int→Int→List aR→ByteArray→List ByteArray→ByteArray→Bool→Int→ByteArray→Int→ByteArray→List aR→List aR→List ByteArray→List aR→List ByteArray→Option (aL)
 | 0,_,_,_,_,_,_,_,_,_,_,_,_,_,_,_,_,_,_=>none
 | k+1,A,B,C,D,E,F,G,H,I,J,K,L,M,N,O,P,Q,R=>
 bif (decide (C<(E.length:Int))) then
 (idx E C).bind fun y4=>
 bif (y4.Seq==A) then
 some (⟨L,Q,M,R⟩:aL)
 else
 bif (!B) then
 (idx E C).bind fun y5=>
 bif (decide (y5.Seq>A)) then
 (app 32 N ([(⟨A,(⟨H,I⟩:cA)⟩:aR)]:List aR)).bind fun l6=>
 dQ k A true C D E F G H I J K L M l6 O P Q R
 else
 dQ k A B C D E F G H I J K L M N O P Q R
 else
 dQ k A B C D E F G H I J K L M N O P Q R
 else
 bif (!B) then
 (app 32 N ([(⟨A,(⟨H,I⟩:cA)⟩:aR)]:List aR)).bind fun l7=>
 gQ k J K L M l7 O P Q R
 else
 gQ k J K L M N O P Q R
def dQ:Nat→Int→Bool→Int→Int→List aR→ByteArray→List ByteArray→ByteArray→Bool→Int→ByteArray→Int→ByteArray→List aR→List aR→List ByteArray→List aR→List ByteArray→Option (aL)
 | 0,_,_,_,_,_,_,_,_,_,_,_,_,_,_,_,_,_,_=>none
 | k+1,A,B,C,D,E,F,G,H,I,J,K,L,M,N,O,P,Q,R=>
 (idx E C).bind fun y8=>
 (app 32 N ([y8]:List aR)).bind fun l9=>
 cZ k A B (IntKind.wrap .i64 (C+1)) D E F G H I J K L M l9 O P Q R
def gQ:Nat→Int→ByteArray→Int→ByteArray→List aR→List aR→List ByteArray→List aR→List ByteArray→Option (aL)
 | 0,_,_,_,_,_,_,_,_,_=>none
 | k+1,A,B,C,D,E,F,G,H,I=>
 (xN k (⟨C,E,D,I⟩:aL)).bind fun r10=>
 some r10
end
def qD (k:Nat) (a0:aL) (a1:Int) (a2:cA):Option (aL):=
 (gH k a0).bind fun r1=>
 bif (!r1) then
 some (⟨0,([]:List aR),(⟨#[]⟩:ByteArray),([]:List ByteArray)⟩:aL)
 else
 (oD k a0).bind fun r2=>
 (rB k a0 a1).bind fun r3=>
 bif (!r3) then
 some r2
 else
 bif (decide ((a2.Text.size:Int)>20)) then
 some r2
 else
 cZ k a1 false 0 a0.Next a0.Held a0.Open a0.Ready a2.Text a2.Last 0 (⟨#[]⟩:ByteArray) r2.Next r2.Open ([]:List aR) ([]:List aR) ([]:List ByteArray) r2.Held r2.Ready
def mI:Nat→ByteArray→List cA→Option (List cA)
 | 0,_,_=>none
 | k+1,A,B=>
 bif (decide ((A.size:Int)>20)) then
 (wnd A.size 0 20).bind fun p1=>
 (app 24 B ([(⟨(A.extract p1.1 p1.2),false⟩:cA)]:List cA)).bind fun l2=>
 (wnd A.size 20 (A.size:Int)).bind fun p3=>
 mI k (A.extract p3.1 p3.2) l2
 else
 (app 24 B ([(⟨A,true⟩:cA)]:List cA)).bind fun l4=>
 some l4
def yF (k:Nat) (a0:ByteArray):Option (List cA):=
 bif (decide ((a0.size:Int)>200)) then
 some ([]:List cA)
 else
 mI k a0 ([]:List cA)
def fQ:Nat→Int→Int→List cA→Int→List aQ→List aQ→Option (aM×Int)
 | 0,_,_,_,_,_,_=>none
 | k+1,A,B,C,D,E,F=>
 bif (decide (A<(C.length:Int))) then
 (idx C A).bind fun _=>
 (C[(Int.toNat A)]?).bind fun y4=>
 (app 40 F ([(⟨y4,false,(-1)⟩:aQ)]:List aQ)).bind fun l5=>
 fQ k (IntKind.wrap .i64 (A+1)) B C D E l5
 else
 some ((⟨D,F⟩:aM),0)
def pV (k:Nat) (a0:aM) (a1:ByteArray):Option (aM×Int):=
 (dC k a0).bind fun r1=>
 bif (!r1) then
 some ((⟨0,([]:List aQ)⟩:aM),1)
 else
 bif (decide ((a1.size:Int)>200)) then
 some ((⟨0,([]:List aQ)⟩:aM),1)
 else
 (yF k a1).bind fun r2=>
 bif (decide ((IntKind.wrap .i64 ((a0.Items.length:Int)+(r2.length:Int)))>60)) then
 some ((⟨0,([]:List aQ)⟩:aM),3)
 else
 bif (decide ((IntKind.wrap .i64 (a0.Base+(IntKind.wrap .i64 ((a0.Items.length:Int)+(r2.length:Int)))))>1000000)) then
 some ((⟨0,([]:List aQ)⟩:aM),3)
 else
 (mF k a0).bind fun r3=>
 fQ k 0 0 r2 r3.Base ([]:List aQ) r3.Items
def pR (k:Nat) (a0:aL):Option (aL×ByteArray×Bool):=
 (gH k a0).bind fun r1=>
 bif (!r1) then
 some ((⟨0,([]:List aR),(⟨#[]⟩:ByteArray),([]:List ByteArray)⟩:aL),(⟨#[]⟩:ByteArray),false)
 else
 (oD k a0).bind fun r2=>
 bif ((r2.Ready.length:Int)==0) then
 some (r2,(⟨#[]⟩:ByteArray),false)
 else
 (idx r2.Ready 0).bind fun _=>
 (r2.Ready[(Int.toNat 0)]?).bind fun y3=>
 (wnd r2.Ready.length 1 (r2.Ready.length:Int)).bind fun p4=>
 (app 16 ([]:List ByteArray) (iA r2.Ready p4.1 p4.2)).bind fun l5=>
 (xN k (⟨r2.Next,r2.Held,r2.Open,l5⟩:aL)).bind fun r6=>
 some (r6,y3,true)
def vP:Nat→Int→ByteArray→Option (ByteArray)
 | 0,_,_=>none
 | k+1,A,B=>
 bif (decide (A>0)) then
 (J0 A 10).bind fun q1=>
 (dK (mD ([(IntKind.wrap .u8 (IntKind.wrap .i64 (48+q1)))]:List Int)) B).bind fun t2=>
 (UH A 10).bind fun q3=>
 vP k (IntKind.wrap .i64 (q3)) t2
 else
 (dK (⟨#[109]⟩:ByteArray) B).bind fun t4=>
 some t4
def QG (k:Nat) (a0:Int):Option (ByteArray):=
 bif (decide (a0≤0)) then
 some (⟨#[109,48]⟩:ByteArray)
 else
 vP k a0 (⟨#[]⟩:ByteArray)
def rN (k:Nat) (a0:Int):Option (aN):=
 bif (a0 !=1) then
 bif (a0 !=2) then
 some (⟨0,false,0,0,0,false,(⟨0,([]:List aQ)⟩:aM),(⟨0,([]:List aR),(⟨#[]⟩:ByteArray),([]:List ByteArray)⟩:aL)⟩:aN)
 else
 some (⟨a0,true,1,0,0,false,(⟨0,([]:List aQ)⟩:aM),(⟨0,([]:List aR),(⟨#[]⟩:ByteArray),([]:List ByteArray)⟩:aL)⟩:aN)
 else
 some (⟨a0,true,1,0,0,false,(⟨0,([]:List aQ)⟩:aM),(⟨0,([]:List aR),(⟨#[]⟩:ByteArray),([]:List ByteArray)⟩:aL)⟩:aN)
def qS (k:Nat) (a0:Int):Option (aN):=
 (a6 k a0 1 2).bind fun r1=>
 bif (!r1) then
 some (⟨0,false,0,0,0,false,(⟨0,([]:List aQ)⟩:aM),(⟨0,([]:List aR),(⟨#[]⟩:ByteArray),([]:List ByteArray)⟩:aL)⟩:aN)
 else
 some (⟨a0,true,1,0,0,false,(⟨0,([]:List aQ)⟩:aM),(⟨0,([]:List aR),(⟨#[]⟩:ByteArray),([]:List ByteArray)⟩:aL)⟩:aN)
def uZ (k:Nat) (a0:aM):Option (Bool):=
 bif (a0.Base==0) then
 some ((a0.Items.length:Int)==0)
 else
 some false
def u9 (k:Nat) (a0:aL):Option (Bool):=
 bif (a0.Next==0) then
 bif ((a0.Held.length:Int)==0) then
 bif (a0.Open.toList==(⟨#[]⟩:ByteArray).toList) then
 some ((a0.Ready.length:Int)==0)
 else
 some false
 else
 some false
 else
 some false
def dV (k:Nat) (a0:aN):Option (Bool):=
 bif (a0.Number !=1) then
 bif (a0.Number !=2) then
 some false
 else
 (bR k a0.Life 1 1000).bind fun r1=>
 bif (!r1) then
 some false
 else
 (bR k a0.Peer 0 1000).bind fun r2=>
 bif (!r2) then
 some false
 else
 (bR k a0.Since 0 1000000).bind fun r3=>
 bif (!r3) then
 some false
 else
 (cS k a0.Send).bind fun r4=>
 bif (!r4) then
 some false
 else
 (dR k a0.Take).bind fun r5=>
 bif (!r5) then
 some false
 else
 bif (a0.Peer==0) then
 (uZ k a0.Send).bind fun r6=>
 bif r6 then
 (u9 k a0.Take).bind fun r7=>
 bif (!r7) then
 some false
 else
 bif a0.Up then
 some true
 else
 bif (a0.Peer==0) then
 bif (a0.Since==0) then
 some (!a0.Owes)
 else
 some false
 else
 some false
 else
 some false
 else
 bif a0.Up then
 some true
 else
 bif (a0.Peer==0) then
 bif (a0.Since==0) then
 some (!a0.Owes)
 else
 some false
 else
 some false
 else
 (bR k a0.Life 1 1000).bind fun r8=>
 bif (!r8) then
 some false
 else
 (bR k a0.Peer 0 1000).bind fun r9=>
 bif (!r9) then
 some false
 else
 (bR k a0.Since 0 1000000).bind fun r10=>
 bif (!r10) then
 some false
 else
 (cS k a0.Send).bind fun r11=>
 bif (!r11) then
 some false
 else
 (dR k a0.Take).bind fun r12=>
 bif (!r12) then
 some false
 else
 bif (a0.Peer==0) then
 (uZ k a0.Send).bind fun r13=>
 bif r13 then
 (u9 k a0.Take).bind fun r14=>
 bif (!r14) then
 some false
 else
 bif a0.Up then
 some true
 else
 bif (a0.Peer==0) then
 bif (a0.Since==0) then
 some (!a0.Owes)
 else
 some false
 else
 some false
 else
 some false
 else
 bif a0.Up then
 some true
 else
 bif (a0.Peer==0) then
 bif (a0.Since==0) then
 some (!a0.Owes)
 else
 some false
 else
 some false
def fY (k:Nat) (a0:aN):Option (aN):=
 (kM k a0.Send).bind fun r1=>
 (nJ k a0.Take).bind fun r2=>
 some (⟨a0.Number,a0.Up,a0.Life,a0.Peer,a0.Since,a0.Owes,r1,r2⟩:aN)
mutual
def j0:Nat→Int→Int→Bool→Int→Int→Int→Bool→Int→Int→ByteArray→ByteArray→Int→Int→Bool→Int→Int→Int→Bool→Int→Int→ByteArray→ByteArray→List aQ→List aR→List ByteArray→List aF→List aQ→List aR→List ByteArray→List aF→Option (aY)
 | 0,_,_,_,_,_,_,_,_,_,_,_,_,_,_,_,_,_,_,_,_,_,_,_,_,_,_,_,_,_,_=>none
 | k+1,A,B,C,D,E,F,G,H,I,J,K,L,M,N,O,P,Q,R,S,T,U,V,W,X,Y,Z,x26,x27,x28,x29=>
 bif (P !=0) then
 (qA k (⟨S,x26⟩:aM)).bind fun r3=>
 fS k (r3.2.length:Int) 0 A B C D E F G H I J K L M N O P Q R r3.1.Base T U V r3.2 W X Y Z r3.1.Items x27 x28 x29
 else
 iT k A B C D E F G H I J K L M N O P Q R S T U V W X Y Z x26 x27 x28 x29
def fS:Nat→Int→Int→Int→Int→Bool→Int→Int→Int→Bool→Int→Int→ByteArray→ByteArray→Int→Int→Bool→Int→Int→Int→Bool→Int→Int→ByteArray→ByteArray→List Int→List aQ→List aR→List ByteArray→List aF→List aQ→List aR→List ByteArray→List aF→Option (aY)
 | 0,_,_,_,_,_,_,_,_,_,_,_,_,_,_,_,_,_,_,_,_,_,_,_,_,_,_,_,_,_,_,_,_,_=>none
 | k+1,A,B,C,D,E,F,G,H,I,J,K,L,M,N,O,P,Q,R,S,T,U,V,W,X,Y,Z,x26,x27,x28,x29,x30,x31,x32=>
 bif (decide (B<A)) then
 (idx Y B).bind fun _=>
 (Y[(Int.toNat B)]?).bind fun y4=>
 (idx x29 (IntKind.wrap .i64 (y4-U))).bind fun _=>
 (x29[(Int.toNat (IntKind.wrap .i64 (y4-U)))]?).bind fun y5=>
 (app 80 x32 ([(⟨2,O,Q,R,0,0,y4,y5.Part.Last,y5.Part.Text⟩:aF)]:List aF)).bind fun l6=>
 fS k A (IntKind.wrap .i64 (B+1)) C D E F G H I J K L M N O P Q R S T U V W X Y Z x26 x27 x28 x29 x30 x31 l6
 else
 iT k C D E F G H I J K L M N O P Q R S T U V W X Z x26 x27 x28 x29 x30 x31 x32
def iT:Nat→Int→Int→Bool→Int→Int→Int→Bool→Int→Int→ByteArray→ByteArray→Int→Int→Bool→Int→Int→Int→Bool→Int→Int→ByteArray→ByteArray→List aQ→List aR→List ByteArray→List aF→List aQ→List aR→List ByteArray→List aF→Option (aY)
 | 0,_,_,_,_,_,_,_,_,_,_,_,_,_,_,_,_,_,_,_,_,_,_,_,_,_,_,_,_,_,_=>none
 | k+1,A,B,C,D,E,F,G,H,I,J,K,L,M,N,O,P,Q,R,S,T,U,V,W,X,Y,Z,x26,x27,x28,x29=>
 bif R then
 (kJ k (⟨T,x27,U,x28⟩:aL)).bind fun r7=>
 (app 80 x29 ([(⟨1,M,O,P,r7.1,r7.2,0,false,(⟨#[]⟩:ByteArray)⟩:aF)]:List aF)).bind fun l8=>
 eD k A B C D E F G H I J K L M N O P 0 false S T U V W X Y Z x26 x27 x28 l8
 else
 bif (decide (Q≥6)) then
 (kJ k (⟨T,x27,U,x28⟩:aL)).bind fun r9=>
 (app 80 x29 ([(⟨1,M,O,P,r9.1,r9.2,0,false,(⟨#[]⟩:ByteArray)⟩:aF)]:List aF)).bind fun l10=>
 eD k A B C D E F G H I J K L M N O P 0 false S T U V W X Y Z x26 x27 x28 l10
 else
 eD k A B C D E F G H I J K L M N O P Q R S T U V W X Y Z x26 x27 x28 x29
def eD:Nat→Int→Int→Bool→Int→Int→Int→Bool→Int→Int→ByteArray→ByteArray→Int→Int→Bool→Int→Int→Int→Bool→Int→Int→ByteArray→ByteArray→List aQ→List aR→List ByteArray→List aF→List aQ→List aR→List ByteArray→List aF→Option (aY)
 | 0,_,_,_,_,_,_,_,_,_,_,_,_,_,_,_,_,_,_,_,_,_,_,_,_,_,_,_,_,_,_=>none
 | k+1,A,B,C,D,E,F,G,H,I,J,K,L,M,N,O,P,Q,R,S,T,U,V,W,X,Y,Z,x26,x27,x28,x29=>
 some (⟨L,(⟨M,N,O,P,Q,R,(⟨S,x26⟩:aM),(⟨T,x27,U,x28⟩:aL)⟩:aN),x29,V⟩:aY)
end
def sP (k:Nat) (a0:aN):Option (aY):=
 (dV k a0).bind fun r1=>
 bif (!r1) then
 some (⟨1,(⟨0,false,0,0,0,false,(⟨0,([]:List aQ)⟩:aM),(⟨0,([]:List aR),(⟨#[]⟩:ByteArray),([]:List ByteArray)⟩:aL)⟩:aN),([]:List aF),(⟨#[]⟩:ByteArray)⟩:aY)
 else
 (fY k a0).bind fun r2=>
 bif (!r2.Up) then
 some (⟨0,r2,([]:List aF),(⟨#[]⟩:ByteArray)⟩:aY)
 else
 bif (decide (r2.Since<1000000)) then
 j0 k 0 0 false 0 0 0 false 0 0 (⟨#[]⟩:ByteArray) (⟨#[]⟩:ByteArray) 0 r2.Number r2.Up r2.Life r2.Peer (IntKind.wrap .i64 (r2.Since+1)) r2.Owes r2.Send.Base r2.Take.Next r2.Take.Open (⟨#[]⟩:ByteArray) ([]:List aQ) ([]:List aR) ([]:List ByteArray) ([]:List aF) r2.Send.Items r2.Take.Held r2.Take.Ready ([]:List aF)
 else
 j0 k 0 0 false 0 0 0 false 0 0 (⟨#[]⟩:ByteArray) (⟨#[]⟩:ByteArray) 0 r2.Number r2.Up r2.Life r2.Peer r2.Since r2.Owes r2.Send.Base r2.Take.Next r2.Take.Open (⟨#[]⟩:ByteArray) ([]:List aQ) ([]:List aR) ([]:List ByteArray) ([]:List aF) r2.Send.Items r2.Take.Held r2.Take.Ready ([]:List aF)
mutual
def jW:Nat→Int→Int→Int→Int→Int→Int→Int→Bool→ByteArray→Int→Int→Bool→Int→Int→Int→Bool→Int→Int→ByteArray→ByteArray→Int→Int→Bool→Int→Int→Int→Bool→Int→Int→ByteArray→ByteArray→List aQ→List aR→List ByteArray→List aF→List aQ→List aR→List ByteArray→List aF→Option (aY)
 | 0,_,_,_,_,_,_,_,_,_,_,_,_,_,_,_,_,_,_,_,_,_,_,_,_,_,_,_,_,_,_,_,_,_,_,_,_,_,_,_=>none
 | k+1,A,B,C,D,E,F,G,H,I,J,K,L,M,N,O,P,Q,R,S,T,U,V,W,X,Y,Z,x26,x27,x28,x29,x30,x31,x32,x33,x34,x35,x36,x37,x38=>
 bif (D !=X) then
 some (⟨U,(⟨V,W,X,Y,Z,true,(⟨x27,x35⟩:aM),(⟨x28,x36,x29,x37⟩:aL)⟩:aN),x38,x30⟩:aY)
 else
 bif (A==1) then
 (qH k (⟨x27,x35⟩:aM) E F).bind fun r4=>
 iW k J K L M N O P Q R S T U V W X Y Z x26 r4.Base x28 x29 x30 x31 x32 x33 x34 r4.Items x36 x37 x38
 else
 (qF k (⟨x28,x36,x29,x37⟩:aL) G (⟨I,H⟩:cA)).bind fun r5=>
 iW k J K L M N O P Q R S T U V W X Y Z true x27 r5.Next r5.Open x30 x31 x32 x33 x34 x35 r5.Held r5.Ready x38
def iW:Nat→Int→Int→Bool→Int→Int→Int→Bool→Int→Int→ByteArray→ByteArray→Int→Int→Bool→Int→Int→Int→Bool→Int→Int→ByteArray→ByteArray→List aQ→List aR→List ByteArray→List aF→List aQ→List aR→List ByteArray→List aF→Option (aY)
 | 0,_,_,_,_,_,_,_,_,_,_,_,_,_,_,_,_,_,_,_,_,_,_,_,_,_,_,_,_,_,_=>none
 | k+1,A,B,C,D,E,F,G,H,I,J,K,L,M,N,O,P,Q,R,S,T,U,V,W,X,Y,Z,x26,x27,x28,x29=>
 some (⟨L,(⟨M,N,O,P,Q,R,(⟨S,x26⟩:aM),(⟨T,x27,U,x28⟩:aL)⟩:aN),x29,V⟩:aY)
end
def rY (k:Nat) (a0:aN) (a1:aF):Option (aY):=
 (dV k a0).bind fun r1=>
 bif (!r1) then
 some (⟨1,(⟨0,false,0,0,0,false,(⟨0,([]:List aQ)⟩:aM),(⟨0,([]:List aR),(⟨#[]⟩:ByteArray),([]:List ByteArray)⟩:aL)⟩:aN),([]:List aF),(⟨#[]⟩:ByteArray)⟩:aY)
 else
 (fY k a0).bind fun r2=>
 bif (!r2.Up) then
 some (⟨0,r2,([]:List aF),(⟨#[]⟩:ByteArray)⟩:aY)
 else
 (cL k a1).bind fun r3=>
 bif (!r3) then
 some (⟨0,r2,([]:List aF),(⟨#[]⟩:ByteArray)⟩:aY)
 else
 bif (a1.From==r2.Number) then
 some (⟨0,r2,([]:List aF),(⟨#[]⟩:ByteArray)⟩:aY)
 else
 bif (decide (a1.Mine<r2.Peer)) then
 some (⟨0,r2,([]:List aF),(⟨#[]⟩:ByteArray)⟩:aY)
 else
 bif (decide (a1.Mine>r2.Peer)) then
 jW k a1.Kind a1.From a1.Mine a1.Yours a1.Next a1.Mask a1.Seq a1.Last a1.Part 0 0 false 0 0 0 false 0 0 (⟨#[]⟩:ByteArray) (⟨#[]⟩:ByteArray) 0 r2.Number r2.Up r2.Life a1.Mine r2.Since true 0 0 (⟨#[]⟩:ByteArray) (⟨#[]⟩:ByteArray) ([]:List aQ) ([]:List aR) ([]:List ByteArray) ([]:List aF) ([]:List aQ) ([]:List aR) ([]:List ByteArray) ([]:List aF)
 else
 jW k a1.Kind a1.From a1.Mine a1.Yours a1.Next a1.Mask a1.Seq a1.Last a1.Part 0 0 false 0 0 0 false 0 0 (⟨#[]⟩:ByteArray) (⟨#[]⟩:ByteArray) 0 r2.Number r2.Up r2.Life r2.Peer r2.Since r2.Owes r2.Send.Base r2.Take.Next r2.Take.Open (⟨#[]⟩:ByteArray) ([]:List aQ) ([]:List aR) ([]:List ByteArray) ([]:List aF) r2.Send.Items r2.Take.Held r2.Take.Ready ([]:List aF)
def sM (k:Nat) (a0:aN):Option (aN):=
 (dV k a0).bind fun r1=>
 bif (!r1) then
 some (⟨0,false,0,0,0,false,(⟨0,([]:List aQ)⟩:aM),(⟨0,([]:List aR),(⟨#[]⟩:ByteArray),([]:List ByteArray)⟩:aL)⟩:aN)
 else
 some (⟨a0.Number,false,a0.Life,0,0,false,(⟨0,([]:List aQ)⟩:aM),(⟨0,([]:List aR),(⟨#[]⟩:ByteArray),([]:List ByteArray)⟩:aL)⟩:aN)
def sV (k:Nat) (a0:aN):Option (aN):=
 (dV k a0).bind fun r1=>
 bif (!r1) then
 some (⟨0,false,0,0,0,false,(⟨0,([]:List aQ)⟩:aM),(⟨0,([]:List aR),(⟨#[]⟩:ByteArray),([]:List ByteArray)⟩:aL)⟩:aN)
 else
 bif a0.Up then
 (fY k a0).bind fun r2=>
 some r2
 else
 bif (a0.Life==1000) then
 (fY k a0).bind fun r3=>
 some r3
 else
 some (⟨a0.Number,true,(IntKind.wrap .i64 (a0.Life+1)),0,0,false,(⟨0,([]:List aQ)⟩:aM),(⟨0,([]:List aR),(⟨#[]⟩:ByteArray),([]:List ByteArray)⟩:aL)⟩:aN)
def fW (k:Nat) (a0:aN) (a1:ByteArray):Option (aY):=
 (dV k a0).bind fun r1=>
 bif (!r1) then
 some (⟨1,(⟨0,false,0,0,0,false,(⟨0,([]:List aQ)⟩:aM),(⟨0,([]:List aR),(⟨#[]⟩:ByteArray),([]:List ByteArray)⟩:aL)⟩:aN),([]:List aF),(⟨#[]⟩:ByteArray)⟩:aY)
 else
 bif (!a0.Up) then
 some (⟨2,(⟨0,false,0,0,0,false,(⟨0,([]:List aQ)⟩:aM),(⟨0,([]:List aR),(⟨#[]⟩:ByteArray),([]:List ByteArray)⟩:aL)⟩:aN),([]:List aF),(⟨#[]⟩:ByteArray)⟩:aY)
 else
 bif (a0.Peer==0) then
 some (⟨2,(⟨0,false,0,0,0,false,(⟨0,([]:List aQ)⟩:aM),(⟨0,([]:List aR),(⟨#[]⟩:ByteArray),([]:List ByteArray)⟩:aL)⟩:aN),([]:List aF),(⟨#[]⟩:ByteArray)⟩:aY)
 else
 (pS k a0.Send a1).bind fun r2=>
 bif (r2.2 !=0) then
 some (⟨r2.2,(⟨0,false,0,0,0,false,(⟨0,([]:List aQ)⟩:aM),(⟨0,([]:List aR),(⟨#[]⟩:ByteArray),([]:List ByteArray)⟩:aL)⟩:aN),([]:List aF),(⟨#[]⟩:ByteArray)⟩:aY)
 else
 (fY k a0).bind fun r3=>
 some (⟨0,(⟨r3.Number,r3.Up,r3.Life,r3.Peer,r3.Since,r3.Owes,r2.1,r3.Take⟩:aN),([]:List aF),(⟨#[]⟩:ByteArray)⟩:aY)
def mT (k:Nat) (a0:aN):Option (aY):=
 (dV k a0).bind fun r1=>
 bif (!r1) then
 some (⟨1,(⟨0,false,0,0,0,false,(⟨0,([]:List aQ)⟩:aM),(⟨0,([]:List aR),(⟨#[]⟩:ByteArray),([]:List ByteArray)⟩:aL)⟩:aN),([]:List aF),(⟨#[]⟩:ByteArray)⟩:aY)
 else
 bif (!a0.Up) then
 some (⟨2,(⟨0,false,0,0,0,false,(⟨0,([]:List aQ)⟩:aM),(⟨0,([]:List aR),(⟨#[]⟩:ByteArray),([]:List ByteArray)⟩:aL)⟩:aN),([]:List aF),(⟨#[]⟩:ByteArray)⟩:aY)
 else
 (pZ k a0.Take).bind fun r2=>
 bif (!r2.2.2) then
 some (⟨4,(⟨0,false,0,0,0,false,(⟨0,([]:List aQ)⟩:aM),(⟨0,([]:List aR),(⟨#[]⟩:ByteArray),([]:List ByteArray)⟩:aL)⟩:aN),([]:List aF),(⟨#[]⟩:ByteArray)⟩:aY)
 else
 (fY k a0).bind fun r3=>
 some (⟨0,(⟨r3.Number,r3.Up,r3.Life,r3.Peer,r3.Since,true,r3.Send,r2.1⟩:aN),([]:List aF),r2.2.1⟩:aY)
def pX (k:Nat) (a0:aM):Option (Bool):=
 bif (a0.Base==0) then
 some ((a0.Items.length:Int)==0)
 else
 some false
def qC (k:Nat) (a0:aL):Option (Bool):=
 bif (a0.Next==0) then
 bif ((a0.Held.length:Int)==0) then
 bif (a0.Open.toList==(⟨#[]⟩:ByteArray).toList) then
 some ((a0.Ready.length:Int)==0)
 else
 some false
 else
 some false
 else
 some false
def dT (k:Nat) (a0:aN):Option (Bool):=
 (a6 k a0.Number 1 2).bind fun r1=>
 bif (!r1) then
 some false
 else
 (a6 k a0.Life 1 1000).bind fun r2=>
 bif (!r2) then
 some false
 else
 (a6 k a0.Peer 0 1000).bind fun r3=>
 bif (!r3) then
 some false
 else
 (a6 k a0.Since 0 1000000).bind fun r4=>
 bif (!r4) then
 some false
 else
 (dC k a0.Send).bind fun r5=>
 bif (!r5) then
 some false
 else
 (gH k a0.Take).bind fun r6=>
 bif (!r6) then
 some false
 else
 bif (a0.Peer==0) then
 (pX k a0.Send).bind fun r7=>
 bif (!r7) then
 some false
 else
 (qC k a0.Take).bind fun r8=>
 bif (!r8) then
 some false
 else
 bif a0.Up then
 some true
 else
 bif (a0.Peer==0) then
 bif (a0.Since==0) then
 some (!a0.Owes)
 else
 some false
 else
 some false
 else
 bif a0.Up then
 some true
 else
 bif (a0.Peer==0) then
 bif (a0.Since==0) then
 some (!a0.Owes)
 else
 some false
 else
 some false
def gK (k:Nat) (a0:aN):Option (aN):=
 (mF k a0.Send).bind fun r1=>
 (oD k a0.Take).bind fun r2=>
 some (⟨a0.Number,a0.Up,a0.Life,a0.Peer,a0.Since,a0.Owes,r1,r2⟩:aN)
mutual
def jS:Nat→Int→Int→Bool→Int→Int→Int→Bool→Int→Int→ByteArray→ByteArray→Int→Bool→Int→Int→Int→Bool→Int→Int→ByteArray→List aF→List aQ→List aR→List ByteArray→List aF→List aQ→List aR→List ByteArray→Option (aY)
 | 0,_,_,_,_,_,_,_,_,_,_,_,_,_,_,_,_,_,_,_,_,_,_,_,_,_,_,_,_=>none
 | k+1,A,B,C,D,E,F,G,H,I,J,K,L,M,N,O,P,Q,R,S,T,U,V,W,X,Y,Z,x26,x27=>
 bif (O !=0) then
 (pT k (⟨R,Z⟩:aM)).bind fun r3=>
 fU k 0 A B C D E F G H I J K L M N O P Q r3.1.Base S T U r3.1.Base r3.2 V W X Y r3.1.Items x26 x27
 else
 iY k A B C D E F G H I J K L M N O P Q R S T U V W X Y Z x26 x27
def fU:Nat→Int→Int→Int→Bool→Int→Int→Int→Bool→Int→Int→ByteArray→ByteArray→Int→Bool→Int→Int→Int→Bool→Int→Int→ByteArray→List aF→Int→List Int→List aQ→List aR→List ByteArray→List aF→List aQ→List aR→List ByteArray→Option (aY)
 | 0,_,_,_,_,_,_,_,_,_,_,_,_,_,_,_,_,_,_,_,_,_,_,_,_,_,_,_,_,_,_,_=>none
 | k+1,A,B,C,D,E,F,G,H,I,J,K,L,M,N,O,P,Q,R,S,T,U,V,W,X,Y,Z,x26,x27,x28,x29,x30=>
 bif (decide (A<(X.length:Int))) then
 (idx X A).bind fun _=>
 (X[(Int.toNat A)]?).bind fun y4=>
 (idx x28 (IntKind.wrap .i64 (y4-W))).bind fun _=>
 (x28[(Int.toNat (IntKind.wrap .i64 (y4-W)))]?).bind fun y5=>
 (idx X A).bind fun _=>
 (X[(Int.toNat A)]?).bind fun y6=>
 (app 80 V ([(⟨2,M,O,P,0,0,y6,y5.Part.Last,y5.Part.Text⟩:aF)]:List aF)).bind fun l7=>
 fU k (IntKind.wrap .i64 (A+1)) B C D E F G H I J K L M N O P Q R S T U l7 W X Y Z x26 x27 x28 x29 x30
 else
 iY k B C D E F G H I J K L M N O P Q R S T U V Y Z x26 x27 x28 x29 x30
def iY:Nat→Int→Int→Bool→Int→Int→Int→Bool→Int→Int→ByteArray→ByteArray→Int→Bool→Int→Int→Int→Bool→Int→Int→ByteArray→List aF→List aQ→List aR→List ByteArray→List aF→List aQ→List aR→List ByteArray→Option (aY)
 | 0,_,_,_,_,_,_,_,_,_,_,_,_,_,_,_,_,_,_,_,_,_,_,_,_,_,_,_,_=>none
 | k+1,A,B,C,D,E,F,G,H,I,J,K,L,M,N,O,P,Q,R,S,T,U,V,W,X,Y,Z,x26,x27=>
 bif Q then
 (kC k (⟨S,x26,T,x27⟩:aL)).bind fun r8=>
 (app 80 U ([(⟨1,L,N,O,r8.1,r8.2,0,false,(⟨#[]⟩:ByteArray)⟩:aF)]:List aF)).bind fun l9=>
 eM k A B C D E F G H I J K L M N O 0 false R S T l9 V W X Y Z x26 x27
 else
 bif (decide (P≥6)) then
 (kC k (⟨S,x26,T,x27⟩:aL)).bind fun r10=>
 (app 80 U ([(⟨1,L,N,O,r10.1,r10.2,0,false,(⟨#[]⟩:ByteArray)⟩:aF)]:List aF)).bind fun l11=>
 eM k A B C D E F G H I J K L M N O 0 false R S T l11 V W X Y Z x26 x27
 else
 eM k A B C D E F G H I J K L M N O P Q R S T U V W X Y Z x26 x27
def eM:Nat→Int→Int→Bool→Int→Int→Int→Bool→Int→Int→ByteArray→ByteArray→Int→Bool→Int→Int→Int→Bool→Int→Int→ByteArray→List aF→List aQ→List aR→List ByteArray→List aF→List aQ→List aR→List ByteArray→Option (aY)
 | 0,_,_,_,_,_,_,_,_,_,_,_,_,_,_,_,_,_,_,_,_,_,_,_,_,_,_,_,_=>none
 | k+1,A,B,C,D,E,F,G,H,I,J,K,L,M,N,O,P,Q,R,S,T,U,V,W,X,Y,Z,x26,x27=>
 some (⟨0,(⟨L,M,N,O,P,Q,(⟨R,Z⟩:aM),(⟨S,x26,T,x27⟩:aL)⟩:aN),U,(⟨#[]⟩:ByteArray)⟩:aY)
end
def sE (k:Nat) (a0:aN):Option (aY):=
 (dT k a0).bind fun r1=>
 bif (!r1) then
 some (⟨1,(⟨0,false,0,0,0,false,(⟨0,([]:List aQ)⟩:aM),(⟨0,([]:List aR),(⟨#[]⟩:ByteArray),([]:List ByteArray)⟩:aL)⟩:aN),([]:List aF),(⟨#[]⟩:ByteArray)⟩:aY)
 else
 (gK k a0).bind fun r2=>
 bif (!r2.Up) then
 some (⟨0,r2,([]:List aF),(⟨#[]⟩:ByteArray)⟩:aY)
 else
 bif (decide (r2.Since<1000000)) then
 jS k 0 0 false 0 0 0 false 0 0 (⟨#[]⟩:ByteArray) (⟨#[]⟩:ByteArray) r2.Number r2.Up r2.Life r2.Peer (IntKind.wrap .i64 (r2.Since+1)) r2.Owes r2.Send.Base r2.Take.Next r2.Take.Open ([]:List aF) ([]:List aQ) ([]:List aR) ([]:List ByteArray) ([]:List aF) r2.Send.Items r2.Take.Held r2.Take.Ready
 else
 jS k 0 0 false 0 0 0 false 0 0 (⟨#[]⟩:ByteArray) (⟨#[]⟩:ByteArray) r2.Number r2.Up r2.Life r2.Peer r2.Since r2.Owes r2.Send.Base r2.Take.Next r2.Take.Open ([]:List aF) ([]:List aQ) ([]:List aR) ([]:List ByteArray) ([]:List aF) r2.Send.Items r2.Take.Held r2.Take.Ready
def iR:Nat→Int→Int→Int→Int→Int→Int→Int→Bool→ByteArray→Int→Int→Bool→Int→Int→Int→Bool→Int→Int→ByteArray→ByteArray→Int→Bool→Int→Int→Int→Bool→Int→Int→ByteArray→List aQ→List aR→List ByteArray→List aF→List aQ→List aR→List ByteArray→Option (aY)
 | 0,_,_,_,_,_,_,_,_,_,_,_,_,_,_,_,_,_,_,_,_,_,_,_,_,_,_,_,_,_,_,_,_,_,_,_,_=>none
 | k+1,A,B,C,D,E,F,G,H,I,J,K,L,M,N,O,P,Q,R,S,T,U,V,W,X,Y,Z,x26,x27,x28,x29,x30,x31,x32,x33,x34,x35=>
 bif (D !=W) then
 some (⟨0,(⟨U,V,W,X,Y,true,(⟨x26,x33⟩:aM),(⟨x27,x34,x28,x35⟩:aL)⟩:aN),([]:List aF),(⟨#[]⟩:ByteArray)⟩:aY)
 else
 bif (A==1) then
 (qK k (⟨x26,x33⟩:aM) E F).bind fun r4=>
 some (⟨0,(⟨U,V,W,X,Y,Z,r4,(⟨x27,x34,x28,x35⟩:aL)⟩:aN),([]:List aF),(⟨#[]⟩:ByteArray)⟩:aY)
 else
 (qD k (⟨x27,x34,x28,x35⟩:aL) G (⟨I,H⟩:cA)).bind fun r5=>
 some (⟨0,(⟨U,V,W,X,Y,true,(⟨x26,x33⟩:aM),r5⟩:aN),([]:List aF),(⟨#[]⟩:ByteArray)⟩:aY)
def sB (k:Nat) (a0:aN) (a1:aF):Option (aY):=
 (dT k a0).bind fun r1=>
 bif (!r1) then
 some (⟨1,(⟨0,false,0,0,0,false,(⟨0,([]:List aQ)⟩:aM),(⟨0,([]:List aR),(⟨#[]⟩:ByteArray),([]:List ByteArray)⟩:aL)⟩:aN),([]:List aF),(⟨#[]⟩:ByteArray)⟩:aY)
 else
 (gK k a0).bind fun r2=>
 bif (!r2.Up) then
 some (⟨0,r2,([]:List aF),(⟨#[]⟩:ByteArray)⟩:aY)
 else
 (oZ k a1).bind fun r3=>
 bif (!r3) then
 some (⟨0,r2,([]:List aF),(⟨#[]⟩:ByteArray)⟩:aY)
 else
 bif (a1.From==r2.Number) then
 some (⟨0,r2,([]:List aF),(⟨#[]⟩:ByteArray)⟩:aY)
 else
 bif (decide (a1.Mine<r2.Peer)) then
 some (⟨0,r2,([]:List aF),(⟨#[]⟩:ByteArray)⟩:aY)
 else
 bif (decide (a1.Mine>r2.Peer)) then
 iR k a1.Kind a1.From a1.Mine a1.Yours a1.Next a1.Mask a1.Seq a1.Last a1.Part 0 0 false 0 0 0 false 0 0 (⟨#[]⟩:ByteArray) (⟨#[]⟩:ByteArray) r2.Number r2.Up r2.Life a1.Mine r2.Since true 0 0 (⟨#[]⟩:ByteArray) ([]:List aQ) ([]:List aR) ([]:List ByteArray) ([]:List aF) ([]:List aQ) ([]:List aR) ([]:List ByteArray)
 else
 iR k a1.Kind a1.From a1.Mine a1.Yours a1.Next a1.Mask a1.Seq a1.Last a1.Part 0 0 false 0 0 0 false 0 0 (⟨#[]⟩:ByteArray) (⟨#[]⟩:ByteArray) r2.Number r2.Up r2.Life r2.Peer r2.Since r2.Owes r2.Send.Base r2.Take.Next r2.Take.Open ([]:List aQ) ([]:List aR) ([]:List ByteArray) ([]:List aF) r2.Send.Items r2.Take.Held r2.Take.Ready
def sC (k:Nat) (a0:aN):Option (aN):=
 (dT k a0).bind fun r1=>
 bif (!r1) then
 some (⟨0,false,0,0,0,false,(⟨0,([]:List aQ)⟩:aM),(⟨0,([]:List aR),(⟨#[]⟩:ByteArray),([]:List ByteArray)⟩:aL)⟩:aN)
 else
 some (⟨a0.Number,false,a0.Life,0,0,false,(⟨0,([]:List aQ)⟩:aM),(⟨0,([]:List aR),(⟨#[]⟩:ByteArray),([]:List ByteArray)⟩:aL)⟩:aN)
def sK (k:Nat) (a0:aN):Option (aN):=
 (dT k a0).bind fun r1=>
 bif (!r1) then
 some (⟨0,false,0,0,0,false,(⟨0,([]:List aQ)⟩:aM),(⟨0,([]:List aR),(⟨#[]⟩:ByteArray),([]:List ByteArray)⟩:aL)⟩:aN)
 else
 bif a0.Up then
 (gK k a0).bind fun r2=>
 some r2
 else
 bif (decide (a0.Life≥1000)) then
 (gK k a0).bind fun r3=>
 some r3
 else
 some (⟨a0.Number,true,(IntKind.wrap .i64 (a0.Life+1)),0,0,false,(⟨0,([]:List aQ)⟩:aM),(⟨0,([]:List aR),(⟨#[]⟩:ByteArray),([]:List ByteArray)⟩:aL)⟩:aN)
def jR (k:Nat) (a0:aN) (a1:ByteArray):Option (aY):=
 (dT k a0).bind fun r1=>
 bif (!r1) then
 some (⟨1,(⟨0,false,0,0,0,false,(⟨0,([]:List aQ)⟩:aM),(⟨0,([]:List aR),(⟨#[]⟩:ByteArray),([]:List ByteArray)⟩:aL)⟩:aN),([]:List aF),(⟨#[]⟩:ByteArray)⟩:aY)
 else
 bif (!a0.Up) then
 some (⟨2,(⟨0,false,0,0,0,false,(⟨0,([]:List aQ)⟩:aM),(⟨0,([]:List aR),(⟨#[]⟩:ByteArray),([]:List ByteArray)⟩:aL)⟩:aN),([]:List aF),(⟨#[]⟩:ByteArray)⟩:aY)
 else
 bif (a0.Peer==0) then
 some (⟨2,(⟨0,false,0,0,0,false,(⟨0,([]:List aQ)⟩:aM),(⟨0,([]:List aR),(⟨#[]⟩:ByteArray),([]:List ByteArray)⟩:aL)⟩:aN),([]:List aF),(⟨#[]⟩:ByteArray)⟩:aY)
 else
 (pV k a0.Send a1).bind fun r2=>
 bif (r2.2 !=0) then
 some (⟨r2.2,(⟨0,false,0,0,0,false,(⟨0,([]:List aQ)⟩:aM),(⟨0,([]:List aR),(⟨#[]⟩:ByteArray),([]:List ByteArray)⟩:aL)⟩:aN),([]:List aF),(⟨#[]⟩:ByteArray)⟩:aY)
 else
 (gK k a0).bind fun r3=>
 some (⟨0,(⟨r3.Number,r3.Up,r3.Life,r3.Peer,r3.Since,r3.Owes,r2.1,r3.Take⟩:aN),([]:List aF),(⟨#[]⟩:ByteArray)⟩:aY)
def oT (k:Nat) (a0:aN):Option (aY):=
 (dT k a0).bind fun r1=>
 bif (!r1) then
 some (⟨1,(⟨0,false,0,0,0,false,(⟨0,([]:List aQ)⟩:aM),(⟨0,([]:List aR),(⟨#[]⟩:ByteArray),([]:List ByteArray)⟩:aL)⟩:aN),([]:List aF),(⟨#[]⟩:ByteArray)⟩:aY)
 else
 bif (!a0.Up) then
 some (⟨2,(⟨0,false,0,0,0,false,(⟨0,([]:List aQ)⟩:aM),(⟨0,([]:List aR),(⟨#[]⟩:ByteArray),([]:List ByteArray)⟩:aL)⟩:aN),([]:List aF),(⟨#[]⟩:ByteArray)⟩:aY)
 else
 (pR k a0.Take).bind fun r2=>
 bif (!r2.2.2) then
 some (⟨4,(⟨0,false,0,0,0,false,(⟨0,([]:List aQ)⟩:aM),(⟨0,([]:List aR),(⟨#[]⟩:ByteArray),([]:List ByteArray)⟩:aL)⟩:aN),([]:List aF),(⟨#[]⟩:ByteArray)⟩:aY)
 else
 (gK k a0).bind fun r3=>
 some (⟨0,(⟨r3.Number,r3.Up,r3.Life,r3.Peer,r3.Since,true,r3.Send,r2.1⟩:aN),([]:List aF),r2.2.1⟩:aY)
end Km.X
