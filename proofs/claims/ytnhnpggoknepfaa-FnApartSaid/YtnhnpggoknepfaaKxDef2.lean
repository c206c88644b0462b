/- A part of the proof of FnApart: the functions that it reads off the program. There is no condition. -/
import Derived.Test.YtnhnpggoknepfaaKxDef1
namespace Km.X
open Go Km
set_option linter.unusedVariables false
set_option maxRecDepth 100000
end Km.X
namespace Km.X
open Go Km
set_option linter.unusedVariables false
set_option maxRecDepth 100000
noncomputable def eJ_:Nat→List Int→Option (as_)
  | 0,_=>none
  | k+1,x0=>
    some (⟨x0,0⟩:as_)
noncomputable def iz_ (k:Nat) (a0:List Int):Option (as_):=
  bif (decide ((a0.length:Int)>2000)) then
    (wnd a0.length 0 2000).bind fun p1=>
    eJ_ k (dT_ a0 p1.1 p1.2)
  else
    eJ_ k a0
noncomputable def ah_ (k:Nat) (a0:as_) (a1:Int):Option (Int×as_):=
  bif (decide (a1<1)) then
    some (0,(⟨a0.b,(IntKind.wrap .i64 (a0.p+1))⟩:as_))
  else
    bif ((a0.b.length:Int)==0) then
      some (0,(⟨a0.b,(IntKind.wrap .i64 (a0.p+1))⟩:as_))
    else
      bif (decide ((IntKind.wrap .i64 ((IntKind.wrap .i64 (a0.p+1))-1))<(a0.b.length:Int))) then
        (idx a0.b (IntKind.wrap .i64 ((IntKind.wrap .i64 (a0.p+1))-1))).bind fun y1=>
        (ql_ (IntKind.wrap .i64 y1) a1).bind fun q2=>
        some (q2,(⟨a0.b,(IntKind.wrap .i64 (a0.p+1))⟩:as_))
      else
        (ql_ (IntKind.wrap .i64 ((IntKind.wrap .i64 (a0.p+1))-1)) (a0.b.length:Int)).bind fun q3=>
        (idx a0.b q3).bind fun y4=>
        (ql_ (IntKind.wrap .i64 ((IntKind.wrap .i64 ((IntKind.wrap .i64 ((IntKind.wrap .i64 (a0.p+1))-1))*7))+3)) (a0.b.length:Int)).bind fun q5=>
        (idx a0.b q5).bind fun y6=>
        (xa_ (IntKind.wrap .i64 ((IntKind.wrap .i64 (a0.p+1))-1)) (a0.b.length:Int)).bind fun q7=>
        (xa_ (IntKind.wrap .i64 ((IntKind.wrap .i64 ((IntKind.wrap .i64 ((IntKind.wrap .i64 ((IntKind.wrap .i64 y4)*131))+(IntKind.wrap .i64 ((IntKind.wrap .i64 y6)*1117))))+(IntKind.wrap .i64 ((IntKind.wrap .i64 ((IntKind.wrap .i64 (a0.p+1))-1))*29))))+(IntKind.wrap .i64 ((IntKind.wrap .i64 (q7))*53)))) 64).bind fun q8=>
        (ql_ (iP_ .i64 (IntKind.wrap .i64 ((IntKind.wrap .i64 ((IntKind.wrap .i64 ((IntKind.wrap .i64 ((IntKind.wrap .i64 y4)*131))+(IntKind.wrap .i64 ((IntKind.wrap .i64 y6)*1117))))+(IntKind.wrap .i64 ((IntKind.wrap .i64 ((IntKind.wrap .i64 (a0.p+1))-1))*29))))+(IntKind.wrap .i64 ((IntKind.wrap .i64 (q7))*53)))) (IntKind.wrap .i64 (q8))) a1).bind fun q9=>
        some (q9,(⟨a0.b,(IntKind.wrap .i64 (a0.p+1))⟩:as_))
mutual
noncomputable def cZ_:Nat→ByteArray→Int→ByteArray→Option (ByteArray)
  | 0,_,_,_=>none
  | k+1,x0,x1,x2=>
    bif (decide (x1>0)) then
      (ql_ x1 2).bind fun q1=>
      bif (q1==1) then
        (j0_ x2 x0).bind fun t2=>
        eF_ k x0 x1 t2
      else
        eF_ k x0 x1 x2
    else
      some x2
noncomputable def eF_:Nat→ByteArray→Int→ByteArray→Option (ByteArray)
  | 0,_,_,_=>none
  | k+1,x0,x1,x2=>
    (j0_ x0 x0).bind fun t3=>
    (xa_ x1 2).bind fun q4=>
    cZ_ k t3 (IntKind.wrap .i64 (q4)) x2
end
noncomputable def d7_ (k:Nat) (a0:ByteArray) (a1:Int):Option (ByteArray):=
  cZ_ k a0 a1 (⟨#[]⟩:ByteArray)
noncomputable def b7_:Nat→ByteArray→Int→List Int→Int→Option (ByteArray×as_)
  | 0,_,_,_,_=>none
  | k+1,x0,x1,x2,x3=>
    bif (decide (x1>0)) then
      (ah_ k (⟨x2,x3⟩:as_) 5).bind fun r10=>
      (wnd (⟨#[97,98,99,100,32]⟩:ByteArray).size r10.1 ((⟨#[97,98,99,100,32]⟩:ByteArray).size:Int)).bind fun p11=>
      (wnd ((⟨#[97,98,99,100,32]⟩:ByteArray).extract p11.1 p11.2).size 0 1).bind fun p12=>
      (j0_ x0 (((⟨#[97,98,99,100,32]⟩:ByteArray).extract p11.1 p11.2).extract p12.1 p12.2)).bind fun t13=>
      b7_ k t13 (IntKind.wrap .i64 (x1-1)) r10.2.b r10.2.p
    else
      some (x0,(⟨x2,x3⟩:as_))
noncomputable def cY_ (k:Nat) (a0:as_):Option (ByteArray×as_):=
  (ah_ k a0 8).bind fun r1=>
  bif (r1.1==0) then
    some ((⟨#[]⟩:ByteArray),r1.2)
  else
    bif (r1.1==1) then
      (ah_ k r1.2 5).bind fun r2=>
      (ah_ k r2.2 3).bind fun r3=>
      (ah_ k r3.2 2).bind fun r4=>
      (ah_ k r4.2 2).bind fun r5=>
      (d7_ k (⟨#[109]⟩:ByteArray) (IntKind.wrap .i64 ((IntKind.wrap .i64 ((IntKind.wrap .i64 (20*r2.1))+r3.1))-(IntKind.wrap .i64 (r4.1*r5.1))))).bind fun r6=>
      some (r6,r5.2)
    else
      bif (r1.1==2) then
        (ah_ k r1.2 19).bind fun r7=>
        (d7_ k (⟨#[48,49,50,51,52,53,54,55,56,57]⟩:ByteArray) (IntKind.wrap .i64 (1+r7.1))).bind fun r8=>
        some (r8,r7.2)
      else
        bif (r1.1==3) then
          some ((⟨#[0,255]⟩:ByteArray),r1.2)
        else
          (ah_ k r1.2 30).bind fun r9=>
          b7_ k (⟨#[]⟩:ByteArray) (IntKind.wrap .i64 (1+r9.1)) r9.2.b r9.2.p
mutual
noncomputable def f3_:Nat→Int→List Int→Int→Int→Int→List ag_→List ag_→Option (ak_×as_)
  | 0,_,_,_,_,_,_,_=>none
  | k+1,x0,x1,x2,x3,x4,x5,x6=>
    bif (decide (x0>0)) then
      both (
        (cY_ k (⟨x1,x2⟩:as_)).bind fun r4=>
        (dp_ k (⟨x4,x6⟩:ak_) r4.1).bind fun r5=>
        bif (r5.2==0) then
          cq_ k x0 r4.2.b r4.2.p x3 r5.1.Base x5 r5.1.Items
        else
          cq_ k x0 r4.2.b r4.2.p x3 x4 x5 x6
      ) (
        both (
          (cY_ k (⟨x1,x2⟩:as_)).bind fun r6=>
          (dp_ k (⟨x4,x6⟩:ak_) r6.1).bind fun r7=>
          bif (r7.2==0) then
            cq_ k x0 r6.2.b r6.2.p x3 r7.1.Base x5 r7.1.Items
          else
            cq_ k x0 r6.2.b r6.2.p x3 x4 x5 x6
        ) (
          (cY_ k (⟨x1,x2⟩:as_)).bind fun r8=>
          (dp_ k (⟨x4,x6⟩:ak_) r8.1).bind fun r9=>
          bif (r9.2==0) then
            cq_ k x0 r8.2.b r8.2.p x3 r9.1.Base x5 r9.1.Items
          else
            cq_ k x0 r8.2.b r8.2.p x3 x4 x5 x6
        )
      )
    else
      (ah_ k (⟨x1,x2⟩:as_) 12).bind fun r10=>
      bif (r10.1==0) then
        (ah_ k r10.2 3).bind fun r11=>
        d5_ k (IntKind.wrap .i64 (60-r11.1)) r11.2.b r11.2.p x3 x4 x5 x6
      else
        el_ k r10.2.b r10.2.p x3 x4 x5 x6
noncomputable def cq_:Nat→Int→List Int→Int→Int→Int→List ag_→List ag_→Option (ak_×as_)
  | 0,_,_,_,_,_,_,_=>none
  | k+1,x0,x1,x2,x3,x4,x5,x6=>
    (ah_ k (⟨x1,x2⟩:as_) 6).bind fun r12=>
    eK_ k x0 r12.1 r12.2.b r12.2.p x3 x4 x5 x6
noncomputable def d5_:Nat→Int→List Int→Int→Int→Int→List ag_→List ag_→Option (ak_×as_)
  | 0,_,_,_,_,_,_,_=>none
  | k+1,x0,x1,x2,x3,x4,x5,x6=>
    bif (decide ((x6.length:Int)<x0)) then
      bif (decide ((IntKind.wrap .i64 (x4+(x6.length:Int)))<1000000)) then
        (app 40 x6 ([(⟨(⟨(⟨#[102]⟩:ByteArray),true⟩:az_),false,(-1)⟩:ag_)]:List ag_)).bind fun l13=>
        d5_ k x0 x1 x2 x3 x4 x5 l13
      else
        el_ k x1 x2 x3 x4 x5 x6
    else
      el_ k x1 x2 x3 x4 x5 x6
noncomputable def el_:Nat→List Int→Int→Int→Int→List ag_→List ag_→Option (ak_×as_)
  | 0,_,_,_,_,_,_=>none
  | k+1,x0,x1,x2,x3,x4,x5=>
    (d4_ k (⟨x3,x5⟩:ak_)).bind fun r14=>
    some (r14,(⟨x0,x1⟩:as_))
noncomputable def eK_:Nat→Int→Int→List Int→Int→Int→Int→List ag_→List ag_→Option (ak_×as_)
  | 0,_,_,_,_,_,_,_,_=>none
  | k+1,x0,x1,x2,x3,x4,x5,x6,x7=>
    bif (decide (x1>0)) then
      (fi_ k (⟨x5,x7⟩:ak_)).bind fun r15=>
      eK_ k x0 (IntKind.wrap .i64 (x1-1)) x2 x3 x4 r15.1.Base x6 r15.1.Items
    else
      (ah_ k (⟨x2,x3⟩:as_) 3).bind fun r16=>
      bif (r16.1==0) then
        (ah_ k r16.2 4).bind fun r17=>
        (ah_ k r17.2 256).bind fun r18=>
        (ft_ k (⟨x5,x7⟩:ak_) (IntKind.wrap .i64 (x5+r17.1)) r18.1).bind fun r19=>
        f4_ k x0 r18.2.b r18.2.p x4 r19.Base x6 r19.Items
      else
        f4_ k x0 r16.2.b r16.2.p x4 x5 x6 x7
noncomputable def f4_:Nat→Int→List Int→Int→Int→Int→List ag_→List ag_→Option (ak_×as_)
  | 0,_,_,_,_,_,_,_=>none
  | k+1,x0,x1,x2,x3,x4,x5,x6=>
    f3_ k (IntKind.wrap .i64 (x0-1)) x1 x2 x3 x4 x5 x6
end
mutual
noncomputable def jx_:Nat→List Int→Int→Int→Int→List ag_→List ag_→Option (ak_×as_)
  | 0,_,_,_,_,_,_=>none
  | k+1,x0,x1,x2,x3,x4,x5=>
    (ah_ k (⟨x0,x1⟩:as_) (x5.length:Int)).bind fun r2=>
    (ah_ k r2.2 6).bind fun r3=>
    bif (r3.1==0) then
      (ah_ k r3.2 3).bind fun r4=>
      (idx ([(-1),1000000,1000001]:List Int) r4.1).bind fun y5=>
      bv_ k r4.2.b r4.2.p x2 y5 x4 x5
    else
      bif (r3.1==1) then
        (ah_ k r3.2 5).bind fun r6=>
        (idx ([(-2),(-1),0,3,4]:List Int) r6.1).bind fun y7=>
        (idx x5 r2.1).bind fun _=>
        (x5[(Int.toNat r2.1)]?).bind fun y8=>
        bv_ k r6.2.b r6.2.p x2 x3 x4 (x5.set (Int.toNat r2.1) (⟨y8.Part,y8.Has,y7⟩:ag_))
      else
        bif (r3.1==2) then
          (idx x5 r2.1).bind fun _=>
          (x5[(Int.toNat r2.1)]?).bind fun y9=>
          (idx x5 r2.1).bind fun _=>
          (x5[(Int.toNat r2.1)]?).bind fun y10=>
          bv_ k r3.2.b r3.2.p x2 x3 x4 (x5.set (Int.toNat r2.1) (⟨y10.Part,(!y9.Has),y10.Since⟩:ag_))
        else
          bif (r3.1==3) then
            (ah_ k r3.2 2).bind fun r11=>
            (d7_ k (⟨#[115]⟩:ByteArray) (IntKind.wrap .i64 (20+r11.1))).bind fun r12=>
            (idx x5 r2.1).bind fun _=>
            (x5[(Int.toNat r2.1)]?).bind fun y13=>
            bv_ k r11.2.b r11.2.p x2 x3 x4 (x5.set (Int.toNat r2.1) (⟨(⟨r12,y13.Part.Last⟩:az_),y13.Has,y13.Since⟩:ag_))
          else
            bif (r3.1==4) then
              (ah_ k r3.2 2).bind fun r14=>
              dJ_ k (IntKind.wrap .i64 (60+r14.1)) r14.2.b r14.2.p x2 x3 x4 x5
            else
              ec_ k r3.2.b r3.2.p x2 x3 x4 x5
noncomputable def bv_:Nat→List Int→Int→Int→Int→List ag_→List ag_→Option (ak_×as_)
  | 0,_,_,_,_,_,_=>none
  | k+1,x0,x1,x2,x3,x4,x5=>
    some ((⟨x3,x5⟩:ak_),(⟨x0,x1⟩:as_))
noncomputable def dJ_:Nat→Int→List Int→Int→Int→Int→List ag_→List ag_→Option (ak_×as_)
  | 0,_,_,_,_,_,_,_=>none
  | k+1,x0,x1,x2,x3,x4,x5,x6=>
    bif (decide ((x6.length:Int)<x0)) then
      (app 40 x6 ([(⟨(⟨(⟨#[]⟩:ByteArray),false⟩:az_),false,(-1)⟩:ag_)]:List ag_)).bind fun l15=>
      dJ_ k x0 x1 x2 x3 x4 x5 l15
    else
      bv_ k x1 x2 x3 x4 x5 x6
noncomputable def ec_:Nat→List Int→Int→Int→Int→List ag_→List ag_→Option (ak_×as_)
  | 0,_,_,_,_,_,_=>none
  | k+1,x0,x1,x2,x3,x4,x5=>
    bif (decide ((x5.length:Int)≤8)) then
      (app 40 x5 ([(⟨(⟨(⟨#[]⟩:ByteArray),false⟩:az_),false,(-1)⟩:ag_)]:List ag_)).bind fun l16=>
      ec_ k x0 x1 x2 x3 x4 l16
    else
      (ah_ k (⟨x0,x1⟩:as_) 2).bind fun r17=>
      (idx x5 8).bind fun _=>
      (x5[(Int.toNat 8)]?).bind fun y18=>
      bv_ k r17.2.b r17.2.p x2 x3 x4 (x5.set (Int.toNat 8) (⟨y18.Part,y18.Has,(IntKind.wrap .i64 (r17.1-1))⟩:ag_))
end
noncomputable def jR_ (k:Nat) (a0:as_):Option (ByteArray×as_):=
  (d7_ k (⟨#[107]⟩:ByteArray) 30).bind fun r1=>
  (ah_ k a0 4).bind fun r2=>
  (idx ([(⟨#[107,101,121]⟩:ByteArray),(⟨#[107]⟩:ByteArray),(⟨#[]⟩:ByteArray),r1]:List ByteArray) r2.1).bind fun _=>
  (([(⟨#[107,101,121]⟩:ByteArray),(⟨#[107]⟩:ByteArray),(⟨#[]⟩:ByteArray),r1]:List ByteArray)[(Int.toNat r2.1)]?).bind fun y3=>
  some (y3,r2.2)
noncomputable def hE_ (k:Nat) (a0:as_):Option (Int×as_):=
  (ah_ k a0 5).bind fun r1=>
  (idx ([8,8,4,2,1]:List Int) r1.1).bind fun y2=>
  some (y2,r1.2)
mutual
noncomputable def ee_:Nat→Int→Int→List Int→Int→Int→Int→Int→Int→ByteArray→Option (aT_×as_)
  | 0,_,_,_,_,_,_,_,_,_=>none
  | k+1,x0,x1,x2,x3,x4,x5,x6,x7,x8=>
    (ah_ k (⟨x2,x3⟩:as_) 2).bind fun r5=>
    bif (decide (x0<9)) then
      some ((⟨1,0,0,0,(⟨#[]⟩:ByteArray)⟩:aT_),r5.2)
    else
      bif (decide (x0<19)) then
        some ((⟨2,x1,0,0,(⟨#[]⟩:ByteArray)⟩:aT_),r5.2)
      else
        bif (decide (x0<26)) then
          (cY_ k r5.2).bind fun r6=>
          some ((⟨10,(IntKind.wrap .i64 (1+r5.1)),0,0,r6.1⟩:aT_),r6.2)
        else
          bif (decide (x0<30)) then
            some ((⟨11,(IntKind.wrap .i64 (1+r5.1)),0,0,(⟨#[]⟩:ByteArray)⟩:aT_),r5.2)
          else
            bif (x0==30) then
              dB_ k x1 r5.2.b r5.2.p x4 x5 x6 x7 x8
            else
              bif (x0==31) then
                dB_ k x1 r5.2.b r5.2.p x4 x5 x6 x7 x8
              else
                gl_ k x1 (IntKind.wrap .i64 (1+r5.1)) x0 r5.2.b r5.2.p x4 x5 x6 x7 x8
noncomputable def dB_:Nat→Int→List Int→Int→Int→Int→Int→Int→ByteArray→Option (aT_×as_)
  | 0,_,_,_,_,_,_,_,_=>none
  | k+1,x0,x1,x2,x3,x4,x5,x6,x7=>
    some ((⟨3,x0,0,0,(⟨#[]⟩:ByteArray)⟩:aT_),(⟨x1,x2⟩:as_))
noncomputable def gl_:Nat→Int→Int→Int→List Int→Int→Int→Int→Int→Int→ByteArray→Option (aT_×as_)
  | 0,_,_,_,_,_,_,_,_,_,_=>none
  | k+1,x0,x1,x2,x3,x4,x5,x6,x7,x8,x9=>
    bif (x2==32) then
      dL_ k x0 x3 x4 x5 x6 x7 x8 x9
    else
      bif (x2==33) then
        dL_ k x0 x3 x4 x5 x6 x7 x8 x9
      else
        eW_ k x0 x1 x2 x3 x4 x5 x6 x7 x8 x9
noncomputable def dL_:Nat→Int→List Int→Int→Int→Int→Int→Int→ByteArray→Option (aT_×as_)
  | 0,_,_,_,_,_,_,_,_=>none
  | k+1,x0,x1,x2,x3,x4,x5,x6,x7=>
    some ((⟨4,x0,0,0,(⟨#[]⟩:ByteArray)⟩:aT_),(⟨x1,x2⟩:as_))
noncomputable def eW_:Nat→Int→Int→Int→List Int→Int→Int→Int→Int→Int→ByteArray→Option (aT_×as_)
  | 0,_,_,_,_,_,_,_,_,_,_=>none
  | k+1,x0,x1,x2,x3,x4,x5,x6,x7,x8,x9=>
    bif (x2==34) then
      (ah_ k (⟨x3,x4⟩:as_) 40).bind fun r7=>
      (ah_ k r7.2 300).bind fun r8=>
      some ((⟨5,x0,r7.1,r8.1,(⟨#[]⟩:ByteArray)⟩:aT_),r8.2)
    else
      bif (x2==35) then
        (ah_ k (⟨x3,x4⟩:as_) 40).bind fun r9=>
        some ((⟨6,x0,r9.1,0,(⟨#[]⟩:ByteArray)⟩:aT_),r9.2)
      else
        bif (x2==36) then
          some ((⟨7,x0,0,0,(⟨#[]⟩:ByteArray)⟩:aT_),(⟨x3,x4⟩:as_))
        else
          bif (x2==37) then
            some ((⟨8,x1,0,0,(⟨#[]⟩:ByteArray)⟩:aT_),(⟨x3,x4⟩:as_))
          else
            some ((⟨9,x1,0,0,(⟨#[]⟩:ByteArray)⟩:aT_),(⟨x3,x4⟩:as_))
end
noncomputable def hg_ (k:Nat) (a0:as_):Option (aT_×as_):=
  (ah_ k a0 40).bind fun r1=>
  (ah_ k r1.2 24).bind fun r2=>
  (ah_ k r2.2 2).bind fun r3=>
  bif (r3.1==0) then
    (ah_ k r3.2 3).bind fun r4=>
    ee_ k r1.1 r4.1 r4.2.b r4.2.p 0 0 0 0 (⟨#[]⟩:ByteArray)
  else
    ee_ k r1.1 r2.1 r3.2.b r3.2.p 0 0 0 0 (⟨#[]⟩:ByteArray)
mutual
noncomputable def dj_:Nat→List Int→Int→ByteArray→Int→ByteArray→ByteArray→Int→ByteArray→List am_→List ad_→List aa_→List aa_→List am_→List ad_→List aa_→List aa_→Option (ab_×as_)
  | 0,_,_,_,_,_,_,_,_,_,_,_,_,_,_,_,_=>none
  | k+1,x0,x1,x2,x3,x4,x5,x6,x7,x8,x9,x10,x11,x12,x13,x14,x15=>
    (ah_ k (⟨x0,x1⟩:as_) 50).bind fun r7=>
    bf_ k r7.1 0 r7.2.b r7.2.p x2 x3 x4 x5 x6 x7 x8 x9 x10 x11 x12 x13 x14 x15
noncomputable def bf_:Nat→Int→Int→List Int→Int→ByteArray→Int→ByteArray→ByteArray→Int→ByteArray→List am_→List ad_→List aa_→List aa_→List am_→List ad_→List aa_→List aa_→Option (ab_×as_)
  | 0,_,_,_,_,_,_,_,_,_,_,_,_,_,_,_,_,_,_=>none
  | k+1,x0,x1,x2,x3,x4,x5,x6,x7,x8,x9,x10,x11,x12,x13,x14,x15,x16,x17=>
    bif (decide (x1<x0)) then
      (hg_ k (⟨x2,x3⟩:as_)).bind fun r8=>
      (hV_ k (⟨x7,x8,x14,x15,x9,x16,x17⟩:ab_) r8.1).bind fun r9=>
      (ah_ k r8.2 5).bind fun r10=>
      bif (r10.1==0) then
        (fW_ k r9).bind fun r11=>
        (ah_ k r10.2 6).bind fun r12=>
        cc_ k x0 x1 r12.1 r12.2.b r12.2.p x4 x5 x6 r11.Key r11.Width r11.Forged x10 x11 x12 x13 r11.Ends r11.Flight r11.Given r11.Taken
      else
        b9_ k x0 x1 r10.2.b r10.2.p x4 x5 x6 r9.Key r9.Width r9.Forged x10 x11 x12 x13 r9.Ends r9.Flight r9.Given r9.Taken
    else
      (ei_ k (⟨x7,x8,x14,x15,x9,x16,x17⟩:ab_)).bind fun r13=>
      some (r13,(⟨x2,x3⟩:as_))
noncomputable def cc_:Nat→Int→Int→Int→List Int→Int→ByteArray→Int→ByteArray→ByteArray→Int→ByteArray→List am_→List ad_→List aa_→List aa_→List am_→List ad_→List aa_→List aa_→Option (ab_×as_)
  | 0,_,_,_,_,_,_,_,_,_,_,_,_,_,_,_,_,_,_,_=>none
  | k+1,x0,x1,x2,x3,x4,x5,x6,x7,x8,x9,x10,x11,x12,x13,x14,x15,x16,x17,x18=>
    bif (decide (x2>0)) then
      bif (decide ((x16.length:Int)>0)) then
        (e6_ k (⟨x8,x9,x15,x16,x10,x17,x18⟩:ab_) 0).bind fun r14=>
        cc_ k x0 x1 (IntKind.wrap .i64 (x2-1)) x3 x4 x5 x6 x7 r14.Key r14.Width r14.Forged x11 x12 x13 x14 r14.Ends r14.Flight r14.Given r14.Taken
      else
        b9_ k x0 x1 x3 x4 x5 x6 x7 x8 x9 x10 x11 x12 x13 x14 x15 x16 x17 x18
    else
      b9_ k x0 x1 x3 x4 x5 x6 x7 x8 x9 x10 x11 x12 x13 x14 x15 x16 x17 x18
noncomputable def b9_:Nat→Int→Int→List Int→Int→ByteArray→Int→ByteArray→ByteArray→Int→ByteArray→List am_→List ad_→List aa_→List aa_→List am_→List ad_→List aa_→List aa_→Option (ab_×as_)
  | 0,_,_,_,_,_,_,_,_,_,_,_,_,_,_,_,_,_,_=>none
  | k+1,x0,x1,x2,x3,x4,x5,x6,x7,x8,x9,x10,x11,x12,x13,x14,x15,x16,x17=>
    (ah_ k (⟨x2,x3⟩:as_) 16).bind fun r15=>
    bif (r15.1==0) then
      (hV_ k (⟨x7,x8,x14,x15,x9,x16,x17⟩:ab_) (⟨9,1,0,0,(⟨#[]⟩:ByteArray)⟩:aT_)).bind fun r16=>
      (hV_ k r16 (⟨9,2,0,0,(⟨#[]⟩:ByteArray)⟩:aT_)).bind fun r17=>
      df_ k x0 x1 r15.2.b r15.2.p x4 x5 x6 r17.Key r17.Width r17.Forged x10 x11 x12 x13 r17.Ends r17.Flight r17.Given r17.Taken
    else
      df_ k x0 x1 r15.2.b r15.2.p x4 x5 x6 x7 x8 x9 x10 x11 x12 x13 x14 x15 x16 x17
noncomputable def df_:Nat→Int→Int→List Int→Int→ByteArray→Int→ByteArray→ByteArray→Int→ByteArray→List am_→List ad_→List aa_→List aa_→List am_→List ad_→List aa_→List aa_→Option (ab_×as_)
  | 0,_,_,_,_,_,_,_,_,_,_,_,_,_,_,_,_,_,_=>none
  | k+1,x0,x1,x2,x3,x4,x5,x6,x7,x8,x9,x10,x11,x12,x13,x14,x15,x16,x17=>
    bf_ k x0 (IntKind.wrap .i64 (x1+1)) x2 x3 x4 x5 x6 x7 x8 x9 x10 x11 x12 x13 x14 x15 x16 x17
end
noncomputable def fZ_ (k:Nat) (a0:as_):Option (ab_×as_):=
  (jR_ k a0).bind fun r1=>
  (hE_ k r1.2).bind fun r2=>
  (gE_ k r1.1 r2.1).bind fun r3=>
  (ah_ k r2.2 3).bind fun r4=>
  bif (decide (r4.1>0)) then
    (ah_ k r4.2 4).bind fun r5=>
    (lY_ k r3 (IntKind.wrap .i64 (7+r5.1)) 1).bind fun r6=>
    dj_ k r5.2.b r5.2.p (⟨#[]⟩:ByteArray) 0 (⟨#[]⟩:ByteArray) r6.Key r6.Width r6.Forged ([]:List am_) ([]:List ad_) ([]:List aa_) ([]:List aa_) r6.Ends r6.Flight r6.Given r6.Taken
  else
    dj_ k r4.2.b r4.2.p (⟨#[]⟩:ByteArray) 0 (⟨#[]⟩:ByteArray) r3.Key r3.Width r3.Forged ([]:List am_) ([]:List ad_) ([]:List aa_) ([]:List aa_) r3.Ends r3.Flight r3.Given r3.Taken
mutual
noncomputable def f7_:Nat→Int→List Int→Int→Int→ByteArray→Int→ByteArray→List aj_→List ByteArray→List aj_→List ByteArray→Option (ai_×as_)
  | 0,_,_,_,_,_,_,_,_,_,_,_=>none
  | k+1,x0,x1,x2,x3,x4,x5,x6,x7,x8,x9,x10=>
    bif (decide (x0>0)) then
      (ah_ k (⟨x1,x2⟩:as_) 8).bind fun r4=>
      bif (r4.1==0) then
        (fs_ k (⟨x5,x9,x6,x10⟩:ai_)).bind fun r5=>
        f6_ k x0 r4.2.b r4.2.p x3 x4 r5.1.Next r5.1.Open x7 x8 r5.1.Held r5.1.Ready
      else
        (ah_ k r4.2 3).bind fun r6=>
        bif (r6.1==0) then
          (ah_ k r6.2 9).bind fun r7=>
          f2_ k x0 (IntKind.wrap .i64 (x5+r7.1)) r7.2.b r7.2.p x3 x4 x5 x6 x7 x8 x9 x10
        else
          f2_ k x0 x5 r6.2.b r6.2.p x3 x4 x5 x6 x7 x8 x9 x10
    else
      (eY_ k (⟨x5,x9,x6,x10⟩:ai_)).bind fun r8=>
      some (r8,(⟨x1,x2⟩:as_))
noncomputable def f6_:Nat→Int→List Int→Int→Int→ByteArray→Int→ByteArray→List aj_→List ByteArray→List aj_→List ByteArray→Option (ai_×as_)
  | 0,_,_,_,_,_,_,_,_,_,_,_=>none
  | k+1,x0,x1,x2,x3,x4,x5,x6,x7,x8,x9,x10=>
    f7_ k (IntKind.wrap .i64 (x0-1)) x1 x2 x3 x4 x5 x6 x7 x8 x9 x10
noncomputable def f2_:Nat→Int→Int→List Int→Int→Int→ByteArray→Int→ByteArray→List aj_→List ByteArray→List aj_→List ByteArray→Option (ai_×as_)
  | 0,_,_,_,_,_,_,_,_,_,_,_,_=>none
  | k+1,x0,x1,x2,x3,x4,x5,x6,x7,x8,x9,x10,x11=>
    (ah_ k (⟨x2,x3⟩:as_) 3).bind fun r9=>
    (idx ([1,5,20]:List Int) r9.1).bind fun y10=>
    (d7_ k (⟨#[116]⟩:ByteArray) y10).bind fun r11=>
    (ah_ k r9.2 3).bind fun r12=>
    (fy_ k (⟨x6,x10,x7,x11⟩:ai_) x1 (⟨r11,(r12.1==0)⟩:az_)).bind fun r13=>
    f6_ k x0 r12.2.b r12.2.p x4 x5 r13.Next r13.Open x8 x9 r13.Held r13.Ready
end
mutual
noncomputable def gn_:Nat→List Int→Int→Int→ByteArray→Int→ByteArray→List aj_→List ByteArray→List aj_→List ByteArray→Option (ai_×as_)
  | 0,_,_,_,_,_,_,_,_,_,_=>none
  | k+1,x0,x1,x2,x3,x4,x5,x6,x7,x8,x9=>
    some ((⟨x4,x8,x5,x9⟩:ai_),(⟨x0,x1⟩:as_))
noncomputable def eR_:Nat→Int→List Int→Int→Int→ByteArray→Int→ByteArray→List aj_→List ByteArray→List aj_→List ByteArray→Option (ai_×as_)
  | 0,_,_,_,_,_,_,_,_,_,_,_=>none
  | k+1,x0,x1,x2,x3,x4,x5,x6,x7,x8,x9,x10=>
    bif (decide ((x10.length:Int)<x0)) then
      (app 16 x10 ([(⟨#[]⟩:ByteArray)]:List ByteArray)).bind fun l20=>
      eR_ k x0 x1 x2 x3 x4 x5 x6 x7 x8 x9 l20
    else
      gn_ k x1 x2 x3 x4 x5 x6 x7 x8 x9 x10
end
noncomputable def iJ_:Nat→List Int→Int→Int→Bool→Int→Int→Int→Bool→Int→Int→ByteArray→Int→Bool→Int→Int→Int→Bool→Int→Int→ByteArray→List ag_→List aj_→List ByteArray→List ag_→List aj_→List ByteArray→Option (am_×as_)
  | 0,_,_,_,_,_,_,_,_,_,_,_,_,_,_,_,_,_,_,_,_,_,_,_,_,_,_=>none
  | k+1,x0,x1,x2,x3,x4,x5,x6,x7,x8,x9,x10,x11,x12,x13,x14,x15,x16,x17,x18,x19,x20,x21,x22,x23,x24,x25=>
    some ((⟨x11,x12,x13,x14,x15,x16,(⟨x17,x23⟩:ak_),(⟨x18,x24,x19,x25⟩:ai_)⟩:am_),(⟨x0,x1⟩:as_))
noncomputable def eT_ (k:Nat) (a0:List Int):Option (ab_):=
  (iz_ k a0).bind fun r1=>
  (fZ_ k r1).bind fun r2=>
  some r2.1
noncomputable def k8_:Nat→List Int→Int→Int→Bool→Int→Int→Int→Bool→Int→Int→ByteArray→Int→Bool→Int→Int→Int→Bool→Int→List ag_→Int→List aj_→ByteArray→List ByteArray→List ag_→List aj_→List ByteArray→Option (am_×as_)
  | 0,_,_,_,_,_,_,_,_,_,_,_,_,_,_,_,_,_,_,_,_,_,_,_,_,_,_=>none
  | k+1,x0,x1,x2,x3,x4,x5,x6,x7,x8,x9,x10,x11,x12,x13,x14,x15,x16,x17,x18,x19,x20,x21,x22,x23,x24,x25=>
    some ((⟨x11,x12,x13,x14,x15,x16,(⟨x17,x18⟩:ak_),(⟨x19,x20,x21,x22⟩:ai_)⟩:am_),(⟨x0,x1⟩:as_))
end Km.X
namespace Km.X
open Go Km
set_option linter.unusedVariables false
set_option maxRecDepth 100000
end Km.X
namespace Km.X
open Go Km
set_option linter.unusedVariables false
set_option maxRecDepth 100000
end Km.X
namespace Km.X
open Go Km
set_option linter.unusedVariables false
set_option maxRecDepth 100000
noncomputable def iR_ (k:Nat) (a0:List Int):Option (Bool):=
  bif (decide ((a0.length:Int)>1048576)) then
    some true
  else
    (eT_ k a0).bind fun r1=>
    bif (!(r1.Forged.toList==(⟨#[]⟩:ByteArray).toList)) then
      (bo_ k r1).bind fun r2=>
      (bq_ k r1).bind fun r3=>
      some (r2==r3)
    else
      bif (decide ((IntKind.wrap .i64 ((r1.Given.length:Int)+(r1.Taken.length:Int)))>260)) then
        (bo_ k r1).bind fun r4=>
        (bq_ k r1).bind fun r5=>
        some (r4==r5)
      else
        (ql_ (a0.length:Int) 2).bind fun q6=>
        (k5_ k r1 (⟨8,(IntKind.wrap .i64 (1+q6)),0,0,(⟨#[]⟩:ByteArray)⟩:aT_)).bind fun r7=>
        (k5_ k r7 (⟨9,(IntKind.wrap .i64 (1+q6)),0,0,(⟨#[]⟩:ByteArray)⟩:aT_)).bind fun r8=>
        (k5_ k r8 (⟨9,(IntKind.wrap .i64 (3-(IntKind.wrap .i64 (1+q6)))),0,0,(⟨#[]⟩:ByteArray)⟩:aT_)).bind fun r9=>
        (i1_ k r9 20 1).bind fun r10=>
        bif (!(r10.Forged.toList==(⟨#[]⟩:ByteArray).toList)) then
          (bq_ k r10).bind fun r11=>
          some r11
        else
          (hZ_ k r10).bind fun r12=>
          bif (!r12) then
            some false
          else
            (jZ_ k r10).bind fun r13=>
            bif (!r13) then
              some false
            else
              (k5_ k r10 (⟨10,(IntKind.wrap .i64 (1+q6)),0,0,(⟨#[110,111,119]⟩:ByteArray)⟩:aT_)).bind fun r14=>
              (i1_ k r14 40 1).bind fun r15=>
              bif (!(r15.Forged.toList==(⟨#[]⟩:ByteArray).toList)) then
                (bq_ k r15).bind fun r16=>
                some r16
              else
                bif ((r15.Ends.length:Int) !=2) then
                  some false
                else
                  bif (decide ((r15.Taken.length:Int)<1)) then
                    some false
                  else
                    bif ((r15.Taken.length:Int) !=(IntKind.wrap .i64 ((r10.Taken.length:Int)+1))) then
                      some false
                    else
                      (idx r15.Taken (r10.Taken.length:Int)).bind fun _=>
                      (r15.Taken[(Int.toNat (r10.Taken.length:Int))]?).bind fun y17=>
                      (idx r15.Ends (IntKind.wrap .i64 ((IntKind.wrap .i64 (1+q6))-1))).bind fun _=>
                      (r15.Ends[(Int.toNat (IntKind.wrap .i64 ((IntKind.wrap .i64 (1+q6))-1)))]?).bind fun y18=>
                      (idx r15.Ends (IntKind.wrap .i64 (2-(IntKind.wrap .i64 (1+q6))))).bind fun _=>
                      (r15.Ends[(Int.toNat (IntKind.wrap .i64 (2-(IntKind.wrap .i64 (1+q6)))))]?).bind fun y19=>
                      bif (((y17.From:Int)==(IntKind.wrap .i64 (1+q6)))&&(((y17.A:Int)==y18.Life)&&(((y17.B:Int)==y19.Life)&&((y17.Text.toList==(⟨#[110,111,119]⟩:ByteArray).toList)&&true)))) then
                        (hZ_ k r15).bind fun r20=>
                        bif r20 then
                          (lE_ k r15).bind fun r21=>
                          some r21
                        else
                          some false
                      else
                        some false
end Km.X
