/- A part of the proof of FnExactCalm: the functions that it reads off the program. There is no condition. -/
import Derived.Test.YtgffmpjadffjkaaGreatKmAm4
namespace Km.X
open Go Km
set_option linter.unusedVariables false
set_option maxRecDepth 100000
structure aA_ where
  Text:ByteArray
  Last:Bool
structure ah_ where
  Part:aA_
  Has:Bool
  Since:Int
structure am_ where
  Base:Int
  Items:List ah_
structure ai_ where
  Seq:Int
  Part:aA_
structure al_ where
  Next:Int
  Held:List ai_
  Open:ByteArray
  Ready:List ByteArray
structure ao_ where
  Number:Int
  Up:Bool
  Life:Int
  Peer:Int
  Since:Int
  Owes:Bool
  Send:am_
  Take:al_
structure ad_ where
  Kind:Int
  From:Int
  Mine:Int
  Yours:Int
  Next:Int
  Mask:Int
  Seq:Int
  Last:Bool
  Part:ByteArray
structure ay_ where
  Code:Int
  End:ao_
  Out:List ad_
  Text:ByteArray
structure nR_ where
  Kind:Int
  A:Int
  B:Int
  C:Int
  Text:ByteArray
structure DKey where
  to:Int
  bytes:ByteArray
structure aJ_ where
  to:Int
  bytes:ByteArray
  n:Int
structure wz_ where
  f:Int
  a:Int
  b:Int
structure ac_ where
  To:Int
  Sent:ByteArray
  Bytes:ByteArray
structure ab_ where
  From:Int
  A:Int
  B:Int
  Text:ByteArray
structure ae_ where
  Key:ByteArray
  Width:Int
  Ends:List ao_
  Flight:List ac_
  Forged:ByteArray
  Given:List ab_
  Taken:List ab_
def el_ (x y:DKey):Bool:=((x.to==y.to)&&((x.bytes.toList==y.bytes.toList)&&true))
theorem qM_ {x y:DKey} (h:el_ x y=true):x=y:=by
  obtain ⟨x0,x1⟩:=x
  obtain ⟨y0,y1⟩:=y
  simp only [el_,Bool.and_eq_true,Bool.and_true,beq_iff_eq] at h
  obtain ⟨h0,h1⟩:=h
  subst h0;have h1:=Km.toList_inj h1;subst h1;rfl
def qo_ (x y:wz_):Bool:=((x.f==y.f)&&((x.a==y.a)&&((x.b==y.b)&&true)))
theorem rP_ {x y:wz_} (h:qo_ x y=true):x=y:=by
  obtain ⟨x0,x1,x2⟩:=x
  obtain ⟨y0,y1,y2⟩:=y
  simp only [qo_,Bool.and_eq_true,Bool.and_true,beq_iff_eq] at h
  obtain ⟨h0,h1,h2⟩:=h
  subst h0;subst h1;subst h2;rfl
def AX_ (x:Int):Prop:=(Lit.int .i64 x).wf=true
def z3_ (x:ByteArray):Prop:=x.size≤maxLen
def jm_ (x:aA_):Prop:=x.Text.size≤maxLen∧True
def pw_ (x:ah_):Prop:=jm_ x.Part∧True∧(Lit.int .i64 x.Since).wf=true
def sw_ (x:ah_):Prop:=pw_ x
def sZ_ (x:am_):Prop:=(Lit.int .i64 x.Base).wf=true∧(x.Items.length≤maxLen∧∀y∈x.Items,sw_ y)
def pe_ (x:ai_):Prop:=(Lit.int .i64 x.Seq).wf=true∧jm_ x.Part
def sR_ (x:ai_):Prop:=pe_ x
def sQ_ (x:al_):Prop:=(Lit.int .i64 x.Next).wf=true∧(x.Held.length≤maxLen∧∀y∈x.Held,sR_ y)∧x.Open.size≤maxLen∧(x.Ready.length≤maxLen∧∀y∈x.Ready,z3_ y)
def w4_ (x:ao_):Prop:=(Lit.int .i64 x.Number).wf=true∧True∧(Lit.int .i64 x.Life).wf=true∧(Lit.int .i64 x.Peer).wf=true∧(Lit.int .i64 x.Since).wf=true∧True∧sZ_ x.Send∧sQ_ x.Take
def yr_ (x:ao_):Prop:=w4_ x
def yI_ (x:ad_):Prop:=(Lit.int .i64 x.Kind).wf=true∧(Lit.int .i64 x.From).wf=true∧(Lit.int .i64 x.Mine).wf=true∧(Lit.int .i64 x.Yours).wf=true∧(Lit.int .i64 x.Next).wf=true∧(Lit.int .i64 x.Mask).wf=true∧(Lit.int .i64 x.Seq).wf=true∧True∧x.Part.size≤maxLen
def Av_ (x:nR_):Prop:=(Lit.int .i64 x.Kind).wf=true∧(Lit.int .i64 x.A).wf=true∧(Lit.int .i64 x.B).wf=true∧(Lit.int .i64 x.C).wf=true∧x.Text.size≤maxLen
def xz_ (x:aJ_):Prop:=(Lit.int .i64 x.to).wf=true∧x.bytes.size≤maxLen∧(Lit.int .i64 x.n).wf=true
def jy_ (x:ac_):Prop:=(Lit.int .i64 x.To).wf=true∧x.Sent.size≤maxLen∧x.Bytes.size≤maxLen
def pA_ (x:ac_):Prop:=jy_ x
def iQ_ (x:ab_):Prop:=(Lit.int .i64 x.From).wf=true∧(Lit.int .i64 x.A).wf=true∧(Lit.int .i64 x.B).wf=true∧x.Text.size≤maxLen
def mh_ (x:ab_):Prop:=iQ_ x
def tu_ (x:ae_):Prop:=x.Key.size≤maxLen∧(Lit.int .i64 x.Width).wf=true∧(x.Ends.length≤maxLen∧∀y∈x.Ends,yr_ y)∧(x.Flight.length≤maxLen∧∀y∈x.Flight,pA_ y)∧x.Forged.size≤maxLen∧(x.Given.length≤maxLen∧∀y∈x.Given,mh_ y)∧(x.Taken.length≤maxLen∧∀y∈x.Taken,mh_ y)
end Km.X
namespace Km.X
open Go Km
set_option linter.unusedVariables false
set_option maxRecDepth 100000
def aC_ (k:Nat) (a0:Int) (a1:Int) (a2:Int):Option (Bool):=
  bif (decide (a0≥a1)) then
    some (decide (a0≤a2))
  else
    some false
def dn_:Nat→ByteArray→Int→Int→Option (Int)
  | 0,_,_,_=>none
  | k+1,x0,x1,x2=>
    bif (decide (x2<(x0.size:Int))) then
      (tv_ x0 x2).bind fun c1=>
      dn_ k x0 (IntKind.wrap .i64 ((IntKind.wrap .i64 (x1*256))+(IntKind.wrap .i64 (c1.toNat:Int)))) (IntKind.wrap .i64 (x2+1))
    else
      some x1
def fg_ (k:Nat) (a0:ByteArray):Option (Int):=
  dn_ k a0 0 0
def fK_ (k:Nat) (a0:ad_):Option (Bool):=
  (aC_ k a0.From 1 2).bind fun r1=>
  bif (!r1) then
    some false
  else
    (aC_ k a0.Mine 1 1000).bind fun r2=>
    bif (!r2) then
      some false
    else
      (aC_ k a0.Yours 0 1000).bind fun r3=>
      bif (!r3) then
        some false
      else
        bif (a0.Kind==1) then
          (aC_ k a0.Next 0 1000000).bind fun r4=>
          bif r4 then
            (aC_ k a0.Mask 0 255).bind fun r5=>
            bif r5 then
              bif (a0.Seq==0) then
                bif (!a0.Last) then
                  some (a0.Part.toList==(⟨#[]⟩:ByteArray).toList)
                else
                  some false
              else
                some false
            else
              some false
          else
            some false
        else
          bif (a0.Kind==2) then
            bif (a0.Next==0) then
              bif (a0.Mask==0) then
                (aC_ k a0.Seq 0 999999).bind fun r6=>
                bif r6 then
                  some (decide ((a0.Part.size:Int)≤20))
                else
                  some false
              else
                some false
            else
              some false
          else
            some false
def cC_:Nat→Int→Int→ByteArray→Int→Option (ByteArray)
  | 0,_,_,_,_=>none
  | k+1,x0,x1,x2,x3=>
    bif (decide (x3<x1)) then
      (oK_ x0 256).bind fun q1=>
      (jF_ (jV_ ([(IntKind.wrap .u8 q1)]:List Int)) x2).bind fun t2=>
      (yC_ x0 256).bind fun q3=>
      cC_ k (IntKind.wrap .i64 (q3)) x1 t2 (IntKind.wrap .i64 (x3+1))
    else
      some x2
def bK_ (k:Nat) (a0:Int) (a1:Int):Option (ByteArray):=
  cC_ k a0 a1 (⟨#[]⟩:ByteArray) 0
def ec_:Nat→ByteArray→Int→Int→Int→Int→Int→Int→Int→Int→Bool→ByteArray→Option (ByteArray)
  | 0,_,_,_,_,_,_,_,_,_,_,_=>none
  | k+1,x0,x1,x2,x3,x4,x5,x6,x7,x8,x9,x10=>
    (bK_ k x8 4).bind fun r12=>
    (jF_ x0 r12).bind fun t13=>
    (bK_ k x1 1).bind fun r14=>
    (jF_ t13 r14).bind fun t15=>
    (jF_ t15 x10).bind fun t16=>
    some t16
def gw_ (k:Nat) (a0:ad_):Option (ByteArray):=
  (bK_ k a0.Kind 1).bind fun r1=>
  (bK_ k a0.From 1).bind fun r2=>
  (jF_ r1 r2).bind fun t3=>
  (bK_ k a0.Mine 2).bind fun r4=>
  (jF_ t3 r4).bind fun t5=>
  (bK_ k a0.Yours 2).bind fun r6=>
  (jF_ t5 r6).bind fun t7=>
  bif (a0.Kind==1) then
    (bK_ k a0.Next 4).bind fun r8=>
    (jF_ t7 r8).bind fun t9=>
    (bK_ k a0.Mask 1).bind fun r10=>
    (jF_ t9 r10).bind fun t11=>
    some t11
  else
    bif a0.Last then
      ec_ k t7 1 a0.Kind a0.From a0.Mine a0.Yours a0.Next a0.Mask a0.Seq a0.Last a0.Part
    else
      ec_ k t7 0 a0.Kind a0.From a0.Mine a0.Yours a0.Next a0.Mask a0.Seq a0.Last a0.Part
mutual
def fj_:Nat→Int→ByteArray→Int→Int→Option (ByteArray)
  | 0,_,_,_,_=>none
  | k+1,x0,x1,x2,x3=>
    bif (decide (x3<(x1.size:Int))) then
      (tv_ x1 x3).bind fun c4=>
      fj_ k x0 x1 (IntKind.wrap .u64 ((wy_ .u64 x2 (IntKind.wrap .u64 (c4.toNat:Int)))*1099511628211)) (IntKind.wrap .i64 (x3+1))
    else
      eE_ k x0 x2 (⟨#[]⟩:ByteArray) 0
def eE_:Nat→Int→Int→ByteArray→Int→Option (ByteArray)
  | 0,_,_,_,_=>none
  | k+1,x0,x1,x2,x3=>
    bif (decide (x3<x0)) then
      (oK_ x1 256).bind fun q5=>
      (jF_ (jV_ ([(IntKind.wrap .u8 q5)]:List Int)) x2).bind fun t6=>
      (yC_ x1 256).bind fun q7=>
      eE_ k x0 (IntKind.wrap .u64 (q7)) t6 (IntKind.wrap .i64 (x3+1))
    else
      some x2
end
def oJ_ (k:Nat) (a0:ByteArray) (a1:ByteArray) (a2:Int):Option (ByteArray):=
  (aC_ k a2 1 8).bind fun r1=>
  bif (!r1) then
    some (⟨#[]⟩:ByteArray)
  else
    bif (decide ((a1.size:Int)>30)) then
      some (⟨#[]⟩:ByteArray)
    else
      (jF_ a1 (⟨#[0]⟩:ByteArray)).bind fun t2=>
      (jF_ t2 a0).bind fun t3=>
      fj_ k a2 t3 14695981039346656037 0
def cS_ (k:Nat) (a0:ad_) (a1:ByteArray) (a2:Int):Option (ByteArray):=
  (fK_ k a0).bind fun r1=>
  bif (!r1) then
    some (⟨#[]⟩:ByteArray)
  else
    (aC_ k a2 1 8).bind fun r2=>
    bif (!r2) then
      some (⟨#[]⟩:ByteArray)
    else
      bif (decide ((a1.size:Int)>30)) then
        some (⟨#[]⟩:ByteArray)
      else
        (gw_ k a0).bind fun r3=>
        (oJ_ k r3 a1 a2).bind fun r4=>
        (gw_ k a0).bind fun r5=>
        (jF_ r4 r5).bind fun t6=>
        some t6
def cp_:Nat→ByteArray→ByteArray→Int→Int→Int→Int→Int→Int→Int→Int→Bool→ByteArray→Int→Int→Int→Int→Int→Int→Int→Bool→ByteArray→Option (ad_×Bool)
  | 0,_,_,_,_,_,_,_,_,_,_,_,_,_,_,_,_,_,_,_,_,_=>none
  | k+1,x0,x1,x2,x3,x4,x5,x6,x7,x8,x9,x10,x11,x12,x13,x14,x15,x16,x17,x18,x19,x20=>
    (cS_ k (⟨x12,x13,x14,x15,x16,x17,x18,x19,x20⟩:ad_) x1 x2).bind fun r16=>
    bif (!(r16.toList==x0.toList)) then
      some ((⟨0,0,0,0,0,0,0,false,(⟨#[]⟩:ByteArray)⟩:ad_),false)
    else
      some ((⟨x12,x13,x14,x15,x16,x17,x18,x19,x20⟩:ad_),true)
def eN_ (k:Nat) (a0:ByteArray) (a1:ByteArray) (a2:Int):Option (ad_×Bool):=
  (aC_ k a2 1 8).bind fun r1=>
  bif (!r1) then
    some ((⟨0,0,0,0,0,0,0,false,(⟨#[]⟩:ByteArray)⟩:ad_),false)
  else
    bif (decide ((a0.size:Int)<(IntKind.wrap .i64 (a2+11)))) then
      some ((⟨0,0,0,0,0,0,0,false,(⟨#[]⟩:ByteArray)⟩:ad_),false)
    else
      (wnd a0.size a2 (a0.size:Int)).bind fun p2=>
      (tv_ (a0.extract p2.1 p2.2) 0).bind fun c3=>
      (tv_ (a0.extract p2.1 p2.2) 1).bind fun c4=>
      (wnd (a0.extract p2.1 p2.2).size 2 4).bind fun p5=>
      (fg_ k ((a0.extract p2.1 p2.2).extract p5.1 p5.2)).bind fun r6=>
      (wnd (a0.extract p2.1 p2.2).size 4 6).bind fun p7=>
      (fg_ k ((a0.extract p2.1 p2.2).extract p7.1 p7.2)).bind fun r8=>
      bif ((IntKind.wrap .i64 (c3.toNat:Int))==1) then
        (wnd (a0.extract p2.1 p2.2).size 6 10).bind fun p9=>
        (fg_ k ((a0.extract p2.1 p2.2).extract p9.1 p9.2)).bind fun r10=>
        (tv_ (a0.extract p2.1 p2.2) 10).bind fun c11=>
        cp_ k a0 a1 a2 0 0 0 0 0 0 0 false (⟨#[]⟩:ByteArray) (IntKind.wrap .i64 (c3.toNat:Int)) (IntKind.wrap .i64 (c4.toNat:Int)) r6 r8 r10 (IntKind.wrap .i64 (c11.toNat:Int)) 0 false (⟨#[]⟩:ByteArray)
      else
        (wnd (a0.extract p2.1 p2.2).size 6 10).bind fun p12=>
        (fg_ k ((a0.extract p2.1 p2.2).extract p12.1 p12.2)).bind fun r13=>
        (tv_ (a0.extract p2.1 p2.2) 10).bind fun c14=>
        (wnd (a0.extract p2.1 p2.2).size 11 ((a0.extract p2.1 p2.2).size:Int)).bind fun p15=>
        cp_ k a0 a1 a2 0 0 0 0 0 0 0 false (⟨#[]⟩:ByteArray) (IntKind.wrap .i64 (c3.toNat:Int)) (IntKind.wrap .i64 (c4.toNat:Int)) r6 r8 0 0 r13 ((c14.toNat:Int)==1) ((a0.extract p2.1 p2.2).extract p15.1 p15.2)
def aQ_ (k:Nat) (a0:Int) (a1:Int) (a2:Int):Option (Bool):=
  bif (decide (a0≥a1)) then
    some (decide (a0≤a2))
  else
    some false
def bp_:Nat→List ah_→Int→Int→Option (Bool)
  | 0,_,_,_=>none
  | k+1,x0,x1,x2=>
    bif (decide (x2<x1)) then
      (idx x0 x2).bind fun y2=>
      bif (decide ((y2.Part.Text.size:Int)>20)) then
        some false
      else
        (aQ_ k y2.Since (-1) 3).bind fun r3=>
        bif (!r3) then
          some false
        else
          bif (decide (x2≥8)) then
            bif (y2.Since !=(-1)) then
              some false
            else
              bif y2.Has then
                bif (decide (y2.Since<0)) then
                  some false
                else
                  bp_ k x0 x1 (IntKind.wrap .i64 (x2+1))
              else
                bp_ k x0 x1 (IntKind.wrap .i64 (x2+1))
          else
            bif y2.Has then
              bif (decide (y2.Since<0)) then
                some false
              else
                bp_ k x0 x1 (IntKind.wrap .i64 (x2+1))
            else
              bp_ k x0 x1 (IntKind.wrap .i64 (x2+1))
    else
      some true
def bq_ (k:Nat) (a0:am_):Option (Bool):=
  bif (decide ((a0.Items.length:Int)>60)) then
    some false
  else
    (aQ_ k a0.Base 0 1000000).bind fun r1=>
    bif (!r1) then
      some false
    else
      bif (decide ((IntKind.wrap .i64 (a0.Base+(a0.Items.length:Int)))>1000000)) then
        some false
      else
        bp_ k a0.Items (a0.Items.length:Int) 0
def gv_ (k:Nat) (a0:al_) (a1:aA_):Option (Bool):=
  bif (decide ((IntKind.wrap .i64 ((a0.Open.size:Int)+(a1.Text.size:Int)))≤200)) then
    bif (!a1.Last) then
      some true
    else
      some (decide ((a0.Ready.length:Int)<4))
  else
    some false
mutual
def aN_:Nat→List ai_→Int→Int→Int→List ai_→ByteArray→List ByteArray→Option (Bool)
  | 0,_,_,_,_,_,_,_=>none
  | k+1,x0,x1,x2,x3,x4,x5,x6=>
    bif (decide (x2<x1)) then
      (idx x0 x2).bind fun y2=>
      (aQ_ k y2.Seq x3 (IntKind.wrap .i64 ((IntKind.wrap .i64 (x3+8))-1))).bind fun r3=>
      bif (!r3) then
        some false
      else
        bif (decide (y2.Seq>999999)) then
          some false
        else
          bif (decide ((y2.Part.Text.size:Int)>20)) then
            some false
          else
            bif (decide (x2>0)) then
              (idx x4 (IntKind.wrap .i64 (x2-1))).bind fun y4=>
              bif (decide (y4.Seq≥y2.Seq)) then
                some false
              else
                bif (y2.Seq==x3) then
                  (gv_ k (⟨x3,x4,x5,x6⟩:al_) y2.Part).bind fun r5=>
                  bif r5 then
                    some false
                  else
                    aN_ k x0 x1 (IntKind.wrap .i64 (x2+1)) x3 x4 x5 x6
                else
                  aN_ k x0 x1 (IntKind.wrap .i64 (x2+1)) x3 x4 x5 x6
            else
              bif (y2.Seq==x3) then
                (gv_ k (⟨x3,x4,x5,x6⟩:al_) y2.Part).bind fun r6=>
                bif r6 then
                  some false
                else
                  aN_ k x0 x1 (IntKind.wrap .i64 (x2+1)) x3 x4 x5 x6
              else
                aN_ k x0 x1 (IntKind.wrap .i64 (x2+1)) x3 x4 x5 x6
    else
      bT_ k x6 (x6.length:Int) 0
def bT_:Nat→List ByteArray→Int→Int→Option (Bool)
  | 0,_,_,_=>none
  | k+1,x0,x1,x2=>
    bif (decide (x2<x1)) then
      (idx x0 x2).bind fun y7=>
      bif (decide ((y7.size:Int)>200)) then
        some false
      else
        bT_ k x0 x1 (IntKind.wrap .i64 (x2+1))
    else
      some true
end
def bL_ (k:Nat) (a0:al_):Option (Bool):=
  (aQ_ k a0.Next 0 1000000).bind fun r1=>
  bif (!r1) then
    some false
  else
    bif (decide ((a0.Held.length:Int)>8)) then
      some false
    else
      bif (decide ((a0.Open.size:Int)>200)) then
        some false
      else
        bif (decide ((a0.Ready.length:Int)>4)) then
          some false
        else
          aN_ k a0.Held (a0.Held.length:Int) 0 a0.Next a0.Held a0.Open a0.Ready
def e6_ (k:Nat) (a0:am_):Option (am_):=
  (app 40 ([]:List ah_) a0.Items).bind fun l1=>
  some (⟨a0.Base,l1⟩:am_)
def e0_ (k:Nat) (a0:al_):Option (al_):=
  (app 32 ([]:List ai_) a0.Held).bind fun l1=>
  (app 16 ([]:List ByteArray) a0.Ready).bind fun l2=>
  some (⟨a0.Next,l1,a0.Open,l2⟩:al_)
mutual
def cz_:Nat→Int→Int→Int→List Int→List ah_→List ah_→Option (am_×List Int)
  | 0,_,_,_,_,_,_=>none
  | k+1,x0,x1,x2,x3,x4,x5=>
    bif (decide (x0<(x5.length:Int))) then
      bif (decide (x0<8)) then
        (idx x5 x0).bind fun _=>
        (x5[(Int.toNat x0)]?).bind fun y3=>
        bif y3.Has then
          b2_ k x0 x1 x2 x3 x4 x5
        else
          (x5[(Int.toNat x0)]?).bind fun y4=>
          bif (y4.Since==(-1)) then
            (x5[(Int.toNat x0)]?).bind fun y5=>
            (app 8 x3 ([(IntKind.wrap .i64 (x2+x0))]:List Int)).bind fun l6=>
            b2_ k x0 x1 x2 l6 x4 (x5.set (Int.toNat x0) (⟨y5.Part,y5.Has,0⟩:ah_))
          else
            (x5[(Int.toNat x0)]?).bind fun y7=>
            bif (y7.Since==3) then
              (x5[(Int.toNat x0)]?).bind fun y8=>
              (app 8 x3 ([(IntKind.wrap .i64 (x2+x0))]:List Int)).bind fun l9=>
              b2_ k x0 x1 x2 l9 x4 (x5.set (Int.toNat x0) (⟨y8.Part,y8.Has,0⟩:ah_))
            else
              (x5[(Int.toNat x0)]?).bind fun y10=>
              (x5[(Int.toNat x0)]?).bind fun y11=>
              b2_ k x0 x1 x2 x3 x4 (x5.set (Int.toNat x0) (⟨y11.Part,y11.Has,(IntKind.wrap .i64 (y10.Since+1))⟩:ah_))
      else
        some ((⟨x2,x5⟩:am_),x3)
    else
      some ((⟨x2,x5⟩:am_),x3)
def b2_:Nat→Int→Int→Int→List Int→List ah_→List ah_→Option (am_×List Int)
  | 0,_,_,_,_,_,_=>none
  | k+1,x0,x1,x2,x3,x4,x5=>
    cz_ k (IntKind.wrap .i64 (x0+1)) x1 x2 x3 x4 x5
end
def ge_ (k:Nat) (a0:am_):Option (am_×List Int):=
  (bq_ k a0).bind fun r1=>
  bif (!r1) then
    some ((⟨0,([]:List ah_)⟩:am_),([]:List Int))
  else
    (e6_ k a0).bind fun r2=>
    cz_ k 0 0 r2.Base ([]:List Int) ([]:List ah_) r2.Items
def cx_:Nat→Int→List ai_→Int→Int→Int→List ai_→ByteArray→List ByteArray→Option (Int×Int)
  | 0,_,_,_,_,_,_,_,_=>none
  | k+1,x0,x1,x2,x3,x4,x5,x6,x7=>
    bif (decide (x3<x2)) then
      (idx x1 x3).bind fun y2=>
      (shift .shl .i64 1 (IntKind.wrap .i64 (y2.Seq-x4))).bind fun s3=>
      cx_ k (wC_ .i64 x0 s3) x1 x2 (IntKind.wrap .i64 (x3+1)) x4 x5 x6 x7
    else
      some (x4,x0)
def dT_ (k:Nat) (a0:al_):Option (Int×Int):=
  (bL_ k a0).bind fun r1=>
  bif (!r1) then
    some (0,0)
  else
    cx_ k 0 a0.Held (a0.Held.length:Int) 0 a0.Next a0.Held a0.Open a0.Ready
def a4_ (k:Nat) (a0:ad_):Option (Bool):=
  bif (a0.From !=1) then
    bif (a0.From !=2) then
      some false
    else
      (aQ_ k a0.Mine 1 1000).bind fun r1=>
      bif (!r1) then
        some false
      else
        (aQ_ k a0.Yours 0 1000).bind fun r2=>
        bif (!r2) then
          some false
        else
          bif (a0.Kind==1) then
            (aQ_ k a0.Next 0 1000000).bind fun r3=>
            bif r3 then
              (aQ_ k a0.Mask 0 255).bind fun r4=>
              bif r4 then
                bif (a0.Seq==0) then
                  bif (!a0.Last) then
                    some (a0.Part.toList==(⟨#[]⟩:ByteArray).toList)
                  else
                    some false
                else
                  some false
              else
                some false
            else
              some false
          else
            bif (a0.Kind==2) then
              bif (a0.Next==0) then
                bif (a0.Mask==0) then
                  (aQ_ k a0.Seq 0 999999).bind fun r5=>
                  bif r5 then
                    some (decide ((a0.Part.size:Int)≤20))
                  else
                    some false
                else
                  some false
              else
                some false
            else
              some false
  else
    (aQ_ k a0.Mine 1 1000).bind fun r6=>
    bif (!r6) then
      some false
    else
      (aQ_ k a0.Yours 0 1000).bind fun r7=>
      bif (!r7) then
        some false
      else
        bif (a0.Kind==1) then
          (aQ_ k a0.Next 0 1000000).bind fun r8=>
          bif r8 then
            (aQ_ k a0.Mask 0 255).bind fun r9=>
            bif r9 then
              bif (a0.Seq==0) then
                bif (!a0.Last) then
                  some (a0.Part.toList==(⟨#[]⟩:ByteArray).toList)
                else
                  some false
              else
                some false
            else
              some false
          else
            some false
        else
          bif (a0.Kind==2) then
            bif (a0.Next==0) then
              bif (a0.Mask==0) then
                (aQ_ k a0.Seq 0 999999).bind fun r10=>
                bif r10 then
                  some (decide ((a0.Part.size:Int)≤20))
                else
                  some false
              else
                some false
            else
              some false
          else
            some false
def go_:Nat→Int→Int→List Int→Option (ByteArray)
  | 0,_,_,_=>none
  | k+1,x0,x1,x2=>
    bif (decide (x1≥0)) then
      (idx x2 x1).bind fun _=>
      (x2[(Int.toNat x1)]?).bind fun y2=>
      (shift .shr .i64 x0 8).bind fun s3=>
      go_ k s3 (IntKind.wrap .i64 (x1-1)) (x2.set (Int.toNat x1) (IntKind.wrap .u8 x0))
    else
      some (jV_ x2)
def gx_ (k:Nat) (a0:Int) (a1:Int):Option (ByteArray):=
  (if (a1:Int)=a1 then room 1 a1 else none).bind fun n1=>
  go_ k a0 (IntKind.wrap .i64 (a1-1)) (List.replicate n1 0)
mutual
def fn_:Nat→Int→Int→ByteArray→Int→Option (ByteArray)
  | 0,_,_,_,_=>none
  | k+1,x0,x1,x2,x3=>
    bif (decide (x3<(x2.size:Int))) then
      (tv_ x2 x3).bind fun c3=>
      fn_ k x0 (IntKind.wrap .u64 ((wy_ .u64 x1 (IntKind.wrap .u64 (c3.toNat:Int)))*1099511628211)) x2 (IntKind.wrap .i64 (x3+1))
    else
      eD_ k x0 x1 7 (List.replicate 8 0)
def eD_:Nat→Int→Int→Int→List Int→Option (ByteArray)
  | 0,_,_,_,_=>none
  | k+1,x0,x1,x2,x3=>
    bif (decide (x2≥0)) then
      (if x3.length=8 then idx x3 x2 else none).bind fun _=>
      (x3[(Int.toNat x2)]?).bind fun y4=>
      (shift .shr .u64 x1 8).bind fun s5=>
      eD_ k x0 s5 (IntKind.wrap .i64 (x2-1)) (x3.set (Int.toNat x2) (IntKind.wrap .u8 x1))
    else
      (if x3.length=8 then wnd 8 (IntKind.wrap .i64 (8-x0)) (8:Int) else none).bind fun p6=>
      some (jV_ (dS_ x3 p6.1 p6.2))
end
def oV_ (k:Nat) (a0:ByteArray) (a1:ByteArray) (a2:Int):Option (ByteArray):=
  bif (decide (a2<1)) then
    some (⟨#[]⟩:ByteArray)
  else
    bif (decide (a2>8)) then
      some (⟨#[]⟩:ByteArray)
    else
      bif (decide ((a1.size:Int)>30)) then
        some (⟨#[]⟩:ByteArray)
      else
        (jF_ a1 (⟨#[0]⟩:ByteArray)).bind fun t1=>
        (jF_ t1 a0).bind fun t2=>
        fn_ k a2 14695981039346656037 t2 0
mutual
def co_:Nat→ByteArray→Int→ByteArray→Option (ByteArray)
  | 0,_,_,_=>none
  | k+1,x0,x1,x2=>
    (oV_ k x2 x0 x1).bind fun r13=>
    (jF_ r13 x2).bind fun t14=>
    some t14
def cH_:Nat→ByteArray→Int→ByteArray→Int→Int→Int→Int→Int→Int→Int→Int→Bool→ByteArray→Option (ByteArray)
  | 0,_,_,_,_,_,_,_,_,_,_,_,_,_=>none
  | k+1,x0,x1,x2,x3,x4,x5,x6,x7,x8,x9,x10,x11,x12=>
    (gx_ k x10 4).bind fun r15=>
    (gx_ k x3 1).bind fun r16=>
    (jF_ r15 r16).bind fun t17=>
    (jF_ t17 x12).bind fun t18=>
    (jF_ x2 t18).bind fun t19=>
    co_ k x0 x1 t19
end
def c0_ (k:Nat) (a0:ad_) (a1:ByteArray) (a2:Int):Option (ByteArray):=
  (a4_ k a0).bind fun r1=>
  bif (!r1) then
    some (⟨#[]⟩:ByteArray)
  else
    bif (decide (a2<1)) then
      some (⟨#[]⟩:ByteArray)
    else
      bif (decide (a2>8)) then
        some (⟨#[]⟩:ByteArray)
      else
        bif (decide ((a1.size:Int)>30)) then
          some (⟨#[]⟩:ByteArray)
        else
          (gx_ k a0.Kind 1).bind fun r2=>
          (gx_ k a0.From 1).bind fun r3=>
          (jF_ r2 r3).bind fun t4=>
          (gx_ k a0.Mine 2).bind fun r5=>
          (jF_ t4 r5).bind fun t6=>
          (gx_ k a0.Yours 2).bind fun r7=>
          (jF_ t6 r7).bind fun t8=>
          bif (a0.Kind==1) then
            (gx_ k a0.Next 4).bind fun r9=>
            (gx_ k a0.Mask 1).bind fun r10=>
            (jF_ r9 r10).bind fun t11=>
            (jF_ t8 t11).bind fun t12=>
            co_ k a1 a2 t12
          else
            bif a0.Last then
              cH_ k a1 a2 t8 1 a0.Kind a0.From a0.Mine a0.Yours a0.Next a0.Mask a0.Seq a0.Last a0.Part
            else
              cH_ k a1 a2 t8 0 a0.Kind a0.From a0.Mine a0.Yours a0.Next a0.Mask a0.Seq a0.Last a0.Part
def fd_:Nat→ByteArray→Int→Int→Option (Int)
  | 0,_,_,_=>none
  | k+1,x0,x1,x2=>
    bif (decide (x2<(x0.size:Int))) then
      (shift .shl .i64 x1 8).bind fun s1=>
      (tv_ x0 x2).bind fun c2=>
      fd_ k x0 (wC_ .i64 s1 (IntKind.wrap .i64 (c2.toNat:Int))) (IntKind.wrap .i64 (x2+1))
    else
      some x1
def jM_ (k:Nat) (a0:ByteArray):Option (Int):=
  fd_ k a0 0 0
def bi_:Nat→ByteArray→ByteArray→Int→Int→Int→Int→Int→Int→Int→Int→Bool→ByteArray→Int→Int→Int→Int→Int→Int→Int→Bool→ByteArray→Option (ad_×Bool)
  | 0,_,_,_,_,_,_,_,_,_,_,_,_,_,_,_,_,_,_,_,_,_=>none
  | k+1,x0,x1,x2,x3,x4,x5,x6,x7,x8,x9,x10,x11,x12,x13,x14,x15,x16,x17,x18,x19,x20=>
    (a4_ k (⟨x12,x13,x14,x15,x16,x17,x18,x19,x20⟩:ad_)).bind fun r15=>
    bif (!r15) then
      some ((⟨0,0,0,0,0,0,0,false,(⟨#[]⟩:ByteArray)⟩:ad_),false)
    else
      (c0_ k (⟨x12,x13,x14,x15,x16,x17,x18,x19,x20⟩:ad_) x1 x2).bind fun r16=>
      bif (!(r16.toList==x0.toList)) then
        some ((⟨0,0,0,0,0,0,0,false,(⟨#[]⟩:ByteArray)⟩:ad_),false)
      else
        some ((⟨x12,x13,x14,x15,x16,x17,x18,x19,x20⟩:ad_),true)
def eM_ (k:Nat) (a0:ByteArray) (a1:ByteArray) (a2:Int):Option (ad_×Bool):=
  bif (decide (a2<1)) then
    some ((⟨0,0,0,0,0,0,0,false,(⟨#[]⟩:ByteArray)⟩:ad_),false)
  else
    bif (decide (a2>8)) then
      some ((⟨0,0,0,0,0,0,0,false,(⟨#[]⟩:ByteArray)⟩:ad_),false)
    else
      bif (decide ((a1.size:Int)>30)) then
        some ((⟨0,0,0,0,0,0,0,false,(⟨#[]⟩:ByteArray)⟩:ad_),false)
      else
        bif (decide ((a0.size:Int)<(IntKind.wrap .i64 (a2+11)))) then
          some ((⟨0,0,0,0,0,0,0,false,(⟨#[]⟩:ByteArray)⟩:ad_),false)
        else
          (wnd a0.size a2 (a0.size:Int)).bind fun p1=>
          (tv_ (a0.extract p1.1 p1.2) 0).bind fun c2=>
          (tv_ (a0.extract p1.1 p1.2) 1).bind fun c3=>
          (wnd (a0.extract p1.1 p1.2).size 2 4).bind fun p4=>
          (jM_ k ((a0.extract p1.1 p1.2).extract p4.1 p4.2)).bind fun r5=>
          (wnd (a0.extract p1.1 p1.2).size 4 6).bind fun p6=>
          (jM_ k ((a0.extract p1.1 p1.2).extract p6.1 p6.2)).bind fun r7=>
          bif ((IntKind.wrap .i64 (c2.toNat:Int))==1) then
            (wnd (a0.extract p1.1 p1.2).size 6 10).bind fun p8=>
            (jM_ k ((a0.extract p1.1 p1.2).extract p8.1 p8.2)).bind fun r9=>
            (tv_ (a0.extract p1.1 p1.2) 10).bind fun c10=>
            bi_ k a0 a1 a2 0 0 0 0 0 0 0 false (⟨#[]⟩:ByteArray) (IntKind.wrap .i64 (c2.toNat:Int)) (IntKind.wrap .i64 (c3.toNat:Int)) r5 r7 r9 (IntKind.wrap .i64 (c10.toNat:Int)) 0 false (⟨#[]⟩:ByteArray)
          else
            bif ((IntKind.wrap .i64 (c2.toNat:Int))==2) then
              (wnd (a0.extract p1.1 p1.2).size 6 10).bind fun p11=>
              (jM_ k ((a0.extract p1.1 p1.2).extract p11.1 p11.2)).bind fun r12=>
              (tv_ (a0.extract p1.1 p1.2) 10).bind fun c13=>
              (wnd (a0.extract p1.1 p1.2).size 11 ((a0.extract p1.1 p1.2).size:Int)).bind fun p14=>
              bi_ k a0 a1 a2 0 0 0 0 0 0 0 false (⟨#[]⟩:ByteArray) (IntKind.wrap .i64 (c2.toNat:Int)) (IntKind.wrap .i64 (c3.toNat:Int)) r5 r7 0 0 r12 ((c13.toNat:Int)==1) ((a0.extract p1.1 p1.2).extract p14.1 p14.2)
            else
              bi_ k a0 a1 a2 0 0 0 0 0 0 0 false (⟨#[]⟩:ByteArray) (IntKind.wrap .i64 (c2.toNat:Int)) (IntKind.wrap .i64 (c3.toNat:Int)) r5 r7 0 0 0 false (⟨#[]⟩:ByteArray)
mutual
def cF_:Nat→Int→Int→Int→Int→Int→List ah_→List ah_→Option (am_)
  | 0,_,_,_,_,_,_,_=>none
  | k+1,x0,x1,x2,x3,x4,x5,x6=>
    bif (decide (x2<(x6.length:Int))) then
      (idx x6 x2).bind fun _=>
      (x6[(Int.toNat x2)]?).bind fun y3=>
      bif (decide (y3.Since≥0)) then
        cF_ k x0 x1 (IntKind.wrap .i64 (x2+1)) x3 x4 x5 x6
      else
        bif (decide (x0<x4)) then
          some (⟨x4,x6⟩:am_)
        else
          bif (decide (x0>(IntKind.wrap .i64 (x4+x2)))) then
            some (⟨x4,x6⟩:am_)
          else
            (aQ_ k x1 0 255).bind fun r4=>
            bif (!r4) then
              some (⟨x4,x6⟩:am_)
            else
              (wnd x6.length (IntKind.wrap .i64 (x0-x4)) (x6.length:Int)).bind fun p5=>
              (app 40 ([]:List ah_) (dS_ x6 p5.1 p5.2)).bind fun l6=>
              bo_ k x1 0 x3 x0 x5 l6
    else
      bif (decide (x0<x4)) then
        some (⟨x4,x6⟩:am_)
      else
        bif (decide (x0>(IntKind.wrap .i64 (x4+x2)))) then
          some (⟨x4,x6⟩:am_)
        else
          (aQ_ k x1 0 255).bind fun r7=>
          bif (!r7) then
            some (⟨x4,x6⟩:am_)
          else
            (wnd x6.length (IntKind.wrap .i64 (x0-x4)) (x6.length:Int)).bind fun p8=>
            (app 40 ([]:List ah_) (dS_ x6 p8.1 p8.2)).bind fun l9=>
            bo_ k x1 0 x3 x0 x5 l9
def bo_:Nat→Int→Int→Int→Int→List ah_→List ah_→Option (am_)
  | 0,_,_,_,_,_,_=>none
  | k+1,x0,x1,x2,x3,x4,x5=>
    bif (decide (x1<8)) then
      bif (decide (x1<(x5.length:Int))) then
        (shift .shr .i64 x0 x1).bind fun s10=>
        bif ((zD_ .i64 s10 1)==1) then
          (idx x5 x1).bind fun _=>
          (x5[(Int.toNat x1)]?).bind fun y11=>
          bif (decide (y11.Since≥0)) then
            (idx x5 x1).bind fun _=>
            (x5[(Int.toNat x1)]?).bind fun y12=>
            cf_ k x0 x1 x2 x3 x4 (x5.set (Int.toNat x1) (⟨y12.Part,true,y12.Since⟩:ah_))
          else
            cf_ k x0 x1 x2 x3 x4 x5
        else
          cf_ k x0 x1 x2 x3 x4 x5
      else
        some (⟨x3,x5⟩:am_)
    else
      some (⟨x3,x5⟩:am_)
def cf_:Nat→Int→Int→Int→Int→List ah_→List ah_→Option (am_)
  | 0,_,_,_,_,_,_=>none
  | k+1,x0,x1,x2,x3,x4,x5=>
    bo_ k x0 (IntKind.wrap .i64 (x1+1)) x2 x3 x4 x5
end
def gf_ (k:Nat) (a0:am_) (a1:Int) (a2:Int):Option (am_):=
  (bq_ k a0).bind fun r1=>
  bif (!r1) then
    some (⟨0,([]:List ah_)⟩:am_)
  else
    (e6_ k a0).bind fun r2=>
    cF_ k a1 a2 0 0 r2.Base ([]:List ah_) r2.Items
def eH_:Nat→Int→ByteArray→Int→ByteArray→List ai_→List ByteArray→List ai_→List ByteArray→Option (al_)
  | 0,_,_,_,_,_,_,_,_=>none
  | k+1,x0,x1,x2,x3,x4,x5,x6,x7=>
    bif (decide ((x4.length:Int)>0)) then
      (idx x4 0).bind fun _=>
      (x4[(Int.toNat 0)]?).bind fun y1=>
      bif (y1.Seq==x0) then
        (idx x4 0).bind fun _=>
        (x4[(Int.toNat 0)]?).bind fun y2=>
        (gv_ k (⟨x0,x4,x1,x5⟩:al_) y2.Part).bind fun r3=>
        bif r3 then
          (idx x4 0).bind fun _=>
          (x4[(Int.toNat 0)]?).bind fun y4=>
          (wnd x4.length 1 (x4.length:Int)).bind fun p5=>
          (app 32 ([]:List ai_) (dS_ x4 p5.1 p5.2)).bind fun l6=>
          (jF_ x1 y4.Part.Text).bind fun t7=>
          bif y4.Part.Last then
            (app 16 x5 ([t7]:List ByteArray)).bind fun l8=>
            eH_ k (IntKind.wrap .i64 (x0+1)) (⟨#[]⟩:ByteArray) x2 x3 l6 l8 x6 x7
          else
            eH_ k (IntKind.wrap .i64 (x0+1)) t7 x2 x3 l6 x5 x6 x7
        else
          some (⟨x0,x4,x1,x5⟩:al_)
      else
        some (⟨x0,x4,x1,x5⟩:al_)
    else
      some (⟨x0,x4,x1,x5⟩:al_)
def eT_ (k:Nat) (a0:al_):Option (al_):=
  eH_ k a0.Next a0.Open 0 (⟨#[]⟩:ByteArray) a0.Held a0.Ready ([]:List ai_) ([]:List ByteArray)
def cG_:Nat→Int→Int→ByteArray→Bool→Int→ByteArray→Int→ByteArray→List ai_→List ByteArray→List ai_→List ByteArray→Option (al_)
  | 0,_,_,_,_,_,_,_,_,_,_,_,_=>none
  | k+1,x0,x1,x2,x3,x4,x5,x6,x7,x8,x9,x10,x11=>
    bif (decide (x1<(x10.length:Int))) then
      (idx x10 x1).bind fun _=>
      (x10[(Int.toNat x1)]?).bind fun y4=>
      bif (decide (y4.Seq<x0)) then
        cG_ k x0 (IntKind.wrap .i64 (x1+1)) x2 x3 x4 x5 x6 x7 x8 x9 x10 x11
      else
        bif (decide (x1<(x10.length:Int))) then
          (idx x10 x1).bind fun _=>
          (x10[(Int.toNat x1)]?).bind fun y5=>
          bif (y5.Seq==x0) then
            some (⟨x6,x10,x7,x11⟩:al_)
          else
            (app 32 x10 ([(⟨0,(⟨(⟨#[]⟩:ByteArray),false⟩:aA_)⟩:ai_)]:List ai_)).bind fun l6=>
            (wnd l6.length (IntKind.wrap .i64 (x1+1)) (l6.length:Int)).bind fun p7=>
            (wnd l6.length x1 (l6.length:Int)).bind fun p8=>
            (idx (cpy l6 p7.1 p7.2 (dS_ l6 p8.1 p8.2)) x1).bind fun _=>
            ((cpy l6 p7.1 p7.2 (dS_ l6 p8.1 p8.2))[(Int.toNat x1)]?).bind fun y9=>
            (eT_ k (⟨x6,((cpy l6 p7.1 p7.2 (dS_ l6 p8.1 p8.2)).set (Int.toNat x1) (⟨x0,(⟨x2,x3⟩:aA_)⟩:ai_)),x7,x11⟩:al_)).bind fun r10=>
            some r10
        else
          (app 32 x10 ([(⟨0,(⟨(⟨#[]⟩:ByteArray),false⟩:aA_)⟩:ai_)]:List ai_)).bind fun l11=>
          (wnd l11.length (IntKind.wrap .i64 (x1+1)) (l11.length:Int)).bind fun p12=>
          (wnd l11.length x1 (l11.length:Int)).bind fun p13=>
          (idx (cpy l11 p12.1 p12.2 (dS_ l11 p13.1 p13.2)) x1).bind fun _=>
          ((cpy l11 p12.1 p12.2 (dS_ l11 p13.1 p13.2))[(Int.toNat x1)]?).bind fun y14=>
          (eT_ k (⟨x6,((cpy l11 p12.1 p12.2 (dS_ l11 p13.1 p13.2)).set (Int.toNat x1) (⟨x0,(⟨x2,x3⟩:aA_)⟩:ai_)),x7,x11⟩:al_)).bind fun r15=>
          some r15
    else
      bif (decide (x1<(x10.length:Int))) then
        (idx x10 x1).bind fun _=>
        (x10[(Int.toNat x1)]?).bind fun y16=>
        bif (y16.Seq==x0) then
          some (⟨x6,x10,x7,x11⟩:al_)
        else
          (app 32 x10 ([(⟨0,(⟨(⟨#[]⟩:ByteArray),false⟩:aA_)⟩:ai_)]:List ai_)).bind fun l17=>
          (wnd l17.length (IntKind.wrap .i64 (x1+1)) (l17.length:Int)).bind fun p18=>
          (wnd l17.length x1 (l17.length:Int)).bind fun p19=>
          (idx (cpy l17 p18.1 p18.2 (dS_ l17 p19.1 p19.2)) x1).bind fun _=>
          ((cpy l17 p18.1 p18.2 (dS_ l17 p19.1 p19.2))[(Int.toNat x1)]?).bind fun y20=>
          (eT_ k (⟨x6,((cpy l17 p18.1 p18.2 (dS_ l17 p19.1 p19.2)).set (Int.toNat x1) (⟨x0,(⟨x2,x3⟩:aA_)⟩:ai_)),x7,x11⟩:al_)).bind fun r21=>
          some r21
      else
        (app 32 x10 ([(⟨0,(⟨(⟨#[]⟩:ByteArray),false⟩:aA_)⟩:ai_)]:List ai_)).bind fun l22=>
        (wnd l22.length (IntKind.wrap .i64 (x1+1)) (l22.length:Int)).bind fun p23=>
        (wnd l22.length x1 (l22.length:Int)).bind fun p24=>
        (idx (cpy l22 p23.1 p23.2 (dS_ l22 p24.1 p24.2)) x1).bind fun _=>
        ((cpy l22 p23.1 p23.2 (dS_ l22 p24.1 p24.2))[(Int.toNat x1)]?).bind fun y25=>
        (eT_ k (⟨x6,((cpy l22 p23.1 p23.2 (dS_ l22 p24.1 p24.2)).set (Int.toNat x1) (⟨x0,(⟨x2,x3⟩:aA_)⟩:ai_)),x7,x11⟩:al_)).bind fun r26=>
        some r26
def gn_ (k:Nat) (a0:al_) (a1:Int) (a2:aA_):Option (al_):=
  (bL_ k a0).bind fun r1=>
  bif (!r1) then
    some (⟨0,([]:List ai_),(⟨#[]⟩:ByteArray),([]:List ByteArray)⟩:al_)
  else
    (e0_ k a0).bind fun r2=>
    (aQ_ k a1 a0.Next (IntKind.wrap .i64 ((IntKind.wrap .i64 (a0.Next+8))-1))).bind fun r3=>
    bif (!r3) then
      some r2
    else
      bif (decide (a1>999999)) then
        some r2
      else
        bif (decide ((a2.Text.size:Int)>20)) then
          some r2
        else
          cG_ k a1 0 a2.Text a2.Last 0 (⟨#[]⟩:ByteArray) r2.Next r2.Open ([]:List ai_) ([]:List ByteArray) r2.Held r2.Ready
def gj_ (k:Nat) (a0:al_):Option (al_×ByteArray×Bool):=
  (bL_ k a0).bind fun r1=>
  bif (!r1) then
    some ((⟨0,([]:List ai_),(⟨#[]⟩:ByteArray),([]:List ByteArray)⟩:al_),(⟨#[]⟩:ByteArray),false)
  else
    (e0_ k a0).bind fun r2=>
    bif ((r2.Ready.length:Int)==0) then
      some (r2,(⟨#[]⟩:ByteArray),false)
    else
      (idx r2.Ready 0).bind fun _=>
      (r2.Ready[(Int.toNat 0)]?).bind fun y3=>
      (wnd r2.Ready.length 1 (r2.Ready.length:Int)).bind fun p4=>
      (app 16 ([]:List ByteArray) (dS_ r2.Ready p4.1 p4.2)).bind fun l5=>
      (eT_ k (⟨r2.Next,r2.Held,r2.Open,l5⟩:al_)).bind fun r6=>
      some (r6,y3,true)
def aL_:Nat→Int→Int→List ah_→Option (Bool)
  | 0,_,_,_=>none
  | k+1,x0,x1,x2=>
    bif (decide (x0<(x2.length:Int))) then
      (idx x2 x0).bind fun y2=>
      bif (decide ((y2.Part.Text.size:Int)>20)) then
        some false
      else
        (aC_ k y2.Since (-1) 3).bind fun r3=>
        bif (!r3) then
          some false
        else
          bif (decide (x0≥8)) then
            bif (y2.Since !=(-1)) then
              some false
            else
              bif y2.Has then
                bif (decide (y2.Since<0)) then
                  some false
                else
                  aL_ k (IntKind.wrap .i64 (x0+1)) x1 x2
              else
                aL_ k (IntKind.wrap .i64 (x0+1)) x1 x2
          else
            bif y2.Has then
              bif (decide (y2.Since<0)) then
                some false
              else
                aL_ k (IntKind.wrap .i64 (x0+1)) x1 x2
            else
              aL_ k (IntKind.wrap .i64 (x0+1)) x1 x2
    else
      some true
def br_ (k:Nat) (a0:am_):Option (Bool):=
  bif (decide ((a0.Items.length:Int)>60)) then
    some false
  else
    (aC_ k a0.Base 0 1000000).bind fun r1=>
    bif (!r1) then
      some false
    else
      bif (decide ((IntKind.wrap .i64 (a0.Base+(a0.Items.length:Int)))>1000000)) then
        some false
      else
        aL_ k 0 a0.Base a0.Items
def gB_ (k:Nat) (a0:al_) (a1:Int):Option (Bool):=
  (aC_ k a1 a0.Next (IntKind.wrap .i64 ((IntKind.wrap .i64 (a0.Next+8))-1))).bind fun r1=>
  bif r1 then
    some (decide (a1≤999999))
  else
    some false
def eG_ (k:Nat) (a0:al_) (a1:aA_):Option (Bool):=
  bif (decide ((IntKind.wrap .i64 ((a0.Open.size:Int)+(a1.Text.size:Int)))≤200)) then
    bif (!a1.Last) then
      some true
    else
      some (decide ((a0.Ready.length:Int)<4))
  else
    some false
mutual
def cc_:Nat→Int→Int→List ai_→ByteArray→List ByteArray→Option (Bool)
  | 0,_,_,_,_,_=>none
  | k+1,x0,x1,x2,x3,x4=>
    bif (decide (x0<(x4.length:Int))) then
      (idx x4 x0).bind fun y2=>
      bif (decide ((y2.size:Int)>200)) then
        some false
      else
        cc_ k (IntKind.wrap .i64 (x0+1)) x1 x2 x3 x4
    else
      aM_ k 0 x1 x2 x3 x4
def aM_:Nat→Int→Int→List ai_→ByteArray→List ByteArray→Option (Bool)
  | 0,_,_,_,_,_=>none
  | k+1,x0,x1,x2,x3,x4=>
    bif (decide (x0<(x2.length:Int))) then
      (idx x2 x0).bind fun y3=>
      (gB_ k (⟨x1,x2,x3,x4⟩:al_) y3.Seq).bind fun r4=>
      bif (!r4) then
        some false
      else
        bif (decide ((y3.Part.Text.size:Int)>20)) then
          some false
        else
          bif (decide (x0>0)) then
            (idx x2 (IntKind.wrap .i64 (x0-1))).bind fun y5=>
            bif (decide (y5.Seq≥y3.Seq)) then
              some false
            else
              bif (y3.Seq==x1) then
                (eG_ k (⟨x1,x2,x3,x4⟩:al_) y3.Part).bind fun r6=>
                bif r6 then
                  some false
                else
                  aM_ k (IntKind.wrap .i64 (x0+1)) x1 x2 x3 x4
              else
                aM_ k (IntKind.wrap .i64 (x0+1)) x1 x2 x3 x4
          else
            bif (y3.Seq==x1) then
              (eG_ k (⟨x1,x2,x3,x4⟩:al_) y3.Part).bind fun r7=>
              bif r7 then
                some false
              else
                aM_ k (IntKind.wrap .i64 (x0+1)) x1 x2 x3 x4
            else
              aM_ k (IntKind.wrap .i64 (x0+1)) x1 x2 x3 x4
    else
      some true
end
def cK_ (k:Nat) (a0:al_):Option (Bool):=
  (aC_ k a0.Next 0 1000000).bind fun r1=>
  bif (!r1) then
    some false
  else
    bif (decide ((a0.Held.length:Int)>8)) then
      some false
    else
      bif (decide ((a0.Open.size:Int)>200)) then
        some false
      else
        bif (decide ((a0.Ready.length:Int)>4)) then
          some false
        else
          cc_ k 0 a0.Next a0.Held a0.Open a0.Ready
def eC_ (k:Nat) (a0:am_):Option (am_):=
  (app 40 ([]:List ah_) a0.Items).bind fun l1=>
  some (⟨a0.Base,l1⟩:am_)
def fk_ (k:Nat) (a0:al_):Option (al_):=
  (app 32 ([]:List ai_) a0.Held).bind fun l1=>
  (app 16 ([]:List ByteArray) a0.Ready).bind fun l2=>
  some (⟨a0.Next,l1,a0.Open,l2⟩:al_)
mutual
def cA_:Nat→Int→Int→List ah_→Int→List Int→Int→List ah_→List ah_→Option (am_×List Int)
  | 0,_,_,_,_,_,_,_,_=>none
  | k+1,x0,x1,x2,x3,x4,x5,x6,x7=>
    bif (decide (x0<(x7.length:Int))) then
      bif (decide (x0<8)) then
        (idx x7 x0).bind fun _=>
        (x7[(Int.toNat x0)]?).bind fun y3=>
        bif y3.Has then
          b4_ k x0 x1 x2 x3 x4 x5 x6 x7
        else
          bif (y3.Since==(-1)) then
            (app 8 x4 ([(IntKind.wrap .i64 (x1+x0))]:List Int)).bind fun l4=>
            (idx x7 x0).bind fun _=>
            (x7[(Int.toNat x0)]?).bind fun y5=>
            b4_ k x0 x1 x2 x3 l4 x5 x6 (x7.set (Int.toNat x0) (⟨y5.Part,y5.Has,0⟩:ah_))
          else
            bif (y3.Since==3) then
              (app 8 x4 ([(IntKind.wrap .i64 (x1+x0))]:List Int)).bind fun l6=>
              (idx x7 x0).bind fun _=>
              (x7[(Int.toNat x0)]?).bind fun y7=>
              b4_ k x0 x1 x2 x3 l6 x5 x6 (x7.set (Int.toNat x0) (⟨y7.Part,y7.Has,0⟩:ah_))
            else
              (idx x7 x0).bind fun _=>
              (x7[(Int.toNat x0)]?).bind fun y8=>
              b4_ k x0 x1 x2 x3 x4 x5 x6 (x7.set (Int.toNat x0) (⟨y8.Part,y8.Has,(IntKind.wrap .i64 (y3.Since+1))⟩:ah_))
      else
        some ((⟨x5,x7⟩:am_),x4)
    else
      some ((⟨x5,x7⟩:am_),x4)
def b4_:Nat→Int→Int→List ah_→Int→List Int→Int→List ah_→List ah_→Option (am_×List Int)
  | 0,_,_,_,_,_,_,_,_=>none
  | k+1,x0,x1,x2,x3,x4,x5,x6,x7=>
    cA_ k (IntKind.wrap .i64 (x0+1)) x1 x2 x3 x4 x5 x6 x7
end
def f3_ (k:Nat) (a0:am_):Option (am_×List Int):=
  (br_ k a0).bind fun r1=>
  bif (!r1) then
    some ((⟨0,([]:List ah_)⟩:am_),([]:List Int))
  else
    (eC_ k a0).bind fun r2=>
    cA_ k 0 a0.Base a0.Items 0 ([]:List Int) r2.Base ([]:List ah_) r2.Items
mutual
def b1_:Nat→Int→Int→Int→List ai_→ByteArray→List ByteArray→Option (Int×Int)
  | 0,_,_,_,_,_,_=>none
  | k+1,x0,x1,x2,x3,x4,x5=>
    bif (decide (x1<(x3.length:Int))) then
      cD_ k x0 x1 1 x2 x2 x3 x4 x5
    else
      some (x2,x0)
def cD_:Nat→Int→Int→Int→Int→Int→List ai_→ByteArray→List ByteArray→Option (Int×Int)
  | 0,_,_,_,_,_,_,_,_=>none
  | k+1,x0,x1,x2,x3,x4,x5,x6,x7=>
    (idx x5 x1).bind fun y2=>
    bif (decide (x3<y2.Seq)) then
      cD_ k x0 x1 (IntKind.wrap .i64 (x2*2)) (IntKind.wrap .i64 (x3+1)) x4 x5 x6 x7
    else
      b1_ k (IntKind.wrap .i64 (x0+x2)) (IntKind.wrap .i64 (x1+1)) x4 x5 x6 x7
end
def d0_ (k:Nat) (a0:al_):Option (Int×Int):=
  (cK_ k a0).bind fun r1=>
  bif (!r1) then
    some (0,0)
  else
    b1_ k 0 0 a0.Next a0.Held a0.Open a0.Ready
def cT_:Nat→Int→Int→List ah_→Option (Int)
  | 0,_,_,_=>none
  | k+1,x0,x1,x2=>
    bif (decide (x0<(x2.length:Int))) then
      (idx x2 x0).bind fun y1=>
      bif (decide (y1.Since≥0)) then
        cT_ k (IntKind.wrap .i64 (x0+1)) x1 x2
      else
        some x0
    else
      some x0
def ny_ (k:Nat) (a0:am_):Option (Int):=
  cT_ k 0 a0.Base a0.Items
mutual
def bb_:Nat→Int→Int→Int→Int→List ah_→List ah_→Option (am_)
  | 0,_,_,_,_,_,_=>none
  | k+1,x0,x1,x2,x3,x4,x5=>
    bif (decide (x1<8)) then
      (oK_ x0 2).bind fun q7=>
      bif (q7==1) then
        bif (decide (x1<(x5.length:Int))) then
          (idx x5 x1).bind fun _=>
          (x5[(Int.toNat x1)]?).bind fun y8=>
          bif (decide (y8.Since≥0)) then
            (idx x5 x1).bind fun _=>
            (x5[(Int.toNat x1)]?).bind fun y9=>
            a6_ k x0 x1 x2 x3 x4 (x5.set (Int.toNat x1) (⟨y9.Part,true,y9.Since⟩:ah_))
          else
            a6_ k x0 x1 x2 x3 x4 x5
        else
          a6_ k x0 x1 x2 x3 x4 x5
      else
        a6_ k x0 x1 x2 x3 x4 x5
    else
      some (⟨x3,x5⟩:am_)
def a6_:Nat→Int→Int→Int→Int→List ah_→List ah_→Option (am_)
  | 0,_,_,_,_,_,_=>none
  | k+1,x0,x1,x2,x3,x4,x5=>
    (yC_ x0 2).bind fun q10=>
    bb_ k (IntKind.wrap .i64 (q10)) (IntKind.wrap .i64 (x1+1)) x2 x3 x4 x5
end
def f7_ (k:Nat) (a0:am_) (a1:Int) (a2:Int):Option (am_):=
  (br_ k a0).bind fun r1=>
  bif (!r1) then
    some (⟨0,([]:List ah_)⟩:am_)
  else
    (eC_ k a0).bind fun r2=>
    bif (decide (a1<a0.Base)) then
      some r2
    else
      (ny_ k a0).bind fun r3=>
      bif (decide (a1>(IntKind.wrap .i64 (a0.Base+r3)))) then
        some r2
      else
        (aC_ k a2 0 255).bind fun r4=>
        bif (!r4) then
          some r2
        else
          (wnd r2.Items.length (IntKind.wrap .i64 (a1-a0.Base)) (r2.Items.length:Int)).bind fun p5=>
          (app 40 ([]:List ah_) (dS_ r2.Items p5.1 p5.2)).bind fun l6=>
          bb_ k a2 0 0 a1 ([]:List ah_) l6
def cI_:Nat→Int→ByteArray→Int→ByteArray→List ai_→List ByteArray→List ai_→List ByteArray→Option (al_)
  | 0,_,_,_,_,_,_,_,_=>none
  | k+1,x0,x1,x2,x3,x4,x5,x6,x7=>
    bif (decide ((x4.length:Int)>0)) then
      (idx x4 0).bind fun _=>
      (x4[(Int.toNat 0)]?).bind fun y1=>
      bif (y1.Seq==x0) then
        (idx x4 0).bind fun _=>
        (x4[(Int.toNat 0)]?).bind fun y2=>
        (eG_ k (⟨x0,x4,x1,x5⟩:al_) y2.Part).bind fun r3=>
        bif r3 then
          (idx x4 0).bind fun _=>
          (x4[(Int.toNat 0)]?).bind fun y4=>
          (wnd x4.length 1 (x4.length:Int)).bind fun p5=>
          (app 32 ([]:List ai_) (dS_ x4 p5.1 p5.2)).bind fun l6=>
          (jF_ x1 y4.Part.Text).bind fun t7=>
          bif y4.Part.Last then
            (app 16 x5 ([t7]:List ByteArray)).bind fun l8=>
            cI_ k (IntKind.wrap .i64 (x0+1)) (⟨#[]⟩:ByteArray) x2 x3 l6 l8 x6 x7
          else
            cI_ k (IntKind.wrap .i64 (x0+1)) t7 x2 x3 l6 x5 x6 x7
        else
          some (⟨x0,x4,x1,x5⟩:al_)
      else
        some (⟨x0,x4,x1,x5⟩:al_)
    else
      some (⟨x0,x4,x1,x5⟩:al_)
def i0_ (k:Nat) (a0:al_):Option (al_):=
  cI_ k a0.Next a0.Open 0 (⟨#[]⟩:ByteArray) a0.Held a0.Ready ([]:List ai_) ([]:List ByteArray)
mutual
def be_:Nat→Int→Bool→Int→Int→List ai_→ByteArray→List ByteArray→ByteArray→Bool→Int→ByteArray→Int→ByteArray→List ai_→List ai_→List ByteArray→List ai_→List ByteArray→Option (al_)
  | 0,_,_,_,_,_,_,_,_,_,_,_,_,_,_,_,_,_,_=>none
  | k+1,x0,x1,x2,x3,x4,x5,x6,x7,x8,x9,x10,x11,x12,x13,x14,x15,x16,x17=>
    bif (decide (x2<(x4.length:Int))) then
      (idx x4 x2).bind fun y4=>
      bif (y4.Seq==x0) then
        some (⟨x11,x16,x12,x17⟩:al_)
      else
        bif (!x1) then
          (idx x4 x2).bind fun y5=>
          bif (decide (y5.Seq>x0)) then
            (app 32 x13 ([(⟨x0,(⟨x7,x8⟩:aA_)⟩:ai_)]:List ai_)).bind fun l6=>
            bB_ k x0 true x2 x3 x4 x5 x6 x7 x8 x9 x10 x11 x12 l6 x14 x15 x16 x17
          else
            bB_ k x0 x1 x2 x3 x4 x5 x6 x7 x8 x9 x10 x11 x12 x13 x14 x15 x16 x17
        else
          bB_ k x0 x1 x2 x3 x4 x5 x6 x7 x8 x9 x10 x11 x12 x13 x14 x15 x16 x17
    else
      bif (!x1) then
        (app 32 x13 ([(⟨x0,(⟨x7,x8⟩:aA_)⟩:ai_)]:List ai_)).bind fun l7=>
        cW_ k x9 x10 x11 x12 l7 x14 x15 x16 x17
      else
        cW_ k x9 x10 x11 x12 x13 x14 x15 x16 x17
def bB_:Nat→Int→Bool→Int→Int→List ai_→ByteArray→List ByteArray→ByteArray→Bool→Int→ByteArray→Int→ByteArray→List ai_→List ai_→List ByteArray→List ai_→List ByteArray→Option (al_)
  | 0,_,_,_,_,_,_,_,_,_,_,_,_,_,_,_,_,_,_=>none
  | k+1,x0,x1,x2,x3,x4,x5,x6,x7,x8,x9,x10,x11,x12,x13,x14,x15,x16,x17=>
    (idx x4 x2).bind fun y8=>
    (app 32 x13 ([y8]:List ai_)).bind fun l9=>
    be_ k x0 x1 (IntKind.wrap .i64 (x2+1)) x3 x4 x5 x6 x7 x8 x9 x10 x11 x12 l9 x14 x15 x16 x17
def cW_:Nat→Int→ByteArray→Int→ByteArray→List ai_→List ai_→List ByteArray→List ai_→List ByteArray→Option (al_)
  | 0,_,_,_,_,_,_,_,_,_=>none
  | k+1,x0,x1,x2,x3,x4,x5,x6,x7,x8=>
    (i0_ k (⟨x2,x4,x3,x8⟩:al_)).bind fun r10=>
    some r10
end
def gg_ (k:Nat) (a0:al_) (a1:Int) (a2:aA_):Option (al_):=
  (cK_ k a0).bind fun r1=>
  bif (!r1) then
    some (⟨0,([]:List ai_),(⟨#[]⟩:ByteArray),([]:List ByteArray)⟩:al_)
  else
    (fk_ k a0).bind fun r2=>
    (gB_ k a0 a1).bind fun r3=>
    bif (!r3) then
      some r2
    else
      bif (decide ((a2.Text.size:Int)>20)) then
        some r2
      else
        be_ k a1 false 0 a0.Next a0.Held a0.Open a0.Ready a2.Text a2.Last 0 (⟨#[]⟩:ByteArray) r2.Next r2.Open ([]:List ai_) ([]:List ai_) ([]:List ByteArray) r2.Held r2.Ready
def gA_:Nat→ByteArray→List aA_→Option (List aA_)
  | 0,_,_=>none
  | k+1,x0,x1=>
    bif (decide ((x0.size:Int)>20)) then
      (wnd x0.size 0 20).bind fun p1=>
      (app 24 x1 ([(⟨(x0.extract p1.1 p1.2),false⟩:aA_)]:List aA_)).bind fun l2=>
      (wnd x0.size 20 (x0.size:Int)).bind fun p3=>
      gA_ k (x0.extract p3.1 p3.2) l2
    else
      (app 24 x1 ([(⟨x0,true⟩:aA_)]:List aA_)).bind fun l4=>
      some l4
def oP_ (k:Nat) (a0:ByteArray):Option (List aA_):=
  bif (decide ((a0.size:Int)>200)) then
    some ([]:List aA_)
  else
    gA_ k a0 ([]:List aA_)
def cy_:Nat→Int→Int→List aA_→Int→List ah_→List ah_→Option (am_×Int)
  | 0,_,_,_,_,_,_=>none
  | k+1,x0,x1,x2,x3,x4,x5=>
    bif (decide (x0<(x2.length:Int))) then
      (idx x2 x0).bind fun _=>
      (x2[(Int.toNat x0)]?).bind fun y4=>
      (app 40 x5 ([(⟨y4,false,(-1)⟩:ah_)]:List ah_)).bind fun l5=>
      cy_ k (IntKind.wrap .i64 (x0+1)) x1 x2 x3 x4 l5
    else
      some ((⟨x3,x5⟩:am_),0)
def gh_ (k:Nat) (a0:am_) (a1:ByteArray):Option (am_×Int):=
  (br_ k a0).bind fun r1=>
  bif (!r1) then
    some ((⟨0,([]:List ah_)⟩:am_),1)
  else
    bif (decide ((a1.size:Int)>200)) then
      some ((⟨0,([]:List ah_)⟩:am_),1)
    else
      (oP_ k a1).bind fun r2=>
      bif (decide ((IntKind.wrap .i64 ((a0.Items.length:Int)+(r2.length:Int)))>60)) then
        some ((⟨0,([]:List ah_)⟩:am_),3)
      else
        bif (decide ((IntKind.wrap .i64 (a0.Base+(IntKind.wrap .i64 ((a0.Items.length:Int)+(r2.length:Int)))))>1000000)) then
          some ((⟨0,([]:List ah_)⟩:am_),3)
        else
          (eC_ k a0).bind fun r3=>
          cy_ k 0 0 r2 r3.Base ([]:List ah_) r3.Items
def ga_ (k:Nat) (a0:al_):Option (al_×ByteArray×Bool):=
  (cK_ k a0).bind fun r1=>
  bif (!r1) then
    some ((⟨0,([]:List ai_),(⟨#[]⟩:ByteArray),([]:List ByteArray)⟩:al_),(⟨#[]⟩:ByteArray),false)
  else
    (fk_ k a0).bind fun r2=>
    bif ((r2.Ready.length:Int)==0) then
      some (r2,(⟨#[]⟩:ByteArray),false)
    else
      (idx r2.Ready 0).bind fun _=>
      (r2.Ready[(Int.toNat 0)]?).bind fun y3=>
      (wnd r2.Ready.length 1 (r2.Ready.length:Int)).bind fun p4=>
      (app 16 ([]:List ByteArray) (dS_ r2.Ready p4.1 p4.2)).bind fun l5=>
      (i0_ k (⟨r2.Next,r2.Held,r2.Open,l5⟩:al_)).bind fun r6=>
      some (r6,y3,true)
def gp_ (k:Nat) (a0:aA_) (a1:Int):Option (Int):=
  bif (decide ((IntKind.wrap .i64 (a1-(a0.Text.size:Int)))<0)) then
    some (-1)
  else
    some (IntKind.wrap .i64 (a1-(a0.Text.size:Int)))
def hL_ (k:Nat) (a0:ah_) (a1:Int):Option (Int):=
  (gp_ k a0.Part a1).bind fun r1=>
  bif (decide (r1<0)) then
    some (-1)
  else
    some r1
def cR_:Nat→List ah_→Int→Int→Option (Int)
  | 0,_,_,_=>none
  | k+1,x0,x1,x2=>
    bif (decide (x2<(x0.length:Int))) then
      (idx x0 x2).bind fun y1=>
      (hL_ k y1 x1).bind fun r2=>
      bif (decide (r2<0)) then
        some (-1)
      else
        cR_ k x0 r2 (IntKind.wrap .i64 (x2+1))
    else
      some x1
def gV_ (k:Nat) (a0:List ah_) (a1:Int):Option (Int):=
  bif (decide ((IntKind.wrap .i64 (a1-(a0.length:Int)))<0)) then
    some (-1)
  else
    cR_ k a0 (IntKind.wrap .i64 (a1-(a0.length:Int))) 0
def hZ_ (k:Nat) (a0:am_) (a1:Int):Option (Int):=
  (gV_ k a0.Items a1).bind fun r1=>
  bif (decide (r1<0)) then
    some (-1)
  else
    some r1
def h9_ (k:Nat) (a0:ai_) (a1:Int):Option (Int):=
  (gp_ k a0.Part a1).bind fun r1=>
  bif (decide (r1<0)) then
    some (-1)
  else
    some r1
def cY_:Nat→List ai_→Int→Int→Option (Int)
  | 0,_,_,_=>none
  | k+1,x0,x1,x2=>
    bif (decide (x2<(x0.length:Int))) then
      (idx x0 x2).bind fun y1=>
      (h9_ k y1 x1).bind fun r2=>
      bif (decide (r2<0)) then
        some (-1)
      else
        cY_ k x0 r2 (IntKind.wrap .i64 (x2+1))
    else
      some x1
def gH_ (k:Nat) (a0:List ai_) (a1:Int):Option (Int):=
  bif (decide ((IntKind.wrap .i64 (a1-(a0.length:Int)))<0)) then
    some (-1)
  else
    cY_ k a0 (IntKind.wrap .i64 (a1-(a0.length:Int))) 0
def cl_:Nat→List ByteArray→Int→Int→Option (Int)
  | 0,_,_,_=>none
  | k+1,x0,x1,x2=>
    bif (decide (x2<(x0.length:Int))) then
      (idx x0 x2).bind fun y1=>
      bif (decide ((IntKind.wrap .i64 (x1-(y1.size:Int)))<0)) then
        some (-1)
      else
        cl_ k x0 (IntKind.wrap .i64 (x1-(y1.size:Int))) (IntKind.wrap .i64 (x2+1))
    else
      some x1
def fv_ (k:Nat) (a0:List ByteArray) (a1:Int):Option (Int):=
  bif (decide ((IntKind.wrap .i64 (a1-(a0.length:Int)))<0)) then
    some (-1)
  else
    cl_ k a0 (IntKind.wrap .i64 (a1-(a0.length:Int))) 0
def hQ_ (k:Nat) (a0:al_) (a1:Int):Option (Int):=
  (gH_ k a0.Held a1).bind fun r1=>
  bif (decide (r1<0)) then
    some (-1)
  else
    bif (decide ((IntKind.wrap .i64 (r1-(a0.Open.size:Int)))<0)) then
      some (-1)
    else
      (fv_ k a0.Ready (IntKind.wrap .i64 (r1-(a0.Open.size:Int)))).bind fun r2=>
      bif (decide (r2<0)) then
        some (-1)
      else
        some r2
def lg_ (k:Nat) (a0:aA_):Option (aA_):=
  some a0
def kO_ (k:Nat) (a0:ah_):Option (ah_):=
  (lg_ k a0.Part).bind fun r1=>
  some (⟨r1,a0.Has,a0.Since⟩:ah_)
def cZ_:Nat→List ah_→Int→List ah_→Option (List ah_)
  | 0,_,_,_=>none
  | k+1,x0,x1,x2=>
    bif (decide (x1<(x0.length:Int))) then
      (idx x0 x1).bind fun y2=>
      (kO_ k y2).bind fun r3=>
      (idx x2 x1).bind fun _=>
      (x2[(Int.toNat x1)]?).bind fun y4=>
      cZ_ k x0 (IntKind.wrap .i64 (x1+1)) (x2.set (Int.toNat x1) r3)
    else
      some x2
def gN_ (k:Nat) (a0:List ah_):Option (List ah_):=
  (if ((a0.length:Int):Int)=(a0.length:Int) then room 40 (a0.length:Int) else none).bind fun n1=>
  cZ_ k a0 0 (List.replicate n1 (⟨(⟨(⟨#[]⟩:ByteArray),false⟩:aA_),false,0⟩:ah_))
def ia_ (k:Nat) (a0:am_):Option (am_):=
  (gN_ k a0.Items).bind fun r1=>
  some (⟨a0.Base,r1⟩:am_)
def kM_ (k:Nat) (a0:ai_):Option (ai_):=
  (lg_ k a0.Part).bind fun r1=>
  some (⟨a0.Seq,r1⟩:ai_)
def cX_:Nat→List ai_→Int→List ai_→Option (List ai_)
  | 0,_,_,_=>none
  | k+1,x0,x1,x2=>
    bif (decide (x1<(x0.length:Int))) then
      (idx x0 x1).bind fun y2=>
      (kM_ k y2).bind fun r3=>
      (idx x2 x1).bind fun _=>
      (x2[(Int.toNat x1)]?).bind fun y4=>
      cX_ k x0 (IntKind.wrap .i64 (x1+1)) (x2.set (Int.toNat x1) r3)
    else
      some x2
def hg_ (k:Nat) (a0:List ai_):Option (List ai_):=
  (if ((a0.length:Int):Int)=(a0.length:Int) then room 32 (a0.length:Int) else none).bind fun n1=>
  cX_ k a0 0 (List.replicate n1 (⟨0,(⟨(⟨#[]⟩:ByteArray),false⟩:aA_)⟩:ai_))
def ck_:Nat→List ByteArray→Int→List ByteArray→Option (List ByteArray)
  | 0,_,_,_=>none
  | k+1,x0,x1,x2=>
    bif (decide (x1<(x0.length:Int))) then
      (idx x0 x1).bind fun y2=>
      (idx x2 x1).bind fun _=>
      (x2[(Int.toNat x1)]?).bind fun y3=>
      ck_ k x0 (IntKind.wrap .i64 (x1+1)) (x2.set (Int.toNat x1) y2)
    else
      some x2
def fr_ (k:Nat) (a0:List ByteArray):Option (List ByteArray):=
  (if ((a0.length:Int):Int)=(a0.length:Int) then room 16 (a0.length:Int) else none).bind fun n1=>
  ck_ k a0 0 (List.replicate n1 (⟨#[]⟩:ByteArray))
def hP_ (k:Nat) (a0:al_):Option (al_):=
  (hg_ k a0.Held).bind fun r1=>
  (fr_ k a0.Ready).bind fun r2=>
  some (⟨a0.Next,r1,a0.Open,r2⟩:al_)
def gz_ (k:Nat) (a0:aA_) (a1:aA_):Option (Bool):=
  bif (!(a0.Text.toList==a1.Text.toList)) then
    some false
  else
    bif (!(a0.Last==a1.Last)) then
      some false
    else
      some true
def hW_ (k:Nat) (a0:ah_) (a1:ah_):Option (Bool):=
  (gz_ k a0.Part a1.Part).bind fun r1=>
  bif (!r1) then
    some false
  else
    bif (!(a0.Has==a1.Has)) then
      some false
    else
      bif (a0.Since !=a1.Since) then
        some false
      else
        some true
def cN_:Nat→List ah_→List ah_→Int→Option (Bool)
  | 0,_,_,_=>none
  | k+1,x0,x1,x2=>
    bif (decide (x2<(x0.length:Int))) then
      (idx x0 x2).bind fun y1=>
      (idx x1 x2).bind fun y2=>
      (hW_ k y1 y2).bind fun r3=>
      bif (!r3) then
        some false
      else
        cN_ k x0 x1 (IntKind.wrap .i64 (x2+1))
    else
      some true
def g1_ (k:Nat) (a0:List ah_) (a1:List ah_):Option (Bool):=
  bif ((a0.length:Int) !=(a1.length:Int)) then
    some false
  else
    cN_ k a0 a1 0
def hX_ (k:Nat) (a0:am_) (a1:am_):Option (Bool):=
  bif (a0.Base !=a1.Base) then
    some false
  else
    (g1_ k a0.Items a1.Items).bind fun r1=>
    bif (!r1) then
      some false
    else
      some true
def hJ_ (k:Nat) (a0:ai_) (a1:ai_):Option (Bool):=
  bif (a0.Seq !=a1.Seq) then
    some false
  else
    (gz_ k a0.Part a1.Part).bind fun r1=>
    bif (!r1) then
      some false
    else
      some true
def cP_:Nat→List ai_→List ai_→Int→Option (Bool)
  | 0,_,_,_=>none
  | k+1,x0,x1,x2=>
    bif (decide (x2<(x0.length:Int))) then
      (idx x0 x2).bind fun y1=>
      (idx x1 x2).bind fun y2=>
      (hJ_ k y1 y2).bind fun r3=>
      bif (!r3) then
        some false
      else
        cP_ k x0 x1 (IntKind.wrap .i64 (x2+1))
    else
      some true
def hb_ (k:Nat) (a0:List ai_) (a1:List ai_):Option (Bool):=
  bif ((a0.length:Int) !=(a1.length:Int)) then
    some false
  else
    cP_ k a0 a1 0
def ca_:Nat→List ByteArray→List ByteArray→Int→Option (Bool)
  | 0,_,_,_=>none
  | k+1,x0,x1,x2=>
    bif (decide (x2<(x0.length:Int))) then
      (idx x0 x2).bind fun y1=>
      (idx x1 x2).bind fun y2=>
      bif (!(y1.toList==y2.toList)) then
        some false
      else
        ca_ k x0 x1 (IntKind.wrap .i64 (x2+1))
    else
      some true
def fp_ (k:Nat) (a0:List ByteArray) (a1:List ByteArray):Option (Bool):=
  bif ((a0.length:Int) !=(a1.length:Int)) then
    some false
  else
    ca_ k a0 a1 0
def ib_ (k:Nat) (a0:al_) (a1:al_):Option (Bool):=
  bif (a0.Next !=a1.Next) then
    some false
  else
    (hb_ k a0.Held a1.Held).bind fun r1=>
    bif (!r1) then
      some false
    else
      bif (!(a0.Open.toList==a1.Open.toList)) then
        some false
      else
        (fp_ k a0.Ready a1.Ready).bind fun r2=>
        bif (!r2) then
          some false
        else
          some true
def cB_:Nat→Int→ByteArray→Option (ByteArray)
  | 0,_,_=>none
  | k+1,x0,x1=>
    bif (decide (x0>0)) then
      (oK_ x0 10).bind fun q1=>
      (jF_ (jV_ ([(IntKind.wrap .u8 (IntKind.wrap .i64 (48+q1)))]:List Int)) x1).bind fun t2=>
      (yC_ x0 10).bind fun q3=>
      cB_ k (IntKind.wrap .i64 (q3)) t2
    else
      (jF_ (⟨#[109]⟩:ByteArray) x1).bind fun t4=>
      some t4
def aB_ (k:Nat) (a0:Int):Option (ByteArray):=
  bif (decide (a0≤0)) then
    some (⟨#[109,48]⟩:ByteArray)
  else
    cB_ k a0 (⟨#[]⟩:ByteArray)
def bH_:Nat→Int→Int→List ah_→Option (Int×List ah_)
  | 0,_,_,_=>none
  | k+1,x0,x1,x2=>
    bif (decide (x1<(x2.length:Int))) then
      (aB_ k x0).bind fun r1=>
      (idx x2 x1).bind fun _=>
      (x2[(Int.toNat x1)]?).bind fun y2=>
      (oK_ (IntKind.wrap .i64 (x0+1)) 3).bind fun q3=>
      (idx (x2.set (Int.toNat x1) (⟨(⟨r1,y2.Part.Last⟩:aA_),y2.Has,y2.Since⟩:ah_)) x1).bind fun _=>
      ((x2.set (Int.toNat x1) (⟨(⟨r1,y2.Part.Last⟩:aA_),y2.Has,y2.Since⟩:ah_))[(Int.toNat x1)]?).bind fun y4=>
      (oK_ (IntKind.wrap .i64 ((IntKind.wrap .i64 (x0+1))+1)) 3).bind fun q5=>
      (idx ((x2.set (Int.toNat x1) (⟨(⟨r1,y2.Part.Last⟩:aA_),y2.Has,y2.Since⟩:ah_)).set (Int.toNat x1) (⟨(⟨y4.Part.Text,(q3==0)⟩:aA_),y4.Has,y4.Since⟩:ah_)) x1).bind fun _=>
      (((x2.set (Int.toNat x1) (⟨(⟨r1,y2.Part.Last⟩:aA_),y2.Has,y2.Since⟩:ah_)).set (Int.toNat x1) (⟨(⟨y4.Part.Text,(q3==0)⟩:aA_),y4.Has,y4.Since⟩:ah_))[(Int.toNat x1)]?).bind fun y6=>
      (idx (((x2.set (Int.toNat x1) (⟨(⟨r1,y2.Part.Last⟩:aA_),y2.Has,y2.Since⟩:ah_)).set (Int.toNat x1) (⟨(⟨y4.Part.Text,(q3==0)⟩:aA_),y4.Has,y4.Since⟩:ah_)).set (Int.toNat x1) (⟨y6.Part,(q5==0),y6.Since⟩:ah_)) x1).bind fun _=>
      ((((x2.set (Int.toNat x1) (⟨(⟨r1,y2.Part.Last⟩:aA_),y2.Has,y2.Since⟩:ah_)).set (Int.toNat x1) (⟨(⟨y4.Part.Text,(q3==0)⟩:aA_),y4.Has,y4.Since⟩:ah_)).set (Int.toNat x1) (⟨y6.Part,(q5==0),y6.Since⟩:ah_))[(Int.toNat x1)]?).bind fun y7=>
      bH_ k (IntKind.wrap .i64 ((IntKind.wrap .i64 ((IntKind.wrap .i64 ((IntKind.wrap .i64 (x0+1))+1))+1))+1)) (IntKind.wrap .i64 (x1+1)) ((((x2.set (Int.toNat x1) (⟨(⟨r1,y2.Part.Last⟩:aA_),y2.Has,y2.Since⟩:ah_)).set (Int.toNat x1) (⟨(⟨y4.Part.Text,(q3==0)⟩:aA_),y4.Has,y4.Since⟩:ah_)).set (Int.toNat x1) (⟨y6.Part,(q5==0),y6.Since⟩:ah_)).set (Int.toNat x1) (⟨y7.Part,y7.Has,(IntKind.wrap .i64 ((IntKind.wrap .i64 ((IntKind.wrap .i64 (x0+1))+1))+1))⟩:ah_))
    else
      some (x0,x2)
def ft_ (k:Nat) (a0:List ah_) (a1:Int):Option (Int×List ah_):=
  bH_ k a1 0 a0
def bE_:Nat→Int→Int→List ai_→Option (Int×List ai_)
  | 0,_,_,_=>none
  | k+1,x0,x1,x2=>
    bif (decide (x1<(x2.length:Int))) then
      (idx x2 x1).bind fun _=>
      (x2[(Int.toNat x1)]?).bind fun y1=>
      (aB_ k (IntKind.wrap .i64 (x0+1))).bind fun r2=>
      (idx (x2.set (Int.toNat x1) (⟨x0,y1.Part⟩:ai_)) x1).bind fun _=>
      ((x2.set (Int.toNat x1) (⟨x0,y1.Part⟩:ai_))[(Int.toNat x1)]?).bind fun y3=>
      (oK_ (IntKind.wrap .i64 ((IntKind.wrap .i64 (x0+1))+1)) 3).bind fun q4=>
      (idx ((x2.set (Int.toNat x1) (⟨x0,y1.Part⟩:ai_)).set (Int.toNat x1) (⟨y3.Seq,(⟨r2,y3.Part.Last⟩:aA_)⟩:ai_)) x1).bind fun _=>
      (((x2.set (Int.toNat x1) (⟨x0,y1.Part⟩:ai_)).set (Int.toNat x1) (⟨y3.Seq,(⟨r2,y3.Part.Last⟩:aA_)⟩:ai_))[(Int.toNat x1)]?).bind fun y5=>
      bE_ k (IntKind.wrap .i64 ((IntKind.wrap .i64 ((IntKind.wrap .i64 (x0+1))+1))+1)) (IntKind.wrap .i64 (x1+1)) (((x2.set (Int.toNat x1) (⟨x0,y1.Part⟩:ai_)).set (Int.toNat x1) (⟨y3.Seq,(⟨r2,y3.Part.Last⟩:aA_)⟩:ai_)).set (Int.toNat x1) (⟨y5.Seq,(⟨y5.Part.Text,(q4==0)⟩:aA_)⟩:ai_))
    else
      some (x0,x2)
def fq_ (k:Nat) (a0:List ai_) (a1:Int):Option (Int×List ai_):=
  bE_ k a1 0 a0
def bj_:Nat→Int→Int→List ByteArray→Option (Int×List ByteArray)
  | 0,_,_,_=>none
  | k+1,x0,x1,x2=>
    bif (decide (x1<(x2.length:Int))) then
      (aB_ k x0).bind fun r1=>
      (idx x2 x1).bind fun _=>
      (x2[(Int.toNat x1)]?).bind fun y2=>
      bj_ k (IntKind.wrap .i64 (x0+1)) (IntKind.wrap .i64 (x1+1)) (x2.set (Int.toNat x1) r1)
    else
      some (x0,x2)
def et_ (k:Nat) (a0:List ByteArray) (a1:Int):Option (Int×List ByteArray):=
  bj_ k a1 0 a0
def bG_:Nat→List ah_→Int→Int→Option (Int)
  | 0,_,_,_=>none
  | k+1,x0,x1,x2=>
    bif (decide (x2<(x0.length:Int))) then
      (idx x0 x2).bind fun y1=>
      (aB_ k x1).bind fun r2=>
      bif (!(y1.Part.Text.toList==r2.toList)) then
        some (-1)
      else
        (idx x0 x2).bind fun y3=>
        (oK_ (IntKind.wrap .i64 (x1+1)) 3).bind fun q4=>
        bif (!(y3.Part.Last==(q4==0))) then
          some (-1)
        else
          (idx x0 x2).bind fun y5=>
          (oK_ (IntKind.wrap .i64 ((IntKind.wrap .i64 (x1+1))+1)) 3).bind fun q6=>
          bif (!(y5.Has==(q6==0))) then
            some (-1)
          else
            (idx x0 x2).bind fun y7=>
            bif (y7.Since !=(IntKind.wrap .i64 ((IntKind.wrap .i64 ((IntKind.wrap .i64 (x1+1))+1))+1))) then
              some (-1)
            else
              bG_ k x0 (IntKind.wrap .i64 ((IntKind.wrap .i64 ((IntKind.wrap .i64 ((IntKind.wrap .i64 (x1+1))+1))+1))+1)) (IntKind.wrap .i64 (x2+1))
    else
      some x1
def fA_ (k:Nat) (a0:List ah_) (a1:Int):Option (Int):=
  bG_ k a0 a1 0
def bA_:Nat→List ai_→Int→Int→Option (Int)
  | 0,_,_,_=>none
  | k+1,x0,x1,x2=>
    bif (decide (x2<(x0.length:Int))) then
      (idx x0 x2).bind fun y1=>
      bif (y1.Seq !=x1) then
        some (-1)
      else
        (idx x0 x2).bind fun y2=>
        (aB_ k (IntKind.wrap .i64 (x1+1))).bind fun r3=>
        bif (!(y2.Part.Text.toList==r3.toList)) then
          some (-1)
        else
          (idx x0 x2).bind fun y4=>
          (oK_ (IntKind.wrap .i64 ((IntKind.wrap .i64 (x1+1))+1)) 3).bind fun q5=>
          bif (!(y4.Part.Last==(q5==0))) then
            some (-1)
          else
            bA_ k x0 (IntKind.wrap .i64 ((IntKind.wrap .i64 ((IntKind.wrap .i64 (x1+1))+1))+1)) (IntKind.wrap .i64 (x2+1))
    else
      some x1
def fx_ (k:Nat) (a0:List ai_) (a1:Int):Option (Int):=
  bA_ k a0 a1 0
def bh_:Nat→List ByteArray→Int→Int→Option (Int)
  | 0,_,_,_=>none
  | k+1,x0,x1,x2=>
    bif (decide (x2<(x0.length:Int))) then
      (idx x0 x2).bind fun y1=>
      (aB_ k x1).bind fun r2=>
      bif (!(y1.toList==r2.toList)) then
        some (-1)
      else
        bh_ k x0 (IntKind.wrap .i64 (x1+1)) (IntKind.wrap .i64 (x2+1))
    else
      some x1
def eq_ (k:Nat) (a0:List ByteArray) (a1:Int):Option (Int):=
  bh_ k a0 a1 0
end Km.X
namespace Km.X
open Go Km
set_option linter.unusedVariables false
set_option maxRecDepth 100000
def ih_ (k:Nat) (a0:am_):Option (Bool):=
  bif (a0.Base==0) then
    some ((a0.Items.length:Int)==0)
  else
    some false
def h8_ (k:Nat) (a0:al_):Option (Bool):=
  bif (a0.Next==0) then
    bif ((a0.Held.length:Int)==0) then
      bif (a0.Open.toList==(⟨#[]⟩:ByteArray).toList) then
        some ((a0.Ready.length:Int)==0)
      else
        some false
    else
      some false
  else
    some false
def da_ (k:Nat) (a0:ao_):Option (Bool):=
  bif (a0.Number !=1) then
    bif (a0.Number !=2) then
      some false
    else
      (aQ_ k a0.Life 1 1000).bind fun r1=>
      bif (!r1) then
        some false
      else
        (aQ_ k a0.Peer 0 1000).bind fun r2=>
        bif (!r2) then
          some false
        else
          (aQ_ k a0.Since 0 1000000).bind fun r3=>
          bif (!r3) then
            some false
          else
            (bq_ k a0.Send).bind fun r4=>
            bif (!r4) then
              some false
            else
              (bL_ k a0.Take).bind fun r5=>
              bif (!r5) then
                some false
              else
                bif (a0.Peer==0) then
                  (ih_ k a0.Send).bind fun r6=>
                  bif r6 then
                    (h8_ k a0.Take).bind fun r7=>
                    bif (!r7) then
                      some false
                    else
                      bif a0.Up then
                        some true
                      else
                        bif (a0.Peer==0) then
                          bif (a0.Since==0) then
                            some (!a0.Owes)
                          else
                            some false
                        else
                          some false
                  else
                    some false
                else
                  bif a0.Up then
                    some true
                  else
                    bif (a0.Peer==0) then
                      bif (a0.Since==0) then
                        some (!a0.Owes)
                      else
                        some false
                    else
                      some false
  else
    (aQ_ k a0.Life 1 1000).bind fun r8=>
    bif (!r8) then
      some false
    else
      (aQ_ k a0.Peer 0 1000).bind fun r9=>
      bif (!r9) then
        some false
      else
        (aQ_ k a0.Since 0 1000000).bind fun r10=>
        bif (!r10) then
          some false
        else
          (bq_ k a0.Send).bind fun r11=>
          bif (!r11) then
            some false
          else
            (bL_ k a0.Take).bind fun r12=>
            bif (!r12) then
              some false
            else
              bif (a0.Peer==0) then
                (ih_ k a0.Send).bind fun r13=>
                bif r13 then
                  (h8_ k a0.Take).bind fun r14=>
                  bif (!r14) then
                    some false
                  else
                    bif a0.Up then
                      some true
                    else
                      bif (a0.Peer==0) then
                        bif (a0.Since==0) then
                          some (!a0.Owes)
                        else
                          some false
                      else
                        some false
                else
                  some false
              else
                bif a0.Up then
                  some true
                else
                  bif (a0.Peer==0) then
                    bif (a0.Since==0) then
                      some (!a0.Owes)
                    else
                      some false
                  else
                    some false
def dF_ (k:Nat) (a0:ao_):Option (ao_):=
  (e6_ k a0.Send).bind fun r1=>
  (e0_ k a0.Take).bind fun r2=>
  some (⟨a0.Number,a0.Up,a0.Life,a0.Peer,a0.Since,a0.Owes,r1,r2⟩:ao_)
mutual
def dG_:Nat→Int→Int→Bool→Int→Int→Int→Bool→Int→Int→ByteArray→ByteArray→Int→Int→Bool→Int→Int→Int→Bool→Int→Int→ByteArray→ByteArray→List ah_→List ai_→List ByteArray→List ad_→List ah_→List ai_→List ByteArray→List ad_→Option (ay_)
  | 0,_,_,_,_,_,_,_,_,_,_,_,_,_,_,_,_,_,_,_,_,_,_,_,_,_,_,_,_,_,_=>none
  | k+1,x0,x1,x2,x3,x4,x5,x6,x7,x8,x9,x10,x11,x12,x13,x14,x15,x16,x17,x18,x19,x20,x21,x22,x23,x24,x25,x26,x27,x28,x29=>
    bif (x15 !=0) then
      (ge_ k (⟨x18,x26⟩:am_)).bind fun r3=>
      cE_ k (r3.2.length:Int) 0 x0 x1 x2 x3 x4 x5 x6 x7 x8 x9 x10 x11 x12 x13 x14 x15 x16 x17 r3.1.Base x19 x20 x21 r3.2 x22 x23 x24 x25 r3.1.Items x27 x28 x29
    else
      db_ k x0 x1 x2 x3 x4 x5 x6 x7 x8 x9 x10 x11 x12 x13 x14 x15 x16 x17 x18 x19 x20 x21 x22 x23 x24 x25 x26 x27 x28 x29
def cE_:Nat→Int→Int→Int→Int→Bool→Int→Int→Int→Bool→Int→Int→ByteArray→ByteArray→Int→Int→Bool→Int→Int→Int→Bool→Int→Int→ByteArray→ByteArray→List Int→List ah_→List ai_→List ByteArray→List ad_→List ah_→List ai_→List ByteArray→List ad_→Option (ay_)
  | 0,_,_,_,_,_,_,_,_,_,_,_,_,_,_,_,_,_,_,_,_,_,_,_,_,_,_,_,_,_,_,_,_,_=>none
  | k+1,x0,x1,x2,x3,x4,x5,x6,x7,x8,x9,x10,x11,x12,x13,x14,x15,x16,x17,x18,x19,x20,x21,x22,x23,x24,x25,x26,x27,x28,x29,x30,x31,x32=>
    bif (decide (x1<x0)) then
      (idx x24 x1).bind fun _=>
      (x24[(Int.toNat x1)]?).bind fun y4=>
      (idx x29 (IntKind.wrap .i64 (y4-x20))).bind fun _=>
      (x29[(Int.toNat (IntKind.wrap .i64 (y4-x20)))]?).bind fun y5=>
      (app 80 x32 ([(⟨2,x14,x16,x17,0,0,y4,y5.Part.Last,y5.Part.Text⟩:ad_)]:List ad_)).bind fun l6=>
      cE_ k x0 (IntKind.wrap .i64 (x1+1)) x2 x3 x4 x5 x6 x7 x8 x9 x10 x11 x12 x13 x14 x15 x16 x17 x18 x19 x20 x21 x22 x23 x24 x25 x26 x27 x28 x29 x30 x31 l6
    else
      db_ k x2 x3 x4 x5 x6 x7 x8 x9 x10 x11 x12 x13 x14 x15 x16 x17 x18 x19 x20 x21 x22 x23 x25 x26 x27 x28 x29 x30 x31 x32
def db_:Nat→Int→Int→Bool→Int→Int→Int→Bool→Int→Int→ByteArray→ByteArray→Int→Int→Bool→Int→Int→Int→Bool→Int→Int→ByteArray→ByteArray→List ah_→List ai_→List ByteArray→List ad_→List ah_→List ai_→List ByteArray→List ad_→Option (ay_)
  | 0,_,_,_,_,_,_,_,_,_,_,_,_,_,_,_,_,_,_,_,_,_,_,_,_,_,_,_,_,_,_=>none
  | k+1,x0,x1,x2,x3,x4,x5,x6,x7,x8,x9,x10,x11,x12,x13,x14,x15,x16,x17,x18,x19,x20,x21,x22,x23,x24,x25,x26,x27,x28,x29=>
    bif x17 then
      (dT_ k (⟨x19,x27,x20,x28⟩:al_)).bind fun r7=>
      (app 80 x29 ([(⟨1,x12,x14,x15,r7.1,r7.2,0,false,(⟨#[]⟩:ByteArray)⟩:ad_)]:List ad_)).bind fun l8=>
      b0_ k x0 x1 x2 x3 x4 x5 x6 x7 x8 x9 x10 x11 x12 x13 x14 x15 0 false x18 x19 x20 x21 x22 x23 x24 x25 x26 x27 x28 l8
    else
      bif (decide (x16≥6)) then
        (dT_ k (⟨x19,x27,x20,x28⟩:al_)).bind fun r9=>
        (app 80 x29 ([(⟨1,x12,x14,x15,r9.1,r9.2,0,false,(⟨#[]⟩:ByteArray)⟩:ad_)]:List ad_)).bind fun l10=>
        b0_ k x0 x1 x2 x3 x4 x5 x6 x7 x8 x9 x10 x11 x12 x13 x14 x15 0 false x18 x19 x20 x21 x22 x23 x24 x25 x26 x27 x28 l10
      else
        b0_ k x0 x1 x2 x3 x4 x5 x6 x7 x8 x9 x10 x11 x12 x13 x14 x15 x16 x17 x18 x19 x20 x21 x22 x23 x24 x25 x26 x27 x28 x29
def b0_:Nat→Int→Int→Bool→Int→Int→Int→Bool→Int→Int→ByteArray→ByteArray→Int→Int→Bool→Int→Int→Int→Bool→Int→Int→ByteArray→ByteArray→List ah_→List ai_→List ByteArray→List ad_→List ah_→List ai_→List ByteArray→List ad_→Option (ay_)
  | 0,_,_,_,_,_,_,_,_,_,_,_,_,_,_,_,_,_,_,_,_,_,_,_,_,_,_,_,_,_,_=>none
  | k+1,x0,x1,x2,x3,x4,x5,x6,x7,x8,x9,x10,x11,x12,x13,x14,x15,x16,x17,x18,x19,x20,x21,x22,x23,x24,x25,x26,x27,x28,x29=>
    some (⟨x11,(⟨x12,x13,x14,x15,x16,x17,(⟨x18,x26⟩:am_),(⟨x19,x27,x20,x28⟩:al_)⟩:ao_),x29,x21⟩:ay_)
end
def gM_ (k:Nat) (a0:ao_):Option (ay_):=
  (da_ k a0).bind fun r1=>
  bif (!r1) then
    some (⟨1,(⟨0,false,0,0,0,false,(⟨0,([]:List ah_)⟩:am_),(⟨0,([]:List ai_),(⟨#[]⟩:ByteArray),([]:List ByteArray)⟩:al_)⟩:ao_),([]:List ad_),(⟨#[]⟩:ByteArray)⟩:ay_)
  else
    (dF_ k a0).bind fun r2=>
    bif (!r2.Up) then
      some (⟨0,r2,([]:List ad_),(⟨#[]⟩:ByteArray)⟩:ay_)
    else
      bif (decide (r2.Since<1000000)) then
        dG_ k 0 0 false 0 0 0 false 0 0 (⟨#[]⟩:ByteArray) (⟨#[]⟩:ByteArray) 0 r2.Number r2.Up r2.Life r2.Peer (IntKind.wrap .i64 (r2.Since+1)) r2.Owes r2.Send.Base r2.Take.Next r2.Take.Open (⟨#[]⟩:ByteArray) ([]:List ah_) ([]:List ai_) ([]:List ByteArray) ([]:List ad_) r2.Send.Items r2.Take.Held r2.Take.Ready ([]:List ad_)
      else
        dG_ k 0 0 false 0 0 0 false 0 0 (⟨#[]⟩:ByteArray) (⟨#[]⟩:ByteArray) 0 r2.Number r2.Up r2.Life r2.Peer r2.Since r2.Owes r2.Send.Base r2.Take.Next r2.Take.Open (⟨#[]⟩:ByteArray) ([]:List ah_) ([]:List ai_) ([]:List ByteArray) ([]:List ad_) r2.Send.Items r2.Take.Held r2.Take.Ready ([]:List ad_)
mutual
def dO_:Nat→Int→Int→Int→Int→Int→Int→Int→Bool→ByteArray→Int→Int→Bool→Int→Int→Int→Bool→Int→Int→ByteArray→ByteArray→Int→Int→Bool→Int→Int→Int→Bool→Int→Int→ByteArray→ByteArray→List ah_→List ai_→List ByteArray→List ad_→List ah_→List ai_→List ByteArray→List ad_→Option (ay_)
  | 0,_,_,_,_,_,_,_,_,_,_,_,_,_,_,_,_,_,_,_,_,_,_,_,_,_,_,_,_,_,_,_,_,_,_,_,_,_,_,_=>none
  | k+1,x0,x1,x2,x3,x4,x5,x6,x7,x8,x9,x10,x11,x12,x13,x14,x15,x16,x17,x18,x19,x20,x21,x22,x23,x24,x25,x26,x27,x28,x29,x30,x31,x32,x33,x34,x35,x36,x37,x38=>
    bif (x3 !=x23) then
      some (⟨x20,(⟨x21,x22,x23,x24,x25,true,(⟨x27,x35⟩:am_),(⟨x28,x36,x29,x37⟩:al_)⟩:ao_),x38,x30⟩:ay_)
    else
      bif (x0==1) then
        (gf_ k (⟨x27,x35⟩:am_) x4 x5).bind fun r4=>
        df_ k x9 x10 x11 x12 x13 x14 x15 x16 x17 x18 x19 x20 x21 x22 x23 x24 x25 x26 r4.Base x28 x29 x30 x31 x32 x33 x34 r4.Items x36 x37 x38
      else
        (gn_ k (⟨x28,x36,x29,x37⟩:al_) x6 (⟨x8,x7⟩:aA_)).bind fun r5=>
        df_ k x9 x10 x11 x12 x13 x14 x15 x16 x17 x18 x19 x20 x21 x22 x23 x24 x25 true x27 r5.Next r5.Open x30 x31 x32 x33 x34 x35 r5.Held r5.Ready x38
def df_:Nat→Int→Int→Bool→Int→Int→Int→Bool→Int→Int→ByteArray→ByteArray→Int→Int→Bool→Int→Int→Int→Bool→Int→Int→ByteArray→ByteArray→List ah_→List ai_→List ByteArray→List ad_→List ah_→List ai_→List ByteArray→List ad_→Option (ay_)
  | 0,_,_,_,_,_,_,_,_,_,_,_,_,_,_,_,_,_,_,_,_,_,_,_,_,_,_,_,_,_,_=>none
  | k+1,x0,x1,x2,x3,x4,x5,x6,x7,x8,x9,x10,x11,x12,x13,x14,x15,x16,x17,x18,x19,x20,x21,x22,x23,x24,x25,x26,x27,x28,x29=>
    some (⟨x11,(⟨x12,x13,x14,x15,x16,x17,(⟨x18,x26⟩:am_),(⟨x19,x27,x20,x28⟩:al_)⟩:ao_),x29,x21⟩:ay_)
end
def gQ_ (k:Nat) (a0:ao_) (a1:ad_):Option (ay_):=
  (da_ k a0).bind fun r1=>
  bif (!r1) then
    some (⟨1,(⟨0,false,0,0,0,false,(⟨0,([]:List ah_)⟩:am_),(⟨0,([]:List ai_),(⟨#[]⟩:ByteArray),([]:List ByteArray)⟩:al_)⟩:ao_),([]:List ad_),(⟨#[]⟩:ByteArray)⟩:ay_)
  else
    (dF_ k a0).bind fun r2=>
    bif (!r2.Up) then
      some (⟨0,r2,([]:List ad_),(⟨#[]⟩:ByteArray)⟩:ay_)
    else
      (a4_ k a1).bind fun r3=>
      bif (!r3) then
        some (⟨0,r2,([]:List ad_),(⟨#[]⟩:ByteArray)⟩:ay_)
      else
        bif (a1.From==r2.Number) then
          some (⟨0,r2,([]:List ad_),(⟨#[]⟩:ByteArray)⟩:ay_)
        else
          bif (decide (a1.Mine<r2.Peer)) then
            some (⟨0,r2,([]:List ad_),(⟨#[]⟩:ByteArray)⟩:ay_)
          else
            bif (decide (a1.Mine>r2.Peer)) then
              dO_ k a1.Kind a1.From a1.Mine a1.Yours a1.Next a1.Mask a1.Seq a1.Last a1.Part 0 0 false 0 0 0 false 0 0 (⟨#[]⟩:ByteArray) (⟨#[]⟩:ByteArray) 0 r2.Number r2.Up r2.Life a1.Mine r2.Since true 0 0 (⟨#[]⟩:ByteArray) (⟨#[]⟩:ByteArray) ([]:List ah_) ([]:List ai_) ([]:List ByteArray) ([]:List ad_) ([]:List ah_) ([]:List ai_) ([]:List ByteArray) ([]:List ad_)
            else
              dO_ k a1.Kind a1.From a1.Mine a1.Yours a1.Next a1.Mask a1.Seq a1.Last a1.Part 0 0 false 0 0 0 false 0 0 (⟨#[]⟩:ByteArray) (⟨#[]⟩:ByteArray) 0 r2.Number r2.Up r2.Life r2.Peer r2.Since r2.Owes r2.Send.Base r2.Take.Next r2.Take.Open (⟨#[]⟩:ByteArray) ([]:List ah_) ([]:List ai_) ([]:List ByteArray) ([]:List ad_) r2.Send.Items r2.Take.Held r2.Take.Ready ([]:List ad_)
def g4_ (k:Nat) (a0:ao_):Option (ay_):=
  (da_ k a0).bind fun r1=>
  bif (!r1) then
    some (⟨1,(⟨0,false,0,0,0,false,(⟨0,([]:List ah_)⟩:am_),(⟨0,([]:List ai_),(⟨#[]⟩:ByteArray),([]:List ByteArray)⟩:al_)⟩:ao_),([]:List ad_),(⟨#[]⟩:ByteArray)⟩:ay_)
  else
    bif (!a0.Up) then
      some (⟨2,(⟨0,false,0,0,0,false,(⟨0,([]:List ah_)⟩:am_),(⟨0,([]:List ai_),(⟨#[]⟩:ByteArray),([]:List ByteArray)⟩:al_)⟩:ao_),([]:List ad_),(⟨#[]⟩:ByteArray)⟩:ay_)
    else
      (gj_ k a0.Take).bind fun r2=>
      bif (!r2.2.2) then
        some (⟨4,(⟨0,false,0,0,0,false,(⟨0,([]:List ah_)⟩:am_),(⟨0,([]:List ai_),(⟨#[]⟩:ByteArray),([]:List ByteArray)⟩:al_)⟩:ao_),([]:List ad_),(⟨#[]⟩:ByteArray)⟩:ay_)
      else
        (dF_ k a0).bind fun r3=>
        some (⟨0,(⟨r3.Number,r3.Up,r3.Life,r3.Peer,r3.Since,true,r3.Send,r2.1⟩:ao_),([]:List ad_),r2.2.1⟩:ay_)
def gm_ (k:Nat) (a0:am_):Option (Bool):=
  bif (a0.Base==0) then
    some ((a0.Items.length:Int)==0)
  else
    some false
def f8_ (k:Nat) (a0:al_):Option (Bool):=
  bif (a0.Next==0) then
    bif ((a0.Held.length:Int)==0) then
      bif (a0.Open.toList==(⟨#[]⟩:ByteArray).toList) then
        some ((a0.Ready.length:Int)==0)
      else
        some false
    else
      some false
  else
    some false
def bO_ (k:Nat) (a0:ao_):Option (Bool):=
  (aC_ k a0.Number 1 2).bind fun r1=>
  bif (!r1) then
    some false
  else
    (aC_ k a0.Life 1 1000).bind fun r2=>
    bif (!r2) then
      some false
    else
      (aC_ k a0.Peer 0 1000).bind fun r3=>
      bif (!r3) then
        some false
      else
        (aC_ k a0.Since 0 1000000).bind fun r4=>
        bif (!r4) then
          some false
        else
          (br_ k a0.Send).bind fun r5=>
          bif (!r5) then
            some false
          else
            (cK_ k a0.Take).bind fun r6=>
            bif (!r6) then
              some false
            else
              bif (a0.Peer==0) then
                (gm_ k a0.Send).bind fun r7=>
                bif (!r7) then
                  some false
                else
                  (f8_ k a0.Take).bind fun r8=>
                  bif (!r8) then
                    some false
                  else
                    bif a0.Up then
                      some true
                    else
                      bif (a0.Peer==0) then
                        bif (a0.Since==0) then
                          some (!a0.Owes)
                        else
                          some false
                      else
                        some false
              else
                bif a0.Up then
                  some true
                else
                  bif (a0.Peer==0) then
                    bif (a0.Since==0) then
                      some (!a0.Owes)
                    else
                      some false
                  else
                    some false
def cJ_ (k:Nat) (a0:ao_):Option (ao_):=
  (eC_ k a0.Send).bind fun r1=>
  (fk_ k a0.Take).bind fun r2=>
  some (⟨a0.Number,a0.Up,a0.Life,a0.Peer,a0.Since,a0.Owes,r1,r2⟩:ao_)
mutual
def dL_:Nat→Int→Int→Bool→Int→Int→Int→Bool→Int→Int→ByteArray→ByteArray→Int→Bool→Int→Int→Int→Bool→Int→Int→ByteArray→List ad_→List ah_→List ai_→List ByteArray→List ad_→List ah_→List ai_→List ByteArray→Option (ay_)
  | 0,_,_,_,_,_,_,_,_,_,_,_,_,_,_,_,_,_,_,_,_,_,_,_,_,_,_,_,_=>none
  | k+1,x0,x1,x2,x3,x4,x5,x6,x7,x8,x9,x10,x11,x12,x13,x14,x15,x16,x17,x18,x19,x20,x21,x22,x23,x24,x25,x26,x27=>
    bif (x14 !=0) then
      (f3_ k (⟨x17,x25⟩:am_)).bind fun r3=>
      cw_ k 0 x0 x1 x2 x3 x4 x5 x6 x7 x8 x9 x10 x11 x12 x13 x14 x15 x16 r3.1.Base x18 x19 x20 r3.1.Base r3.2 x21 x22 x23 x24 r3.1.Items x26 x27
    else
      dd_ k x0 x1 x2 x3 x4 x5 x6 x7 x8 x9 x10 x11 x12 x13 x14 x15 x16 x17 x18 x19 x20 x21 x22 x23 x24 x25 x26 x27
def cw_:Nat→Int→Int→Int→Bool→Int→Int→Int→Bool→Int→Int→ByteArray→ByteArray→Int→Bool→Int→Int→Int→Bool→Int→Int→ByteArray→List ad_→Int→List Int→List ah_→List ai_→List ByteArray→List ad_→List ah_→List ai_→List ByteArray→Option (ay_)
  | 0,_,_,_,_,_,_,_,_,_,_,_,_,_,_,_,_,_,_,_,_,_,_,_,_,_,_,_,_,_,_,_=>none
  | k+1,x0,x1,x2,x3,x4,x5,x6,x7,x8,x9,x10,x11,x12,x13,x14,x15,x16,x17,x18,x19,x20,x21,x22,x23,x24,x25,x26,x27,x28,x29,x30=>
    bif (decide (x0<(x23.length:Int))) then
      (idx x23 x0).bind fun _=>
      (x23[(Int.toNat x0)]?).bind fun y4=>
      (idx x28 (IntKind.wrap .i64 (y4-x22))).bind fun _=>
      (x28[(Int.toNat (IntKind.wrap .i64 (y4-x22)))]?).bind fun y5=>
      (idx x23 x0).bind fun _=>
      (x23[(Int.toNat x0)]?).bind fun y6=>
      (app 80 x21 ([(⟨2,x12,x14,x15,0,0,y6,y5.Part.Last,y5.Part.Text⟩:ad_)]:List ad_)).bind fun l7=>
      cw_ k (IntKind.wrap .i64 (x0+1)) x1 x2 x3 x4 x5 x6 x7 x8 x9 x10 x11 x12 x13 x14 x15 x16 x17 x18 x19 x20 l7 x22 x23 x24 x25 x26 x27 x28 x29 x30
    else
      dd_ k x1 x2 x3 x4 x5 x6 x7 x8 x9 x10 x11 x12 x13 x14 x15 x16 x17 x18 x19 x20 x21 x24 x25 x26 x27 x28 x29 x30
def dd_:Nat→Int→Int→Bool→Int→Int→Int→Bool→Int→Int→ByteArray→ByteArray→Int→Bool→Int→Int→Int→Bool→Int→Int→ByteArray→List ad_→List ah_→List ai_→List ByteArray→List ad_→List ah_→List ai_→List ByteArray→Option (ay_)
  | 0,_,_,_,_,_,_,_,_,_,_,_,_,_,_,_,_,_,_,_,_,_,_,_,_,_,_,_,_=>none
  | k+1,x0,x1,x2,x3,x4,x5,x6,x7,x8,x9,x10,x11,x12,x13,x14,x15,x16,x17,x18,x19,x20,x21,x22,x23,x24,x25,x26,x27=>
    bif x16 then
      (d0_ k (⟨x18,x26,x19,x27⟩:al_)).bind fun r8=>
      (app 80 x20 ([(⟨1,x11,x13,x14,r8.1,r8.2,0,false,(⟨#[]⟩:ByteArray)⟩:ad_)]:List ad_)).bind fun l9=>
      bZ_ k x0 x1 x2 x3 x4 x5 x6 x7 x8 x9 x10 x11 x12 x13 x14 0 false x17 x18 x19 l9 x21 x22 x23 x24 x25 x26 x27
    else
      bif (decide (x15≥6)) then
        (d0_ k (⟨x18,x26,x19,x27⟩:al_)).bind fun r10=>
        (app 80 x20 ([(⟨1,x11,x13,x14,r10.1,r10.2,0,false,(⟨#[]⟩:ByteArray)⟩:ad_)]:List ad_)).bind fun l11=>
        bZ_ k x0 x1 x2 x3 x4 x5 x6 x7 x8 x9 x10 x11 x12 x13 x14 0 false x17 x18 x19 l11 x21 x22 x23 x24 x25 x26 x27
      else
        bZ_ k x0 x1 x2 x3 x4 x5 x6 x7 x8 x9 x10 x11 x12 x13 x14 x15 x16 x17 x18 x19 x20 x21 x22 x23 x24 x25 x26 x27
def bZ_:Nat→Int→Int→Bool→Int→Int→Int→Bool→Int→Int→ByteArray→ByteArray→Int→Bool→Int→Int→Int→Bool→Int→Int→ByteArray→List ad_→List ah_→List ai_→List ByteArray→List ad_→List ah_→List ai_→List ByteArray→Option (ay_)
  | 0,_,_,_,_,_,_,_,_,_,_,_,_,_,_,_,_,_,_,_,_,_,_,_,_,_,_,_,_=>none
  | k+1,x0,x1,x2,x3,x4,x5,x6,x7,x8,x9,x10,x11,x12,x13,x14,x15,x16,x17,x18,x19,x20,x21,x22,x23,x24,x25,x26,x27=>
    some (⟨0,(⟨x11,x12,x13,x14,x15,x16,(⟨x17,x25⟩:am_),(⟨x18,x26,x19,x27⟩:al_)⟩:ao_),x20,(⟨#[]⟩:ByteArray)⟩:ay_)
end
def gG_ (k:Nat) (a0:ao_):Option (ay_):=
  (bO_ k a0).bind fun r1=>
  bif (!r1) then
    some (⟨1,(⟨0,false,0,0,0,false,(⟨0,([]:List ah_)⟩:am_),(⟨0,([]:List ai_),(⟨#[]⟩:ByteArray),([]:List ByteArray)⟩:al_)⟩:ao_),([]:List ad_),(⟨#[]⟩:ByteArray)⟩:ay_)
  else
    (cJ_ k a0).bind fun r2=>
    bif (!r2.Up) then
      some (⟨0,r2,([]:List ad_),(⟨#[]⟩:ByteArray)⟩:ay_)
    else
      bif (decide (r2.Since<1000000)) then
        dL_ k 0 0 false 0 0 0 false 0 0 (⟨#[]⟩:ByteArray) (⟨#[]⟩:ByteArray) r2.Number r2.Up r2.Life r2.Peer (IntKind.wrap .i64 (r2.Since+1)) r2.Owes r2.Send.Base r2.Take.Next r2.Take.Open ([]:List ad_) ([]:List ah_) ([]:List ai_) ([]:List ByteArray) ([]:List ad_) r2.Send.Items r2.Take.Held r2.Take.Ready
      else
        dL_ k 0 0 false 0 0 0 false 0 0 (⟨#[]⟩:ByteArray) (⟨#[]⟩:ByteArray) r2.Number r2.Up r2.Life r2.Peer r2.Since r2.Owes r2.Send.Base r2.Take.Next r2.Take.Open ([]:List ad_) ([]:List ah_) ([]:List ai_) ([]:List ByteArray) ([]:List ad_) r2.Send.Items r2.Take.Held r2.Take.Ready
def dg_:Nat→Int→Int→Int→Int→Int→Int→Int→Bool→ByteArray→Int→Int→Bool→Int→Int→Int→Bool→Int→Int→ByteArray→ByteArray→Int→Bool→Int→Int→Int→Bool→Int→Int→ByteArray→List ah_→List ai_→List ByteArray→List ad_→List ah_→List ai_→List ByteArray→Option (ay_)
  | 0,_,_,_,_,_,_,_,_,_,_,_,_,_,_,_,_,_,_,_,_,_,_,_,_,_,_,_,_,_,_,_,_,_,_,_,_=>none
  | k+1,x0,x1,x2,x3,x4,x5,x6,x7,x8,x9,x10,x11,x12,x13,x14,x15,x16,x17,x18,x19,x20,x21,x22,x23,x24,x25,x26,x27,x28,x29,x30,x31,x32,x33,x34,x35=>
    bif (x3 !=x22) then
      some (⟨0,(⟨x20,x21,x22,x23,x24,true,(⟨x26,x33⟩:am_),(⟨x27,x34,x28,x35⟩:al_)⟩:ao_),([]:List ad_),(⟨#[]⟩:ByteArray)⟩:ay_)
    else
      bif (x0==1) then
        (f7_ k (⟨x26,x33⟩:am_) x4 x5).bind fun r4=>
        some (⟨0,(⟨x20,x21,x22,x23,x24,x25,r4,(⟨x27,x34,x28,x35⟩:al_)⟩:ao_),([]:List ad_),(⟨#[]⟩:ByteArray)⟩:ay_)
      else
        (gg_ k (⟨x27,x34,x28,x35⟩:al_) x6 (⟨x8,x7⟩:aA_)).bind fun r5=>
        some (⟨0,(⟨x20,x21,x22,x23,x24,true,(⟨x26,x33⟩:am_),r5⟩:ao_),([]:List ad_),(⟨#[]⟩:ByteArray)⟩:ay_)
def gU_ (k:Nat) (a0:ao_) (a1:ad_):Option (ay_):=
  (bO_ k a0).bind fun r1=>
  bif (!r1) then
    some (⟨1,(⟨0,false,0,0,0,false,(⟨0,([]:List ah_)⟩:am_),(⟨0,([]:List ai_),(⟨#[]⟩:ByteArray),([]:List ByteArray)⟩:al_)⟩:ao_),([]:List ad_),(⟨#[]⟩:ByteArray)⟩:ay_)
  else
    (cJ_ k a0).bind fun r2=>
    bif (!r2.Up) then
      some (⟨0,r2,([]:List ad_),(⟨#[]⟩:ByteArray)⟩:ay_)
    else
      (fK_ k a1).bind fun r3=>
      bif (!r3) then
        some (⟨0,r2,([]:List ad_),(⟨#[]⟩:ByteArray)⟩:ay_)
      else
        bif (a1.From==r2.Number) then
          some (⟨0,r2,([]:List ad_),(⟨#[]⟩:ByteArray)⟩:ay_)
        else
          bif (decide (a1.Mine<r2.Peer)) then
            some (⟨0,r2,([]:List ad_),(⟨#[]⟩:ByteArray)⟩:ay_)
          else
            bif (decide (a1.Mine>r2.Peer)) then
              dg_ k a1.Kind a1.From a1.Mine a1.Yours a1.Next a1.Mask a1.Seq a1.Last a1.Part 0 0 false 0 0 0 false 0 0 (⟨#[]⟩:ByteArray) (⟨#[]⟩:ByteArray) r2.Number r2.Up r2.Life a1.Mine r2.Since true 0 0 (⟨#[]⟩:ByteArray) ([]:List ah_) ([]:List ai_) ([]:List ByteArray) ([]:List ad_) ([]:List ah_) ([]:List ai_) ([]:List ByteArray)
            else
              dg_ k a1.Kind a1.From a1.Mine a1.Yours a1.Next a1.Mask a1.Seq a1.Last a1.Part 0 0 false 0 0 0 false 0 0 (⟨#[]⟩:ByteArray) (⟨#[]⟩:ByteArray) r2.Number r2.Up r2.Life r2.Peer r2.Since r2.Owes r2.Send.Base r2.Take.Next r2.Take.Open ([]:List ah_) ([]:List ai_) ([]:List ByteArray) ([]:List ad_) r2.Send.Items r2.Take.Held r2.Take.Ready
def hd_ (k:Nat) (a0:ao_):Option (ao_):=
  (bO_ k a0).bind fun r1=>
  bif (!r1) then
    some (⟨0,false,0,0,0,false,(⟨0,([]:List ah_)⟩:am_),(⟨0,([]:List ai_),(⟨#[]⟩:ByteArray),([]:List ByteArray)⟩:al_)⟩:ao_)
  else
    some (⟨a0.Number,false,a0.Life,0,0,false,(⟨0,([]:List ah_)⟩:am_),(⟨0,([]:List ai_),(⟨#[]⟩:ByteArray),([]:List ByteArray)⟩:al_)⟩:ao_)
def g5_ (k:Nat) (a0:ao_):Option (ao_):=
  (bO_ k a0).bind fun r1=>
  bif (!r1) then
    some (⟨0,false,0,0,0,false,(⟨0,([]:List ah_)⟩:am_),(⟨0,([]:List ai_),(⟨#[]⟩:ByteArray),([]:List ByteArray)⟩:al_)⟩:ao_)
  else
    bif a0.Up then
      (cJ_ k a0).bind fun r2=>
      some r2
    else
      bif (decide (a0.Life≥1000)) then
        (cJ_ k a0).bind fun r3=>
        some r3
      else
        some (⟨a0.Number,true,(IntKind.wrap .i64 (a0.Life+1)),0,0,false,(⟨0,([]:List ah_)⟩:am_),(⟨0,([]:List ai_),(⟨#[]⟩:ByteArray),([]:List ByteArray)⟩:al_)⟩:ao_)
def gI_ (k:Nat) (a0:ao_) (a1:ByteArray):Option (ay_):=
  (bO_ k a0).bind fun r1=>
  bif (!r1) then
    some (⟨1,(⟨0,false,0,0,0,false,(⟨0,([]:List ah_)⟩:am_),(⟨0,([]:List ai_),(⟨#[]⟩:ByteArray),([]:List ByteArray)⟩:al_)⟩:ao_),([]:List ad_),(⟨#[]⟩:ByteArray)⟩:ay_)
  else
    bif (!a0.Up) then
      some (⟨2,(⟨0,false,0,0,0,false,(⟨0,([]:List ah_)⟩:am_),(⟨0,([]:List ai_),(⟨#[]⟩:ByteArray),([]:List ByteArray)⟩:al_)⟩:ao_),([]:List ad_),(⟨#[]⟩:ByteArray)⟩:ay_)
    else
      bif (a0.Peer==0) then
        some (⟨2,(⟨0,false,0,0,0,false,(⟨0,([]:List ah_)⟩:am_),(⟨0,([]:List ai_),(⟨#[]⟩:ByteArray),([]:List ByteArray)⟩:al_)⟩:ao_),([]:List ad_),(⟨#[]⟩:ByteArray)⟩:ay_)
      else
        (gh_ k a0.Send a1).bind fun r2=>
        bif (r2.2 !=0) then
          some (⟨r2.2,(⟨0,false,0,0,0,false,(⟨0,([]:List ah_)⟩:am_),(⟨0,([]:List ai_),(⟨#[]⟩:ByteArray),([]:List ByteArray)⟩:al_)⟩:ao_),([]:List ad_),(⟨#[]⟩:ByteArray)⟩:ay_)
        else
          (cJ_ k a0).bind fun r3=>
          some (⟨0,(⟨r3.Number,r3.Up,r3.Life,r3.Peer,r3.Since,r3.Owes,r2.1,r3.Take⟩:ao_),([]:List ad_),(⟨#[]⟩:ByteArray)⟩:ay_)
def hf_ (k:Nat) (a0:ao_):Option (ay_):=
  (bO_ k a0).bind fun r1=>
  bif (!r1) then
    some (⟨1,(⟨0,false,0,0,0,false,(⟨0,([]:List ah_)⟩:am_),(⟨0,([]:List ai_),(⟨#[]⟩:ByteArray),([]:List ByteArray)⟩:al_)⟩:ao_),([]:List ad_),(⟨#[]⟩:ByteArray)⟩:ay_)
  else
    bif (!a0.Up) then
      some (⟨2,(⟨0,false,0,0,0,false,(⟨0,([]:List ah_)⟩:am_),(⟨0,([]:List ai_),(⟨#[]⟩:ByteArray),([]:List ByteArray)⟩:al_)⟩:ao_),([]:List ad_),(⟨#[]⟩:ByteArray)⟩:ay_)
    else
      (ga_ k a0.Take).bind fun r2=>
      bif (!r2.2.2) then
        some (⟨4,(⟨0,false,0,0,0,false,(⟨0,([]:List ah_)⟩:am_),(⟨0,([]:List ai_),(⟨#[]⟩:ByteArray),([]:List ByteArray)⟩:al_)⟩:ao_),([]:List ad_),(⟨#[]⟩:ByteArray)⟩:ay_)
      else
        (cJ_ k a0).bind fun r3=>
        some (⟨0,(⟨r3.Number,r3.Up,r3.Life,r3.Peer,r3.Since,true,r3.Send,r2.1⟩:ao_),([]:List ad_),r2.2.1⟩:ay_)
def jI_ (k:Nat) (a0:ao_) (a1:Int):Option (Int):=
  (hZ_ k a0.Send a1).bind fun r1=>
  bif (decide (r1<0)) then
    some (-1)
  else
    (hQ_ k a0.Take r1).bind fun r2=>
    bif (decide (r2<0)) then
      some (-1)
    else
      some r2
def jP_ (k:Nat) (a0:ao_):Option (ao_):=
  (ia_ k a0.Send).bind fun r1=>
  (hP_ k a0.Take).bind fun r2=>
  some (⟨a0.Number,a0.Up,a0.Life,a0.Peer,a0.Since,a0.Owes,r1,r2⟩:ao_)
def jO_ (k:Nat) (a0:ao_) (a1:ao_):Option (Bool):=
  bif (a0.Number !=a1.Number) then
    some false
  else
    bif (!(a0.Up==a1.Up)) then
      some false
    else
      bif (a0.Life !=a1.Life) then
        some false
      else
        bif (a0.Peer !=a1.Peer) then
          some false
        else
          bif (a0.Since !=a1.Since) then
            some false
          else
            bif (!(a0.Owes==a1.Owes)) then
              some false
            else
              (hX_ k a0.Send a1.Send).bind fun r1=>
              bif (!r1) then
                some false
              else
                (ib_ k a0.Take a1.Take).bind fun r2=>
                bif (!r2) then
                  some false
                else
                  some true
end Km.X
