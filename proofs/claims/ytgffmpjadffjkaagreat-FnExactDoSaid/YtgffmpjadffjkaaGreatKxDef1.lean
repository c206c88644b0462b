/- A part of the proof of FnExactDo: the functions that it reads off the program. There is no condition. -/
import Derived.Test.YtgffmpjadffjkaaGreatKmAm4
namespace Km.X
open Go Km
set_option linter.unusedVariables false
set_option maxRecDepth 100000
structure aE_ where
  Text:ByteArray
  Last:Bool
structure ag_ where
  Part:aE_
  Has:Bool
  Since:Int
structure al_ where
  Base:Int
  Items:List ag_
structure ai_ where
  Seq:Int
  Part:aE_
structure ak_ where
  Next:Int
  Held:List ai_
  Open:ByteArray
  Ready:List ByteArray
structure an_ where
  Number:Int
  Up:Bool
  Life:Int
  Peer:Int
  Since:Int
  Owes:Bool
  Send:al_
  Take:ak_
structure ad_ where
  Kind:Int
  From:Int
  Mine:Int
  Yours:Int
  Next:Int
  Mask:Int
  Seq:Int
  Last:Bool
  Part:ByteArray
structure aC_ where
  Code:Int
  End:an_
  Out:List ad_
  Text:ByteArray
structure bu_ where
  Kind:Int
  A:Int
  B:Int
  C:Int
  Text:ByteArray
structure C9_ where
  to:Int
  bytes:ByteArray
structure sJ_ where
  to:Int
  bytes:ByteArray
  n:Int
structure vY_ where
  f:Int
  a:Int
  b:Int
structure ac_ where
  To:Int
  Sent:ByteArray
  Bytes:ByteArray
structure ab_ where
  From:Int
  A:Int
  B:Int
  Text:ByteArray
structure ae_ where
  Key:ByteArray
  Width:Int
  Ends:List an_
  Flight:List ac_
  Forged:ByteArray
  Given:List ab_
  Taken:List ab_
def uQ_ (x y:C9_):Bool:=((x.to==y.to)&&((x.bytes.toList==y.bytes.toList)&&true))
theorem u3_ {x y:C9_} (h:uQ_ x y=true):x=y:=by
  obtain ⟨x0,x1⟩:=x
  obtain ⟨y0,y1⟩:=y
  simp only [uQ_,Bool.and_eq_true,Bool.and_true,beq_iff_eq] at h
  obtain ⟨h0,h1⟩:=h
  subst h0;have h1:=Km.toList_inj h1;subst h1;rfl
def qE_ (x y:vY_):Bool:=((x.f==y.f)&&((x.a==y.a)&&((x.b==y.b)&&true)))
theorem r6_ {x y:vY_} (h:qE_ x y=true):x=y:=by
  obtain ⟨x0,x1,x2⟩:=x
  obtain ⟨y0,y1,y2⟩:=y
  simp only [qE_,Bool.and_eq_true,Bool.and_true,beq_iff_eq] at h
  obtain ⟨h0,h1,h2⟩:=h
  subst h0;subst h1;subst h2;rfl
def zc_ (x:ByteArray):Prop:=x.size≤maxLen
def i3_ (x:aE_):Prop:=x.Text.size≤maxLen∧True
def pP_ (x:ag_):Prop:=i3_ x.Part∧True∧(Lit.int .i64 x.Since).wf=true
def tb_ (x:ag_):Prop:=pP_ x
def tc_ (x:al_):Prop:=(Lit.int .i64 x.Base).wf=true∧(x.Items.length≤maxLen∧∀y∈x.Items,tb_ y)
def qM_ (x:ai_):Prop:=(Lit.int .i64 x.Seq).wf=true∧i3_ x.Part
def tz_ (x:ai_):Prop:=qM_ x
def s8_ (x:ak_):Prop:=(Lit.int .i64 x.Next).wf=true∧(x.Held.length≤maxLen∧∀y∈x.Held,tz_ y)∧x.Open.size≤maxLen∧(x.Ready.length≤maxLen∧∀y∈x.Ready,zc_ y)
def xq_ (x:an_):Prop:=(Lit.int .i64 x.Number).wf=true∧True∧(Lit.int .i64 x.Life).wf=true∧(Lit.int .i64 x.Peer).wf=true∧(Lit.int .i64 x.Since).wf=true∧True∧tc_ x.Send∧s8_ x.Take
def An_ (x:an_):Prop:=xq_ x
def zj_ (x:ad_):Prop:=(Lit.int .i64 x.Kind).wf=true∧(Lit.int .i64 x.From).wf=true∧(Lit.int .i64 x.Mine).wf=true∧(Lit.int .i64 x.Yours).wf=true∧(Lit.int .i64 x.Next).wf=true∧(Lit.int .i64 x.Mask).wf=true∧(Lit.int .i64 x.Seq).wf=true∧True∧x.Part.size≤maxLen
def sV_ (x:bu_):Prop:=(Lit.int .i64 x.Kind).wf=true∧(Lit.int .i64 x.A).wf=true∧(Lit.int .i64 x.B).wf=true∧(Lit.int .i64 x.C).wf=true∧x.Text.size≤maxLen
def xH_ (x:sJ_):Prop:=(Lit.int .i64 x.to).wf=true∧x.bytes.size≤maxLen∧(Lit.int .i64 x.n).wf=true
def jg_ (x:ac_):Prop:=(Lit.int .i64 x.To).wf=true∧x.Sent.size≤maxLen∧x.Bytes.size≤maxLen
def qv_ (x:ac_):Prop:=jg_ x
def i8_ (x:ab_):Prop:=(Lit.int .i64 x.From).wf=true∧(Lit.int .i64 x.A).wf=true∧(Lit.int .i64 x.B).wf=true∧x.Text.size≤maxLen
def my_ (x:ab_):Prop:=i8_ x
def tv_ (x:ae_):Prop:=x.Key.size≤maxLen∧(Lit.int .i64 x.Width).wf=true∧(x.Ends.length≤maxLen∧∀y∈x.Ends,An_ y)∧(x.Flight.length≤maxLen∧∀y∈x.Flight,qv_ y)∧x.Forged.size≤maxLen∧(x.Given.length≤maxLen∧∀y∈x.Given,my_ y)∧(x.Taken.length≤maxLen∧∀y∈x.Taken,my_ y)
end Km.X
namespace Km.X
open Go Km
set_option linter.unusedVariables false
set_option maxRecDepth 100000
def aF_ (k:Nat) (a0:Int) (a1:Int) (a2:Int):Option (Bool):=
  bif (decide (a0≥a1)) then
    some (decide (a0≤a2))
  else
    some false
def dx_:Nat→ByteArray→Int→Int→Option (Int)
  | 0,_,_,_=>none
  | k+1,x0,x1,x2=>
    bif (decide (x2<(x0.size:Int))) then
      (tG_ x0 x2).bind fun c1=>
      dx_ k x0 (IntKind.wrap .i64 ((IntKind.wrap .i64 (x1*256))+(IntKind.wrap .i64 (c1.toNat:Int)))) (IntKind.wrap .i64 (x2+1))
    else
      some x1
def fg_ (k:Nat) (a0:ByteArray):Option (Int):=
  dx_ k a0 0 0
def fA_ (k:Nat) (a0:ad_):Option (Bool):=
  (aF_ k a0.From 1 2).bind fun r1=>
  bif (!r1) then
    some false
  else
    (aF_ k a0.Mine 1 1000).bind fun r2=>
    bif (!r2) then
      some false
    else
      (aF_ k a0.Yours 0 1000).bind fun r3=>
      bif (!r3) then
        some false
      else
        bif (a0.Kind==1) then
          (aF_ k a0.Next 0 1000000).bind fun r4=>
          bif r4 then
            (aF_ k a0.Mask 0 255).bind fun r5=>
            bif r5 then
              bif (a0.Seq==0) then
                bif (!a0.Last) then
                  some (a0.Part.toList==(⟨#[]⟩:ByteArray).toList)
                else
                  some false
              else
                some false
            else
              some false
          else
            some false
        else
          bif (a0.Kind==2) then
            bif (a0.Next==0) then
              bif (a0.Mask==0) then
                (aF_ k a0.Seq 0 999999).bind fun r6=>
                bif r6 then
                  some (decide ((a0.Part.size:Int)≤20))
                else
                  some false
              else
                some false
            else
              some false
          else
            some false
def cJ_:Nat→Int→Int→ByteArray→Int→Option (ByteArray)
  | 0,_,_,_,_=>none
  | k+1,x0,x1,x2,x3=>
    bif (decide (x3<x1)) then
      (qN_ x0 256).bind fun q1=>
      (jI_ (iJ_ ([(IntKind.wrap .u8 q1)]:List Int)) x2).bind fun t2=>
      (Ad_ x0 256).bind fun q3=>
      cJ_ k (IntKind.wrap .i64 (q3)) x1 t2 (IntKind.wrap .i64 (x3+1))
    else
      some x2
def bQ_ (k:Nat) (a0:Int) (a1:Int):Option (ByteArray):=
  cJ_ k a0 a1 (⟨#[]⟩:ByteArray) 0
def ej_:Nat→ByteArray→Int→Int→Int→Int→Int→Int→Int→Int→Bool→ByteArray→Option (ByteArray)
  | 0,_,_,_,_,_,_,_,_,_,_,_=>none
  | k+1,x0,x1,x2,x3,x4,x5,x6,x7,x8,x9,x10=>
    (bQ_ k x8 4).bind fun r12=>
    (jI_ x0 r12).bind fun t13=>
    (bQ_ k x1 1).bind fun r14=>
    (jI_ t13 r14).bind fun t15=>
    (jI_ t15 x10).bind fun t16=>
    some t16
def gn_ (k:Nat) (a0:ad_):Option (ByteArray):=
  (bQ_ k a0.Kind 1).bind fun r1=>
  (bQ_ k a0.From 1).bind fun r2=>
  (jI_ r1 r2).bind fun t3=>
  (bQ_ k a0.Mine 2).bind fun r4=>
  (jI_ t3 r4).bind fun t5=>
  (bQ_ k a0.Yours 2).bind fun r6=>
  (jI_ t5 r6).bind fun t7=>
  bif (a0.Kind==1) then
    (bQ_ k a0.Next 4).bind fun r8=>
    (jI_ t7 r8).bind fun t9=>
    (bQ_ k a0.Mask 1).bind fun r10=>
    (jI_ t9 r10).bind fun t11=>
    some t11
  else
    bif a0.Last then
      ej_ k t7 1 a0.Kind a0.From a0.Mine a0.Yours a0.Next a0.Mask a0.Seq a0.Last a0.Part
    else
      ej_ k t7 0 a0.Kind a0.From a0.Mine a0.Yours a0.Next a0.Mask a0.Seq a0.Last a0.Part
mutual
def e7_:Nat→Int→ByteArray→Int→Int→Option (ByteArray)
  | 0,_,_,_,_=>none
  | k+1,x0,x1,x2,x3=>
    bif (decide (x3<(x1.size:Int))) then
      (tG_ x1 x3).bind fun c4=>
      e7_ k x0 x1 (IntKind.wrap .u64 ((m6_ .u64 x2 (IntKind.wrap .u64 (c4.toNat:Int)))*1099511628211)) (IntKind.wrap .i64 (x3+1))
    else
      eF_ k x0 x2 (⟨#[]⟩:ByteArray) 0
def eF_:Nat→Int→Int→ByteArray→Int→Option (ByteArray)
  | 0,_,_,_,_=>none
  | k+1,x0,x1,x2,x3=>
    bif (decide (x3<x0)) then
      (qN_ x1 256).bind fun q5=>
      (jI_ (iJ_ ([(IntKind.wrap .u8 q5)]:List Int)) x2).bind fun t6=>
      (Ad_ x1 256).bind fun q7=>
      eF_ k x0 (IntKind.wrap .u64 (q7)) t6 (IntKind.wrap .i64 (x3+1))
    else
      some x2
end
def o2_ (k:Nat) (a0:ByteArray) (a1:ByteArray) (a2:Int):Option (ByteArray):=
  (aF_ k a2 1 8).bind fun r1=>
  bif (!r1) then
    some (⟨#[]⟩:ByteArray)
  else
    bif (decide ((a1.size:Int)>30)) then
      some (⟨#[]⟩:ByteArray)
    else
      (jI_ a1 (⟨#[0]⟩:ByteArray)).bind fun t2=>
      (jI_ t2 a0).bind fun t3=>
      e7_ k a2 t3 14695981039346656037 0
def c6_ (k:Nat) (a0:ad_) (a1:ByteArray) (a2:Int):Option (ByteArray):=
  (fA_ k a0).bind fun r1=>
  bif (!r1) then
    some (⟨#[]⟩:ByteArray)
  else
    (aF_ k a2 1 8).bind fun r2=>
    bif (!r2) then
      some (⟨#[]⟩:ByteArray)
    else
      bif (decide ((a1.size:Int)>30)) then
        some (⟨#[]⟩:ByteArray)
      else
        (gn_ k a0).bind fun r3=>
        (o2_ k r3 a1 a2).bind fun r4=>
        (gn_ k a0).bind fun r5=>
        (jI_ r4 r5).bind fun t6=>
        some t6
def cD_:Nat→ByteArray→ByteArray→Int→Int→Int→Int→Int→Int→Int→Int→Bool→ByteArray→Int→Int→Int→Int→Int→Int→Int→Bool→ByteArray→Option (ad_×Bool)
  | 0,_,_,_,_,_,_,_,_,_,_,_,_,_,_,_,_,_,_,_,_,_=>none
  | k+1,x0,x1,x2,x3,x4,x5,x6,x7,x8,x9,x10,x11,x12,x13,x14,x15,x16,x17,x18,x19,x20=>
    (c6_ k (⟨x12,x13,x14,x15,x16,x17,x18,x19,x20⟩:ad_) x1 x2).bind fun r16=>
    bif (!(r16.toList==x0.toList)) then
      some ((⟨0,0,0,0,0,0,0,false,(⟨#[]⟩:ByteArray)⟩:ad_),false)
    else
      some ((⟨x12,x13,x14,x15,x16,x17,x18,x19,x20⟩:ad_),true)
def eY_ (k:Nat) (a0:ByteArray) (a1:ByteArray) (a2:Int):Option (ad_×Bool):=
  (aF_ k a2 1 8).bind fun r1=>
  bif (!r1) then
    some ((⟨0,0,0,0,0,0,0,false,(⟨#[]⟩:ByteArray)⟩:ad_),false)
  else
    bif (decide ((a0.size:Int)<(IntKind.wrap .i64 (a2+11)))) then
      some ((⟨0,0,0,0,0,0,0,false,(⟨#[]⟩:ByteArray)⟩:ad_),false)
    else
      (wnd a0.size a2 (a0.size:Int)).bind fun p2=>
      (tG_ (a0.extract p2.1 p2.2) 0).bind fun c3=>
      (tG_ (a0.extract p2.1 p2.2) 1).bind fun c4=>
      (wnd (a0.extract p2.1 p2.2).size 2 4).bind fun p5=>
      (fg_ k ((a0.extract p2.1 p2.2).extract p5.1 p5.2)).bind fun r6=>
      (wnd (a0.extract p2.1 p2.2).size 4 6).bind fun p7=>
      (fg_ k ((a0.extract p2.1 p2.2).extract p7.1 p7.2)).bind fun r8=>
      bif ((IntKind.wrap .i64 (c3.toNat:Int))==1) then
        (wnd (a0.extract p2.1 p2.2).size 6 10).bind fun p9=>
        (fg_ k ((a0.extract p2.1 p2.2).extract p9.1 p9.2)).bind fun r10=>
        (tG_ (a0.extract p2.1 p2.2) 10).bind fun c11=>
        cD_ k a0 a1 a2 0 0 0 0 0 0 0 false (⟨#[]⟩:ByteArray) (IntKind.wrap .i64 (c3.toNat:Int)) (IntKind.wrap .i64 (c4.toNat:Int)) r6 r8 r10 (IntKind.wrap .i64 (c11.toNat:Int)) 0 false (⟨#[]⟩:ByteArray)
      else
        (wnd (a0.extract p2.1 p2.2).size 6 10).bind fun p12=>
        (fg_ k ((a0.extract p2.1 p2.2).extract p12.1 p12.2)).bind fun r13=>
        (tG_ (a0.extract p2.1 p2.2) 10).bind fun c14=>
        (wnd (a0.extract p2.1 p2.2).size 11 ((a0.extract p2.1 p2.2).size:Int)).bind fun p15=>
        cD_ k a0 a1 a2 0 0 0 0 0 0 0 false (⟨#[]⟩:ByteArray) (IntKind.wrap .i64 (c3.toNat:Int)) (IntKind.wrap .i64 (c4.toNat:Int)) r6 r8 0 0 r13 ((c14.toNat:Int)==1) ((a0.extract p2.1 p2.2).extract p15.1 p15.2)
def aX_ (k:Nat) (a0:Int) (a1:Int) (a2:Int):Option (Bool):=
  bif (decide (a0≥a1)) then
    some (decide (a0≤a2))
  else
    some false
def bv_:Nat→List ag_→Int→Int→Option (Bool)
  | 0,_,_,_=>none
  | k+1,x0,x1,x2=>
    bif (decide (x2<x1)) then
      (idx x0 x2).bind fun y2=>
      bif (decide ((y2.Part.Text.size:Int)>20)) then
        some false
      else
        (aX_ k y2.Since (-1) 3).bind fun r3=>
        bif (!r3) then
          some false
        else
          bif (decide (x2≥8)) then
            bif (y2.Since !=(-1)) then
              some false
            else
              bif y2.Has then
                bif (decide (y2.Since<0)) then
                  some false
                else
                  bv_ k x0 x1 (IntKind.wrap .i64 (x2+1))
              else
                bv_ k x0 x1 (IntKind.wrap .i64 (x2+1))
          else
            bif y2.Has then
              bif (decide (y2.Since<0)) then
                some false
              else
                bv_ k x0 x1 (IntKind.wrap .i64 (x2+1))
            else
              bv_ k x0 x1 (IntKind.wrap .i64 (x2+1))
    else
      some true
def bf_ (k:Nat) (a0:al_):Option (Bool):=
  bif (decide ((a0.Items.length:Int)>60)) then
    some false
  else
    (aX_ k a0.Base 0 1000000).bind fun r1=>
    bif (!r1) then
      some false
    else
      bif (decide ((IntKind.wrap .i64 (a0.Base+(a0.Items.length:Int)))>1000000)) then
        some false
      else
        bv_ k a0.Items (a0.Items.length:Int) 0
def gk_ (k:Nat) (a0:ak_) (a1:aE_):Option (Bool):=
  bif (decide ((IntKind.wrap .i64 ((a0.Open.size:Int)+(a1.Text.size:Int)))≤200)) then
    bif (!a1.Last) then
      some true
    else
      some (decide ((a0.Ready.length:Int)<4))
  else
    some false
mutual
def aQ_:Nat→List ai_→Int→Int→Int→List ai_→ByteArray→List ByteArray→Option (Bool)
  | 0,_,_,_,_,_,_,_=>none
  | k+1,x0,x1,x2,x3,x4,x5,x6=>
    bif (decide (x2<x1)) then
      (idx x0 x2).bind fun y2=>
      (aX_ k y2.Seq x3 (IntKind.wrap .i64 ((IntKind.wrap .i64 (x3+8))-1))).bind fun r3=>
      bif (!r3) then
        some false
      else
        bif (decide (y2.Seq>999999)) then
          some false
        else
          bif (decide ((y2.Part.Text.size:Int)>20)) then
            some false
          else
            bif (decide (x2>0)) then
              (idx x4 (IntKind.wrap .i64 (x2-1))).bind fun y4=>
              bif (decide (y4.Seq≥y2.Seq)) then
                some false
              else
                bif (y2.Seq==x3) then
                  (gk_ k (⟨x3,x4,x5,x6⟩:ak_) y2.Part).bind fun r5=>
                  bif r5 then
                    some false
                  else
                    aQ_ k x0 x1 (IntKind.wrap .i64 (x2+1)) x3 x4 x5 x6
                else
                  aQ_ k x0 x1 (IntKind.wrap .i64 (x2+1)) x3 x4 x5 x6
            else
              bif (y2.Seq==x3) then
                (gk_ k (⟨x3,x4,x5,x6⟩:ak_) y2.Part).bind fun r6=>
                bif r6 then
                  some false
                else
                  aQ_ k x0 x1 (IntKind.wrap .i64 (x2+1)) x3 x4 x5 x6
              else
                aQ_ k x0 x1 (IntKind.wrap .i64 (x2+1)) x3 x4 x5 x6
    else
      b2_ k x6 (x6.length:Int) 0
def b2_:Nat→List ByteArray→Int→Int→Option (Bool)
  | 0,_,_,_=>none
  | k+1,x0,x1,x2=>
    bif (decide (x2<x1)) then
      (idx x0 x2).bind fun y7=>
      bif (decide ((y7.size:Int)>200)) then
        some false
      else
        b2_ k x0 x1 (IntKind.wrap .i64 (x2+1))
    else
      some true
end
def bU_ (k:Nat) (a0:ak_):Option (Bool):=
  (aX_ k a0.Next 0 1000000).bind fun r1=>
  bif (!r1) then
    some false
  else
    bif (decide ((a0.Held.length:Int)>8)) then
      some false
    else
      bif (decide ((a0.Open.size:Int)>200)) then
        some false
      else
        bif (decide ((a0.Ready.length:Int)>4)) then
          some false
        else
          aQ_ k a0.Held (a0.Held.length:Int) 0 a0.Next a0.Held a0.Open a0.Ready
def d1_ (k:Nat) (a0:al_):Option (al_):=
  (app 40 ([]:List ag_) a0.Items).bind fun l1=>
  some (⟨a0.Base,l1⟩:al_)
def eQ_ (k:Nat) (a0:ak_):Option (ak_):=
  (app 32 ([]:List ai_) a0.Held).bind fun l1=>
  (app 16 ([]:List ByteArray) a0.Ready).bind fun l2=>
  some (⟨a0.Next,l1,a0.Open,l2⟩:ak_)
mutual
def cK_:Nat→Int→Int→Int→List Int→List ag_→List ag_→Option (al_×List Int)
  | 0,_,_,_,_,_,_=>none
  | k+1,x0,x1,x2,x3,x4,x5=>
    bif (decide (x0<(x5.length:Int))) then
      bif (decide (x0<8)) then
        (idx x5 x0).bind fun _=>
        (x5[(Int.toNat x0)]?).bind fun y3=>
        bif y3.Has then
          b8_ k x0 x1 x2 x3 x4 x5
        else
          (x5[(Int.toNat x0)]?).bind fun y4=>
          bif (y4.Since==(-1)) then
            (x5[(Int.toNat x0)]?).bind fun y5=>
            (app 8 x3 ([(IntKind.wrap .i64 (x2+x0))]:List Int)).bind fun l6=>
            b8_ k x0 x1 x2 l6 x4 (x5.set (Int.toNat x0) (⟨y5.Part,y5.Has,0⟩:ag_))
          else
            (x5[(Int.toNat x0)]?).bind fun y7=>
            bif (y7.Since==3) then
              (x5[(Int.toNat x0)]?).bind fun y8=>
              (app 8 x3 ([(IntKind.wrap .i64 (x2+x0))]:List Int)).bind fun l9=>
              b8_ k x0 x1 x2 l9 x4 (x5.set (Int.toNat x0) (⟨y8.Part,y8.Has,0⟩:ag_))
            else
              (x5[(Int.toNat x0)]?).bind fun y10=>
              (x5[(Int.toNat x0)]?).bind fun y11=>
              b8_ k x0 x1 x2 x3 x4 (x5.set (Int.toNat x0) (⟨y11.Part,y11.Has,(IntKind.wrap .i64 (y10.Since+1))⟩:ag_))
      else
        some ((⟨x2,x5⟩:al_),x3)
    else
      some ((⟨x2,x5⟩:al_),x3)
def b8_:Nat→Int→Int→Int→List Int→List ag_→List ag_→Option (al_×List Int)
  | 0,_,_,_,_,_,_=>none
  | k+1,x0,x1,x2,x3,x4,x5=>
    cK_ k (IntKind.wrap .i64 (x0+1)) x1 x2 x3 x4 x5
end
def f7_ (k:Nat) (a0:al_):Option (al_×List Int):=
  (bf_ k a0).bind fun r1=>
  bif (!r1) then
    some ((⟨0,([]:List ag_)⟩:al_),([]:List Int))
  else
    (d1_ k a0).bind fun r2=>
    cK_ k 0 0 r2.Base ([]:List Int) ([]:List ag_) r2.Items
def cL_:Nat→Int→List ai_→Int→Int→Int→List ai_→ByteArray→List ByteArray→Option (Int×Int)
  | 0,_,_,_,_,_,_,_,_=>none
  | k+1,x0,x1,x2,x3,x4,x5,x6,x7=>
    bif (decide (x3<x2)) then
      (idx x1 x3).bind fun y2=>
      (shift .shl .i64 1 (IntKind.wrap .i64 (y2.Seq-x4))).bind fun s3=>
      cL_ k (wW_ .i64 x0 s3) x1 x2 (IntKind.wrap .i64 (x3+1)) x4 x5 x6 x7
    else
      some (x4,x0)
def dY_ (k:Nat) (a0:ak_):Option (Int×Int):=
  (bU_ k a0).bind fun r1=>
  bif (!r1) then
    some (0,0)
  else
    cL_ k 0 a0.Held (a0.Held.length:Int) 0 a0.Next a0.Held a0.Open a0.Ready
def a8_ (k:Nat) (a0:ad_):Option (Bool):=
  bif (a0.From !=1) then
    bif (a0.From !=2) then
      some false
    else
      (aX_ k a0.Mine 1 1000).bind fun r1=>
      bif (!r1) then
        some false
      else
        (aX_ k a0.Yours 0 1000).bind fun r2=>
        bif (!r2) then
          some false
        else
          bif (a0.Kind==1) then
            (aX_ k a0.Next 0 1000000).bind fun r3=>
            bif r3 then
              (aX_ k a0.Mask 0 255).bind fun r4=>
              bif r4 then
                bif (a0.Seq==0) then
                  bif (!a0.Last) then
                    some (a0.Part.toList==(⟨#[]⟩:ByteArray).toList)
                  else
                    some false
                else
                  some false
              else
                some false
            else
              some false
          else
            bif (a0.Kind==2) then
              bif (a0.Next==0) then
                bif (a0.Mask==0) then
                  (aX_ k a0.Seq 0 999999).bind fun r5=>
                  bif r5 then
                    some (decide ((a0.Part.size:Int)≤20))
                  else
                    some false
                else
                  some false
              else
                some false
            else
              some false
  else
    (aX_ k a0.Mine 1 1000).bind fun r6=>
    bif (!r6) then
      some false
    else
      (aX_ k a0.Yours 0 1000).bind fun r7=>
      bif (!r7) then
        some false
      else
        bif (a0.Kind==1) then
          (aX_ k a0.Next 0 1000000).bind fun r8=>
          bif r8 then
            (aX_ k a0.Mask 0 255).bind fun r9=>
            bif r9 then
              bif (a0.Seq==0) then
                bif (!a0.Last) then
                  some (a0.Part.toList==(⟨#[]⟩:ByteArray).toList)
                else
                  some false
              else
                some false
            else
              some false
          else
            some false
        else
          bif (a0.Kind==2) then
            bif (a0.Next==0) then
              bif (a0.Mask==0) then
                (aX_ k a0.Seq 0 999999).bind fun r10=>
                bif r10 then
                  some (decide ((a0.Part.size:Int)≤20))
                else
                  some false
              else
                some false
            else
              some false
          else
            some false
def gj_:Nat→Int→Int→List Int→Option (ByteArray)
  | 0,_,_,_=>none
  | k+1,x0,x1,x2=>
    bif (decide (x1≥0)) then
      (idx x2 x1).bind fun _=>
      (x2[(Int.toNat x1)]?).bind fun y2=>
      (shift .shr .i64 x0 8).bind fun s3=>
      gj_ k s3 (IntKind.wrap .i64 (x1-1)) (x2.set (Int.toNat x1) (IntKind.wrap .u8 x0))
    else
      some (iJ_ x2)
def gu_ (k:Nat) (a0:Int) (a1:Int):Option (ByteArray):=
  (if (a1:Int)=a1 then room 1 a1 else none).bind fun n1=>
  gj_ k a0 (IntKind.wrap .i64 (a1-1)) (List.replicate n1 0)
mutual
def fj_:Nat→Int→Int→ByteArray→Int→Option (ByteArray)
  | 0,_,_,_,_=>none
  | k+1,x0,x1,x2,x3=>
    bif (decide (x3<(x2.size:Int))) then
      (tG_ x2 x3).bind fun c3=>
      fj_ k x0 (IntKind.wrap .u64 ((m6_ .u64 x1 (IntKind.wrap .u64 (c3.toNat:Int)))*1099511628211)) x2 (IntKind.wrap .i64 (x3+1))
    else
      eI_ k x0 x1 7 (List.replicate 8 0)
def eI_:Nat→Int→Int→Int→List Int→Option (ByteArray)
  | 0,_,_,_,_=>none
  | k+1,x0,x1,x2,x3=>
    bif (decide (x2≥0)) then
      (if x3.length=8 then idx x3 x2 else none).bind fun _=>
      (x3[(Int.toNat x2)]?).bind fun y4=>
      (shift .shr .u64 x1 8).bind fun s5=>
      eI_ k x0 s5 (IntKind.wrap .i64 (x2-1)) (x3.set (Int.toNat x2) (IntKind.wrap .u8 x1))
    else
      (if x3.length=8 then wnd 8 (IntKind.wrap .i64 (8-x0)) (8:Int) else none).bind fun p6=>
      some (iJ_ (dO_ x3 p6.1 p6.2))
end
def o6_ (k:Nat) (a0:ByteArray) (a1:ByteArray) (a2:Int):Option (ByteArray):=
  bif (decide (a2<1)) then
    some (⟨#[]⟩:ByteArray)
  else
    bif (decide (a2>8)) then
      some (⟨#[]⟩:ByteArray)
    else
      bif (decide ((a1.size:Int)>30)) then
        some (⟨#[]⟩:ByteArray)
      else
        (jI_ a1 (⟨#[0]⟩:ByteArray)).bind fun t1=>
        (jI_ t1 a0).bind fun t2=>
        fj_ k a2 14695981039346656037 t2 0
mutual
def cC_:Nat→ByteArray→Int→ByteArray→Option (ByteArray)
  | 0,_,_,_=>none
  | k+1,x0,x1,x2=>
    (o6_ k x2 x0 x1).bind fun r13=>
    (jI_ r13 x2).bind fun t14=>
    some t14
def cT_:Nat→ByteArray→Int→ByteArray→Int→Int→Int→Int→Int→Int→Int→Int→Bool→ByteArray→Option (ByteArray)
  | 0,_,_,_,_,_,_,_,_,_,_,_,_,_=>none
  | k+1,x0,x1,x2,x3,x4,x5,x6,x7,x8,x9,x10,x11,x12=>
    (gu_ k x10 4).bind fun r15=>
    (gu_ k x3 1).bind fun r16=>
    (jI_ r15 r16).bind fun t17=>
    (jI_ t17 x12).bind fun t18=>
    (jI_ x2 t18).bind fun t19=>
    cC_ k x0 x1 t19
end
def c2_ (k:Nat) (a0:ad_) (a1:ByteArray) (a2:Int):Option (ByteArray):=
  (a8_ k a0).bind fun r1=>
  bif (!r1) then
    some (⟨#[]⟩:ByteArray)
  else
    bif (decide (a2<1)) then
      some (⟨#[]⟩:ByteArray)
    else
      bif (decide (a2>8)) then
        some (⟨#[]⟩:ByteArray)
      else
        bif (decide ((a1.size:Int)>30)) then
          some (⟨#[]⟩:ByteArray)
        else
          (gu_ k a0.Kind 1).bind fun r2=>
          (gu_ k a0.From 1).bind fun r3=>
          (jI_ r2 r3).bind fun t4=>
          (gu_ k a0.Mine 2).bind fun r5=>
          (jI_ t4 r5).bind fun t6=>
          (gu_ k a0.Yours 2).bind fun r7=>
          (jI_ t6 r7).bind fun t8=>
          bif (a0.Kind==1) then
            (gu_ k a0.Next 4).bind fun r9=>
            (gu_ k a0.Mask 1).bind fun r10=>
            (jI_ r9 r10).bind fun t11=>
            (jI_ t8 t11).bind fun t12=>
            cC_ k a1 a2 t12
          else
            bif a0.Last then
              cT_ k a1 a2 t8 1 a0.Kind a0.From a0.Mine a0.Yours a0.Next a0.Mask a0.Seq a0.Last a0.Part
            else
              cT_ k a1 a2 t8 0 a0.Kind a0.From a0.Mine a0.Yours a0.Next a0.Mask a0.Seq a0.Last a0.Part
def fc_:Nat→ByteArray→Int→Int→Option (Int)
  | 0,_,_,_=>none
  | k+1,x0,x1,x2=>
    bif (decide (x2<(x0.size:Int))) then
      (shift .shl .i64 x1 8).bind fun s1=>
      (tG_ x0 x2).bind fun c2=>
      fc_ k x0 (wW_ .i64 s1 (IntKind.wrap .i64 (c2.toNat:Int))) (IntKind.wrap .i64 (x2+1))
    else
      some x1
def jN_ (k:Nat) (a0:ByteArray):Option (Int):=
  fc_ k a0 0 0
def bn_:Nat→ByteArray→ByteArray→Int→Int→Int→Int→Int→Int→Int→Int→Bool→ByteArray→Int→Int→Int→Int→Int→Int→Int→Bool→ByteArray→Option (ad_×Bool)
  | 0,_,_,_,_,_,_,_,_,_,_,_,_,_,_,_,_,_,_,_,_,_=>none
  | k+1,x0,x1,x2,x3,x4,x5,x6,x7,x8,x9,x10,x11,x12,x13,x14,x15,x16,x17,x18,x19,x20=>
    (a8_ k (⟨x12,x13,x14,x15,x16,x17,x18,x19,x20⟩:ad_)).bind fun r15=>
    bif (!r15) then
      some ((⟨0,0,0,0,0,0,0,false,(⟨#[]⟩:ByteArray)⟩:ad_),false)
    else
      (c2_ k (⟨x12,x13,x14,x15,x16,x17,x18,x19,x20⟩:ad_) x1 x2).bind fun r16=>
      bif (!(r16.toList==x0.toList)) then
        some ((⟨0,0,0,0,0,0,0,false,(⟨#[]⟩:ByteArray)⟩:ad_),false)
      else
        some ((⟨x12,x13,x14,x15,x16,x17,x18,x19,x20⟩:ad_),true)
def eP_ (k:Nat) (a0:ByteArray) (a1:ByteArray) (a2:Int):Option (ad_×Bool):=
  bif (decide (a2<1)) then
    some ((⟨0,0,0,0,0,0,0,false,(⟨#[]⟩:ByteArray)⟩:ad_),false)
  else
    bif (decide (a2>8)) then
      some ((⟨0,0,0,0,0,0,0,false,(⟨#[]⟩:ByteArray)⟩:ad_),false)
    else
      bif (decide ((a1.size:Int)>30)) then
        some ((⟨0,0,0,0,0,0,0,false,(⟨#[]⟩:ByteArray)⟩:ad_),false)
      else
        bif (decide ((a0.size:Int)<(IntKind.wrap .i64 (a2+11)))) then
          some ((⟨0,0,0,0,0,0,0,false,(⟨#[]⟩:ByteArray)⟩:ad_),false)
        else
          (wnd a0.size a2 (a0.size:Int)).bind fun p1=>
          (tG_ (a0.extract p1.1 p1.2) 0).bind fun c2=>
          (tG_ (a0.extract p1.1 p1.2) 1).bind fun c3=>
          (wnd (a0.extract p1.1 p1.2).size 2 4).bind fun p4=>
          (jN_ k ((a0.extract p1.1 p1.2).extract p4.1 p4.2)).bind fun r5=>
          (wnd (a0.extract p1.1 p1.2).size 4 6).bind fun p6=>
          (jN_ k ((a0.extract p1.1 p1.2).extract p6.1 p6.2)).bind fun r7=>
          bif ((IntKind.wrap .i64 (c2.toNat:Int))==1) then
            (wnd (a0.extract p1.1 p1.2).size 6 10).bind fun p8=>
            (jN_ k ((a0.extract p1.1 p1.2).extract p8.1 p8.2)).bind fun r9=>
            (tG_ (a0.extract p1.1 p1.2) 10).bind fun c10=>
            bn_ k a0 a1 a2 0 0 0 0 0 0 0 false (⟨#[]⟩:ByteArray) (IntKind.wrap .i64 (c2.toNat:Int)) (IntKind.wrap .i64 (c3.toNat:Int)) r5 r7 r9 (IntKind.wrap .i64 (c10.toNat:Int)) 0 false (⟨#[]⟩:ByteArray)
          else
            bif ((IntKind.wrap .i64 (c2.toNat:Int))==2) then
              (wnd (a0.extract p1.1 p1.2).size 6 10).bind fun p11=>
              (jN_ k ((a0.extract p1.1 p1.2).extract p11.1 p11.2)).bind fun r12=>
              (tG_ (a0.extract p1.1 p1.2) 10).bind fun c13=>
              (wnd (a0.extract p1.1 p1.2).size 11 ((a0.extract p1.1 p1.2).size:Int)).bind fun p14=>
              bn_ k a0 a1 a2 0 0 0 0 0 0 0 false (⟨#[]⟩:ByteArray) (IntKind.wrap .i64 (c2.toNat:Int)) (IntKind.wrap .i64 (c3.toNat:Int)) r5 r7 0 0 r12 ((c13.toNat:Int)==1) ((a0.extract p1.1 p1.2).extract p14.1 p14.2)
            else
              bn_ k a0 a1 a2 0 0 0 0 0 0 0 false (⟨#[]⟩:ByteArray) (IntKind.wrap .i64 (c2.toNat:Int)) (IntKind.wrap .i64 (c3.toNat:Int)) r5 r7 0 0 0 false (⟨#[]⟩:ByteArray)
mutual
def cO_:Nat→Int→Int→Int→Int→Int→List ag_→List ag_→Option (al_)
  | 0,_,_,_,_,_,_,_=>none
  | k+1,x0,x1,x2,x3,x4,x5,x6=>
    bif (decide (x2<(x6.length:Int))) then
      (idx x6 x2).bind fun _=>
      (x6[(Int.toNat x2)]?).bind fun y3=>
      bif (decide (y3.Since≥0)) then
        cO_ k x0 x1 (IntKind.wrap .i64 (x2+1)) x3 x4 x5 x6
      else
        bif (decide (x0<x4)) then
          some (⟨x4,x6⟩:al_)
        else
          bif (decide (x0>(IntKind.wrap .i64 (x4+x2)))) then
            some (⟨x4,x6⟩:al_)
          else
            (aX_ k x1 0 255).bind fun r4=>
            bif (!r4) then
              some (⟨x4,x6⟩:al_)
            else
              (wnd x6.length (IntKind.wrap .i64 (x0-x4)) (x6.length:Int)).bind fun p5=>
              (app 40 ([]:List ag_) (dO_ x6 p5.1 p5.2)).bind fun l6=>
              bt_ k x1 0 x3 x0 x5 l6
    else
      bif (decide (x0<x4)) then
        some (⟨x4,x6⟩:al_)
      else
        bif (decide (x0>(IntKind.wrap .i64 (x4+x2)))) then
          some (⟨x4,x6⟩:al_)
        else
          (aX_ k x1 0 255).bind fun r7=>
          bif (!r7) then
            some (⟨x4,x6⟩:al_)
          else
            (wnd x6.length (IntKind.wrap .i64 (x0-x4)) (x6.length:Int)).bind fun p8=>
            (app 40 ([]:List ag_) (dO_ x6 p8.1 p8.2)).bind fun l9=>
            bt_ k x1 0 x3 x0 x5 l9
def bt_:Nat→Int→Int→Int→Int→List ag_→List ag_→Option (al_)
  | 0,_,_,_,_,_,_=>none
  | k+1,x0,x1,x2,x3,x4,x5=>
    bif (decide (x1<8)) then
      bif (decide (x1<(x5.length:Int))) then
        (shift .shr .i64 x0 x1).bind fun s10=>
        bif ((Ao_ .i64 s10 1)==1) then
          (idx x5 x1).bind fun _=>
          (x5[(Int.toNat x1)]?).bind fun y11=>
          bif (decide (y11.Since≥0)) then
            (idx x5 x1).bind fun _=>
            (x5[(Int.toNat x1)]?).bind fun y12=>
            cx_ k x0 x1 x2 x3 x4 (x5.set (Int.toNat x1) (⟨y12.Part,true,y12.Since⟩:ag_))
          else
            cx_ k x0 x1 x2 x3 x4 x5
        else
          cx_ k x0 x1 x2 x3 x4 x5
      else
        some (⟨x3,x5⟩:al_)
    else
      some (⟨x3,x5⟩:al_)
def cx_:Nat→Int→Int→Int→Int→List ag_→List ag_→Option (al_)
  | 0,_,_,_,_,_,_=>none
  | k+1,x0,x1,x2,x3,x4,x5=>
    bt_ k x0 (IntKind.wrap .i64 (x1+1)) x2 x3 x4 x5
end
def gh_ (k:Nat) (a0:al_) (a1:Int) (a2:Int):Option (al_):=
  (bf_ k a0).bind fun r1=>
  bif (!r1) then
    some (⟨0,([]:List ag_)⟩:al_)
  else
    (d1_ k a0).bind fun r2=>
    cO_ k a1 a2 0 0 r2.Base ([]:List ag_) r2.Items
def eE_:Nat→Int→ByteArray→Int→ByteArray→List ai_→List ByteArray→List ai_→List ByteArray→Option (ak_)
  | 0,_,_,_,_,_,_,_,_=>none
  | k+1,x0,x1,x2,x3,x4,x5,x6,x7=>
    bif (decide ((x4.length:Int)>0)) then
      (idx x4 0).bind fun _=>
      (x4[(Int.toNat 0)]?).bind fun y1=>
      bif (y1.Seq==x0) then
        (idx x4 0).bind fun _=>
        (x4[(Int.toNat 0)]?).bind fun y2=>
        (gk_ k (⟨x0,x4,x1,x5⟩:ak_) y2.Part).bind fun r3=>
        bif r3 then
          (idx x4 0).bind fun _=>
          (x4[(Int.toNat 0)]?).bind fun y4=>
          (wnd x4.length 1 (x4.length:Int)).bind fun p5=>
          (app 32 ([]:List ai_) (dO_ x4 p5.1 p5.2)).bind fun l6=>
          (jI_ x1 y4.Part.Text).bind fun t7=>
          bif y4.Part.Last then
            (app 16 x5 ([t7]:List ByteArray)).bind fun l8=>
            eE_ k (IntKind.wrap .i64 (x0+1)) (⟨#[]⟩:ByteArray) x2 x3 l6 l8 x6 x7
          else
            eE_ k (IntKind.wrap .i64 (x0+1)) t7 x2 x3 l6 x5 x6 x7
        else
          some (⟨x0,x4,x1,x5⟩:ak_)
      else
        some (⟨x0,x4,x1,x5⟩:ak_)
    else
      some (⟨x0,x4,x1,x5⟩:ak_)
def eS_ (k:Nat) (a0:ak_):Option (ak_):=
  eE_ k a0.Next a0.Open 0 (⟨#[]⟩:ByteArray) a0.Held a0.Ready ([]:List ai_) ([]:List ByteArray)
def cQ_:Nat→Int→Int→ByteArray→Bool→Int→ByteArray→Int→ByteArray→List ai_→List ByteArray→List ai_→List ByteArray→Option (ak_)
  | 0,_,_,_,_,_,_,_,_,_,_,_,_=>none
  | k+1,x0,x1,x2,x3,x4,x5,x6,x7,x8,x9,x10,x11=>
    bif (decide (x1<(x10.length:Int))) then
      (idx x10 x1).bind fun _=>
      (x10[(Int.toNat x1)]?).bind fun y4=>
      bif (decide (y4.Seq<x0)) then
        cQ_ k x0 (IntKind.wrap .i64 (x1+1)) x2 x3 x4 x5 x6 x7 x8 x9 x10 x11
      else
        bif (decide (x1<(x10.length:Int))) then
          (idx x10 x1).bind fun _=>
          (x10[(Int.toNat x1)]?).bind fun y5=>
          bif (y5.Seq==x0) then
            some (⟨x6,x10,x7,x11⟩:ak_)
          else
            (app 32 x10 ([(⟨0,(⟨(⟨#[]⟩:ByteArray),false⟩:aE_)⟩:ai_)]:List ai_)).bind fun l6=>
            (wnd l6.length (IntKind.wrap .i64 (x1+1)) (l6.length:Int)).bind fun p7=>
            (wnd l6.length x1 (l6.length:Int)).bind fun p8=>
            (idx (cpy l6 p7.1 p7.2 (dO_ l6 p8.1 p8.2)) x1).bind fun _=>
            ((cpy l6 p7.1 p7.2 (dO_ l6 p8.1 p8.2))[(Int.toNat x1)]?).bind fun y9=>
            (eS_ k (⟨x6,((cpy l6 p7.1 p7.2 (dO_ l6 p8.1 p8.2)).set (Int.toNat x1) (⟨x0,(⟨x2,x3⟩:aE_)⟩:ai_)),x7,x11⟩:ak_)).bind fun r10=>
            some r10
        else
          (app 32 x10 ([(⟨0,(⟨(⟨#[]⟩:ByteArray),false⟩:aE_)⟩:ai_)]:List ai_)).bind fun l11=>
          (wnd l11.length (IntKind.wrap .i64 (x1+1)) (l11.length:Int)).bind fun p12=>
          (wnd l11.length x1 (l11.length:Int)).bind fun p13=>
          (idx (cpy l11 p12.1 p12.2 (dO_ l11 p13.1 p13.2)) x1).bind fun _=>
          ((cpy l11 p12.1 p12.2 (dO_ l11 p13.1 p13.2))[(Int.toNat x1)]?).bind fun y14=>
          (eS_ k (⟨x6,((cpy l11 p12.1 p12.2 (dO_ l11 p13.1 p13.2)).set (Int.toNat x1) (⟨x0,(⟨x2,x3⟩:aE_)⟩:ai_)),x7,x11⟩:ak_)).bind fun r15=>
          some r15
    else
      bif (decide (x1<(x10.length:Int))) then
        (idx x10 x1).bind fun _=>
        (x10[(Int.toNat x1)]?).bind fun y16=>
        bif (y16.Seq==x0) then
          some (⟨x6,x10,x7,x11⟩:ak_)
        else
          (app 32 x10 ([(⟨0,(⟨(⟨#[]⟩:ByteArray),false⟩:aE_)⟩:ai_)]:List ai_)).bind fun l17=>
          (wnd l17.length (IntKind.wrap .i64 (x1+1)) (l17.length:Int)).bind fun p18=>
          (wnd l17.length x1 (l17.length:Int)).bind fun p19=>
          (idx (cpy l17 p18.1 p18.2 (dO_ l17 p19.1 p19.2)) x1).bind fun _=>
          ((cpy l17 p18.1 p18.2 (dO_ l17 p19.1 p19.2))[(Int.toNat x1)]?).bind fun y20=>
          (eS_ k (⟨x6,((cpy l17 p18.1 p18.2 (dO_ l17 p19.1 p19.2)).set (Int.toNat x1) (⟨x0,(⟨x2,x3⟩:aE_)⟩:ai_)),x7,x11⟩:ak_)).bind fun r21=>
          some r21
      else
        (app 32 x10 ([(⟨0,(⟨(⟨#[]⟩:ByteArray),false⟩:aE_)⟩:ai_)]:List ai_)).bind fun l22=>
        (wnd l22.length (IntKind.wrap .i64 (x1+1)) (l22.length:Int)).bind fun p23=>
        (wnd l22.length x1 (l22.length:Int)).bind fun p24=>
        (idx (cpy l22 p23.1 p23.2 (dO_ l22 p24.1 p24.2)) x1).bind fun _=>
        ((cpy l22 p23.1 p23.2 (dO_ l22 p24.1 p24.2))[(Int.toNat x1)]?).bind fun y25=>
        (eS_ k (⟨x6,((cpy l22 p23.1 p23.2 (dO_ l22 p24.1 p24.2)).set (Int.toNat x1) (⟨x0,(⟨x2,x3⟩:aE_)⟩:ai_)),x7,x11⟩:ak_)).bind fun r26=>
        some r26
def gi_ (k:Nat) (a0:ak_) (a1:Int) (a2:aE_):Option (ak_):=
  (bU_ k a0).bind fun r1=>
  bif (!r1) then
    some (⟨0,([]:List ai_),(⟨#[]⟩:ByteArray),([]:List ByteArray)⟩:ak_)
  else
    (eQ_ k a0).bind fun r2=>
    (aX_ k a1 a0.Next (IntKind.wrap .i64 ((IntKind.wrap .i64 (a0.Next+8))-1))).bind fun r3=>
    bif (!r3) then
      some r2
    else
      bif (decide (a1>999999)) then
        some r2
      else
        bif (decide ((a2.Text.size:Int)>20)) then
          some r2
        else
          cQ_ k a1 0 a2.Text a2.Last 0 (⟨#[]⟩:ByteArray) r2.Next r2.Open ([]:List ai_) ([]:List ByteArray) r2.Held r2.Ready
def gl_:Nat→ByteArray→List aE_→Option (List aE_)
  | 0,_,_=>none
  | k+1,x0,x1=>
    bif (decide ((x0.size:Int)>20)) then
      (wnd x0.size 0 20).bind fun p1=>
      (app 24 x1 ([(⟨(x0.extract p1.1 p1.2),false⟩:aE_)]:List aE_)).bind fun l2=>
      (wnd x0.size 20 (x0.size:Int)).bind fun p3=>
      gl_ k (x0.extract p3.1 p3.2) l2
    else
      (app 24 x1 ([(⟨x0,true⟩:aE_)]:List aE_)).bind fun l4=>
      some l4
def mi_ (k:Nat) (a0:ByteArray):Option (List aE_):=
  bif (decide ((a0.size:Int)>200)) then
    some ([]:List aE_)
  else
    gl_ k a0 ([]:List aE_)
def cP_:Nat→Int→Int→Int→Int→List aE_→List ag_→List ag_→Option (al_×Int)
  | 0,_,_,_,_,_,_,_=>none
  | k+1,x0,x1,x2,x3,x4,x5,x6=>
    bif (decide (x1<x0)) then
      (idx x4 x1).bind fun _=>
      (x4[(Int.toNat x1)]?).bind fun y4=>
      (app 40 x6 ([(⟨y4,false,(-1)⟩:ag_)]:List ag_)).bind fun l5=>
      cP_ k x0 (IntKind.wrap .i64 (x1+1)) x2 x3 x4 x5 l5
    else
      some ((⟨x3,x6⟩:al_),0)
def ga_ (k:Nat) (a0:al_) (a1:ByteArray):Option (al_×Int):=
  (bf_ k a0).bind fun r1=>
  bif (!r1) then
    some ((⟨0,([]:List ag_)⟩:al_),1)
  else
    bif (decide ((a1.size:Int)>200)) then
      some ((⟨0,([]:List ag_)⟩:al_),1)
    else
      (mi_ k a1).bind fun r2=>
      bif (decide ((IntKind.wrap .i64 ((a0.Items.length:Int)+(r2.length:Int)))>60)) then
        some ((⟨0,([]:List ag_)⟩:al_),3)
      else
        bif (decide ((IntKind.wrap .i64 (a0.Base+(IntKind.wrap .i64 ((a0.Items.length:Int)+(r2.length:Int)))))>1000000)) then
          some ((⟨0,([]:List ag_)⟩:al_),3)
        else
          (d1_ k a0).bind fun r3=>
          cP_ k (r2.length:Int) 0 0 r3.Base r2 ([]:List ag_) r3.Items
def f9_ (k:Nat) (a0:ak_):Option (ak_×ByteArray×Bool):=
  (bU_ k a0).bind fun r1=>
  bif (!r1) then
    some ((⟨0,([]:List ai_),(⟨#[]⟩:ByteArray),([]:List ByteArray)⟩:ak_),(⟨#[]⟩:ByteArray),false)
  else
    (eQ_ k a0).bind fun r2=>
    bif ((r2.Ready.length:Int)==0) then
      some (r2,(⟨#[]⟩:ByteArray),false)
    else
      (idx r2.Ready 0).bind fun _=>
      (r2.Ready[(Int.toNat 0)]?).bind fun y3=>
      (wnd r2.Ready.length 1 (r2.Ready.length:Int)).bind fun p4=>
      (app 16 ([]:List ByteArray) (dO_ r2.Ready p4.1 p4.2)).bind fun l5=>
      (eS_ k (⟨r2.Next,r2.Held,r2.Open,l5⟩:ak_)).bind fun r6=>
      some (r6,y3,true)
def aS_:Nat→Int→Int→List ag_→Option (Bool)
  | 0,_,_,_=>none
  | k+1,x0,x1,x2=>
    bif (decide (x0<(x2.length:Int))) then
      (idx x2 x0).bind fun y2=>
      bif (decide ((y2.Part.Text.size:Int)>20)) then
        some false
      else
        (aF_ k y2.Since (-1) 3).bind fun r3=>
        bif (!r3) then
          some false
        else
          bif (decide (x0≥8)) then
            bif (y2.Since !=(-1)) then
              some false
            else
              bif y2.Has then
                bif (decide (y2.Since<0)) then
                  some false
                else
                  aS_ k (IntKind.wrap .i64 (x0+1)) x1 x2
              else
                aS_ k (IntKind.wrap .i64 (x0+1)) x1 x2
          else
            bif y2.Has then
              bif (decide (y2.Since<0)) then
                some false
              else
                aS_ k (IntKind.wrap .i64 (x0+1)) x1 x2
            else
              aS_ k (IntKind.wrap .i64 (x0+1)) x1 x2
    else
      some true
def bx_ (k:Nat) (a0:al_):Option (Bool):=
  bif (decide ((a0.Items.length:Int)>60)) then
    some false
  else
    (aF_ k a0.Base 0 1000000).bind fun r1=>
    bif (!r1) then
      some false
    else
      bif (decide ((IntKind.wrap .i64 (a0.Base+(a0.Items.length:Int)))>1000000)) then
        some false
      else
        aS_ k 0 a0.Base a0.Items
def gp_ (k:Nat) (a0:ak_) (a1:Int):Option (Bool):=
  (aF_ k a1 a0.Next (IntKind.wrap .i64 ((IntKind.wrap .i64 (a0.Next+8))-1))).bind fun r1=>
  bif r1 then
    some (decide (a1≤999999))
  else
    some false
def eG_ (k:Nat) (a0:ak_) (a1:aE_):Option (Bool):=
  bif (decide ((IntKind.wrap .i64 ((a0.Open.size:Int)+(a1.Text.size:Int)))≤200)) then
    bif (!a1.Last) then
      some true
    else
      some (decide ((a0.Ready.length:Int)<4))
  else
    some false
mutual
def cv_:Nat→Int→Int→List ai_→ByteArray→List ByteArray→Option (Bool)
  | 0,_,_,_,_,_=>none
  | k+1,x0,x1,x2,x3,x4=>
    bif (decide (x0<(x4.length:Int))) then
      (idx x4 x0).bind fun y2=>
      bif (decide ((y2.size:Int)>200)) then
        some false
      else
        cv_ k (IntKind.wrap .i64 (x0+1)) x1 x2 x3 x4
    else
      aR_ k 0 x1 x2 x3 x4
def aR_:Nat→Int→Int→List ai_→ByteArray→List ByteArray→Option (Bool)
  | 0,_,_,_,_,_=>none
  | k+1,x0,x1,x2,x3,x4=>
    bif (decide (x0<(x2.length:Int))) then
      (idx x2 x0).bind fun y3=>
      (gp_ k (⟨x1,x2,x3,x4⟩:ak_) y3.Seq).bind fun r4=>
      bif (!r4) then
        some false
      else
        bif (decide ((y3.Part.Text.size:Int)>20)) then
          some false
        else
          bif (decide (x0>0)) then
            (idx x2 (IntKind.wrap .i64 (x0-1))).bind fun y5=>
            bif (decide (y5.Seq≥y3.Seq)) then
              some false
            else
              bif (y3.Seq==x1) then
                (eG_ k (⟨x1,x2,x3,x4⟩:ak_) y3.Part).bind fun r6=>
                bif r6 then
                  some false
                else
                  aR_ k (IntKind.wrap .i64 (x0+1)) x1 x2 x3 x4
              else
                aR_ k (IntKind.wrap .i64 (x0+1)) x1 x2 x3 x4
          else
            bif (y3.Seq==x1) then
              (eG_ k (⟨x1,x2,x3,x4⟩:ak_) y3.Part).bind fun r7=>
              bif r7 then
                some false
              else
                aR_ k (IntKind.wrap .i64 (x0+1)) x1 x2 x3 x4
            else
              aR_ k (IntKind.wrap .i64 (x0+1)) x1 x2 x3 x4
    else
      some true
end
def cW_ (k:Nat) (a0:ak_):Option (Bool):=
  (aF_ k a0.Next 0 1000000).bind fun r1=>
  bif (!r1) then
    some false
  else
    bif (decide ((a0.Held.length:Int)>8)) then
      some false
    else
      bif (decide ((a0.Open.size:Int)>200)) then
        some false
      else
        bif (decide ((a0.Ready.length:Int)>4)) then
          some false
        else
          cv_ k 0 a0.Next a0.Held a0.Open a0.Ready
def eC_ (k:Nat) (a0:al_):Option (al_):=
  (app 40 ([]:List ag_) a0.Items).bind fun l1=>
  some (⟨a0.Base,l1⟩:al_)
def fa_ (k:Nat) (a0:ak_):Option (ak_):=
  (app 32 ([]:List ai_) a0.Held).bind fun l1=>
  (app 16 ([]:List ByteArray) a0.Ready).bind fun l2=>
  some (⟨a0.Next,l1,a0.Open,l2⟩:ak_)
mutual
def cH_:Nat→Int→Int→List ag_→Int→List Int→Int→List ag_→List ag_→Option (al_×List Int)
  | 0,_,_,_,_,_,_,_,_=>none
  | k+1,x0,x1,x2,x3,x4,x5,x6,x7=>
    bif (decide (x0<(x7.length:Int))) then
      bif (decide (x0<8)) then
        (idx x7 x0).bind fun _=>
        (x7[(Int.toNat x0)]?).bind fun y3=>
        bif y3.Has then
          cf_ k x0 x1 x2 x3 x4 x5 x6 x7
        else
          bif (y3.Since==(-1)) then
            (app 8 x4 ([(IntKind.wrap .i64 (x1+x0))]:List Int)).bind fun l4=>
            (idx x7 x0).bind fun _=>
            (x7[(Int.toNat x0)]?).bind fun y5=>
            cf_ k x0 x1 x2 x3 l4 x5 x6 (x7.set (Int.toNat x0) (⟨y5.Part,y5.Has,0⟩:ag_))
          else
            bif (y3.Since==3) then
              (app 8 x4 ([(IntKind.wrap .i64 (x1+x0))]:List Int)).bind fun l6=>
              (idx x7 x0).bind fun _=>
              (x7[(Int.toNat x0)]?).bind fun y7=>
              cf_ k x0 x1 x2 x3 l6 x5 x6 (x7.set (Int.toNat x0) (⟨y7.Part,y7.Has,0⟩:ag_))
            else
              (idx x7 x0).bind fun _=>
              (x7[(Int.toNat x0)]?).bind fun y8=>
              cf_ k x0 x1 x2 x3 x4 x5 x6 (x7.set (Int.toNat x0) (⟨y8.Part,y8.Has,(IntKind.wrap .i64 (y3.Since+1))⟩:ag_))
      else
        some ((⟨x5,x7⟩:al_),x4)
    else
      some ((⟨x5,x7⟩:al_),x4)
def cf_:Nat→Int→Int→List ag_→Int→List Int→Int→List ag_→List ag_→Option (al_×List Int)
  | 0,_,_,_,_,_,_,_,_=>none
  | k+1,x0,x1,x2,x3,x4,x5,x6,x7=>
    cH_ k (IntKind.wrap .i64 (x0+1)) x1 x2 x3 x4 x5 x6 x7
end
def f5_ (k:Nat) (a0:al_):Option (al_×List Int):=
  (bx_ k a0).bind fun r1=>
  bif (!r1) then
    some ((⟨0,([]:List ag_)⟩:al_),([]:List Int))
  else
    (eC_ k a0).bind fun r2=>
    cH_ k 0 a0.Base a0.Items 0 ([]:List Int) r2.Base ([]:List ag_) r2.Items
mutual
def ca_:Nat→Int→Int→Int→List ai_→ByteArray→List ByteArray→Option (Int×Int)
  | 0,_,_,_,_,_,_=>none
  | k+1,x0,x1,x2,x3,x4,x5=>
    bif (decide (x1<(x3.length:Int))) then
      cN_ k x0 x1 1 x2 x2 x3 x4 x5
    else
      some (x2,x0)
def cN_:Nat→Int→Int→Int→Int→Int→List ai_→ByteArray→List ByteArray→Option (Int×Int)
  | 0,_,_,_,_,_,_,_,_=>none
  | k+1,x0,x1,x2,x3,x4,x5,x6,x7=>
    (idx x5 x1).bind fun y2=>
    bif (decide (x3<y2.Seq)) then
      cN_ k x0 x1 (IntKind.wrap .i64 (x2*2)) (IntKind.wrap .i64 (x3+1)) x4 x5 x6 x7
    else
      ca_ k (IntKind.wrap .i64 (x0+x2)) (IntKind.wrap .i64 (x1+1)) x4 x5 x6 x7
end
def dX_ (k:Nat) (a0:ak_):Option (Int×Int):=
  (cW_ k a0).bind fun r1=>
  bif (!r1) then
    some (0,0)
  else
    ca_ k 0 0 a0.Next a0.Held a0.Open a0.Ready
def c5_:Nat→Int→Int→List ag_→Option (Int)
  | 0,_,_,_=>none
  | k+1,x0,x1,x2=>
    bif (decide (x0<(x2.length:Int))) then
      (idx x2 x0).bind fun y1=>
      bif (decide (y1.Since≥0)) then
        c5_ k (IntKind.wrap .i64 (x0+1)) x1 x2
      else
        some x0
    else
      some x0
def nr_ (k:Nat) (a0:al_):Option (Int):=
  c5_ k 0 a0.Base a0.Items
mutual
def bj_:Nat→Int→Int→Int→Int→List ag_→List ag_→Option (al_)
  | 0,_,_,_,_,_,_=>none
  | k+1,x0,x1,x2,x3,x4,x5=>
    bif (decide (x1<8)) then
      (qN_ x0 2).bind fun q7=>
      bif (q7==1) then
        bif (decide (x1<(x5.length:Int))) then
          (idx x5 x1).bind fun _=>
          (x5[(Int.toNat x1)]?).bind fun y8=>
          bif (decide (y8.Since≥0)) then
            (idx x5 x1).bind fun _=>
            (x5[(Int.toNat x1)]?).bind fun y9=>
            bd_ k x0 x1 x2 x3 x4 (x5.set (Int.toNat x1) (⟨y9.Part,true,y9.Since⟩:ag_))
          else
            bd_ k x0 x1 x2 x3 x4 x5
        else
          bd_ k x0 x1 x2 x3 x4 x5
      else
        bd_ k x0 x1 x2 x3 x4 x5
    else
      some (⟨x3,x5⟩:al_)
def bd_:Nat→Int→Int→Int→Int→List ag_→List ag_→Option (al_)
  | 0,_,_,_,_,_,_=>none
  | k+1,x0,x1,x2,x3,x4,x5=>
    (Ad_ x0 2).bind fun q10=>
    bj_ k (IntKind.wrap .i64 (q10)) (IntKind.wrap .i64 (x1+1)) x2 x3 x4 x5
end
def fX_ (k:Nat) (a0:al_) (a1:Int) (a2:Int):Option (al_):=
  (bx_ k a0).bind fun r1=>
  bif (!r1) then
    some (⟨0,([]:List ag_)⟩:al_)
  else
    (eC_ k a0).bind fun r2=>
    bif (decide (a1<a0.Base)) then
      some r2
    else
      (nr_ k a0).bind fun r3=>
      bif (decide (a1>(IntKind.wrap .i64 (a0.Base+r3)))) then
        some r2
      else
        (aF_ k a2 0 255).bind fun r4=>
        bif (!r4) then
          some r2
        else
          (wnd r2.Items.length (IntKind.wrap .i64 (a1-a0.Base)) (r2.Items.length:Int)).bind fun p5=>
          (app 40 ([]:List ag_) (dO_ r2.Items p5.1 p5.2)).bind fun l6=>
          bj_ k a2 0 0 a1 ([]:List ag_) l6
def cU_:Nat→Int→ByteArray→Int→ByteArray→List ai_→List ByteArray→List ai_→List ByteArray→Option (ak_)
  | 0,_,_,_,_,_,_,_,_=>none
  | k+1,x0,x1,x2,x3,x4,x5,x6,x7=>
    bif (decide ((x4.length:Int)>0)) then
      (idx x4 0).bind fun _=>
      (x4[(Int.toNat 0)]?).bind fun y1=>
      bif (y1.Seq==x0) then
        (idx x4 0).bind fun _=>
        (x4[(Int.toNat 0)]?).bind fun y2=>
        (eG_ k (⟨x0,x4,x1,x5⟩:ak_) y2.Part).bind fun r3=>
        bif r3 then
          (idx x4 0).bind fun _=>
          (x4[(Int.toNat 0)]?).bind fun y4=>
          (wnd x4.length 1 (x4.length:Int)).bind fun p5=>
          (app 32 ([]:List ai_) (dO_ x4 p5.1 p5.2)).bind fun l6=>
          (jI_ x1 y4.Part.Text).bind fun t7=>
          bif y4.Part.Last then
            (app 16 x5 ([t7]:List ByteArray)).bind fun l8=>
            cU_ k (IntKind.wrap .i64 (x0+1)) (⟨#[]⟩:ByteArray) x2 x3 l6 l8 x6 x7
          else
            cU_ k (IntKind.wrap .i64 (x0+1)) t7 x2 x3 l6 x5 x6 x7
        else
          some (⟨x0,x4,x1,x5⟩:ak_)
      else
        some (⟨x0,x4,x1,x5⟩:ak_)
    else
      some (⟨x0,x4,x1,x5⟩:ak_)
def jB_ (k:Nat) (a0:ak_):Option (ak_):=
  cU_ k a0.Next a0.Open 0 (⟨#[]⟩:ByteArray) a0.Held a0.Ready ([]:List ai_) ([]:List ByteArray)
mutual
def bi_:Nat→Int→Bool→Int→Int→List ai_→ByteArray→List ByteArray→ByteArray→Bool→Int→ByteArray→Int→ByteArray→List ai_→List ai_→List ByteArray→List ai_→List ByteArray→Option (ak_)
  | 0,_,_,_,_,_,_,_,_,_,_,_,_,_,_,_,_,_,_=>none
  | k+1,x0,x1,x2,x3,x4,x5,x6,x7,x8,x9,x10,x11,x12,x13,x14,x15,x16,x17=>
    bif (decide (x2<(x4.length:Int))) then
      (idx x4 x2).bind fun y4=>
      bif (y4.Seq==x0) then
        some (⟨x11,x16,x12,x17⟩:ak_)
      else
        bif (!x1) then
          (idx x4 x2).bind fun y5=>
          bif (decide (y5.Seq>x0)) then
            (app 32 x13 ([(⟨x0,(⟨x7,x8⟩:aE_)⟩:ai_)]:List ai_)).bind fun l6=>
            bJ_ k x0 true x2 x3 x4 x5 x6 x7 x8 x9 x10 x11 x12 l6 x14 x15 x16 x17
          else
            bJ_ k x0 x1 x2 x3 x4 x5 x6 x7 x8 x9 x10 x11 x12 x13 x14 x15 x16 x17
        else
          bJ_ k x0 x1 x2 x3 x4 x5 x6 x7 x8 x9 x10 x11 x12 x13 x14 x15 x16 x17
    else
      bif (!x1) then
        (app 32 x13 ([(⟨x0,(⟨x7,x8⟩:aE_)⟩:ai_)]:List ai_)).bind fun l7=>
        dc_ k x9 x10 x11 x12 l7 x14 x15 x16 x17
      else
        dc_ k x9 x10 x11 x12 x13 x14 x15 x16 x17
def bJ_:Nat→Int→Bool→Int→Int→List ai_→ByteArray→List ByteArray→ByteArray→Bool→Int→ByteArray→Int→ByteArray→List ai_→List ai_→List ByteArray→List ai_→List ByteArray→Option (ak_)
  | 0,_,_,_,_,_,_,_,_,_,_,_,_,_,_,_,_,_,_=>none
  | k+1,x0,x1,x2,x3,x4,x5,x6,x7,x8,x9,x10,x11,x12,x13,x14,x15,x16,x17=>
    (idx x4 x2).bind fun y8=>
    (app 32 x13 ([y8]:List ai_)).bind fun l9=>
    bi_ k x0 x1 (IntKind.wrap .i64 (x2+1)) x3 x4 x5 x6 x7 x8 x9 x10 x11 x12 l9 x14 x15 x16 x17
def dc_:Nat→Int→ByteArray→Int→ByteArray→List ai_→List ai_→List ByteArray→List ai_→List ByteArray→Option (ak_)
  | 0,_,_,_,_,_,_,_,_,_=>none
  | k+1,x0,x1,x2,x3,x4,x5,x6,x7,x8=>
    (jB_ k (⟨x2,x4,x3,x8⟩:ak_)).bind fun r10=>
    some r10
end
def fZ_ (k:Nat) (a0:ak_) (a1:Int) (a2:aE_):Option (ak_):=
  (cW_ k a0).bind fun r1=>
  bif (!r1) then
    some (⟨0,([]:List ai_),(⟨#[]⟩:ByteArray),([]:List ByteArray)⟩:ak_)
  else
    (fa_ k a0).bind fun r2=>
    (gp_ k a0 a1).bind fun r3=>
    bif (!r3) then
      some r2
    else
      bif (decide ((a2.Text.size:Int)>20)) then
        some r2
      else
        bi_ k a1 false 0 a0.Next a0.Held a0.Open a0.Ready a2.Text a2.Last 0 (⟨#[]⟩:ByteArray) r2.Next r2.Open ([]:List ai_) ([]:List ai_) ([]:List ByteArray) r2.Held r2.Ready
def eD_:Nat→ByteArray→List aE_→Option (List aE_)
  | 0,_,_=>none
  | k+1,x0,x1=>
    bif (decide ((x0.size:Int)>20)) then
      (wnd x0.size 0 20).bind fun p1=>
      (app 24 x1 ([(⟨(x0.extract p1.1 p1.2),false⟩:aE_)]:List aE_)).bind fun l2=>
      (wnd x0.size 20 (x0.size:Int)).bind fun p3=>
      eD_ k (x0.extract p3.1 p3.2) l2
    else
      (app 24 x1 ([(⟨x0,true⟩:aE_)]:List aE_)).bind fun l4=>
      some l4
def jH_ (k:Nat) (a0:ByteArray):Option (List aE_):=
  bif (decide ((a0.size:Int)>200)) then
    some ([]:List aE_)
  else
    eD_ k a0 ([]:List aE_)
def cS_:Nat→Int→Int→List aE_→Int→List ag_→List ag_→Option (al_×Int)
  | 0,_,_,_,_,_,_=>none
  | k+1,x0,x1,x2,x3,x4,x5=>
    bif (decide (x0<(x2.length:Int))) then
      (idx x2 x0).bind fun _=>
      (x2[(Int.toNat x0)]?).bind fun y4=>
      (app 40 x5 ([(⟨y4,false,(-1)⟩:ag_)]:List ag_)).bind fun l5=>
      cS_ k (IntKind.wrap .i64 (x0+1)) x1 x2 x3 x4 l5
    else
      some ((⟨x3,x5⟩:al_),0)
def f4_ (k:Nat) (a0:al_) (a1:ByteArray):Option (al_×Int):=
  (bx_ k a0).bind fun r1=>
  bif (!r1) then
    some ((⟨0,([]:List ag_)⟩:al_),1)
  else
    bif (decide ((a1.size:Int)>200)) then
      some ((⟨0,([]:List ag_)⟩:al_),1)
    else
      (jH_ k a1).bind fun r2=>
      bif (decide ((IntKind.wrap .i64 ((a0.Items.length:Int)+(r2.length:Int)))>60)) then
        some ((⟨0,([]:List ag_)⟩:al_),3)
      else
        bif (decide ((IntKind.wrap .i64 (a0.Base+(IntKind.wrap .i64 ((a0.Items.length:Int)+(r2.length:Int)))))>1000000)) then
          some ((⟨0,([]:List ag_)⟩:al_),3)
        else
          (eC_ k a0).bind fun r3=>
          cS_ k 0 0 r2 r3.Base ([]:List ag_) r3.Items
def fY_ (k:Nat) (a0:ak_):Option (ak_×ByteArray×Bool):=
  (cW_ k a0).bind fun r1=>
  bif (!r1) then
    some ((⟨0,([]:List ai_),(⟨#[]⟩:ByteArray),([]:List ByteArray)⟩:ak_),(⟨#[]⟩:ByteArray),false)
  else
    (fa_ k a0).bind fun r2=>
    bif ((r2.Ready.length:Int)==0) then
      some (r2,(⟨#[]⟩:ByteArray),false)
    else
      (idx r2.Ready 0).bind fun _=>
      (r2.Ready[(Int.toNat 0)]?).bind fun y3=>
      (wnd r2.Ready.length 1 (r2.Ready.length:Int)).bind fun p4=>
      (app 16 ([]:List ByteArray) (dO_ r2.Ready p4.1 p4.2)).bind fun l5=>
      (jB_ k (⟨r2.Next,r2.Held,r2.Open,l5⟩:ak_)).bind fun r6=>
      some (r6,y3,true)
def gy_ (k:Nat) (a0:aE_) (a1:Int):Option (Int):=
  bif (decide ((IntKind.wrap .i64 (a1-(a0.Text.size:Int)))<0)) then
    some (-1)
  else
    some (IntKind.wrap .i64 (a1-(a0.Text.size:Int)))
def ii_ (k:Nat) (a0:ag_) (a1:Int):Option (Int):=
  (gy_ k a0.Part a1).bind fun r1=>
  bif (decide (r1<0)) then
    some (-1)
  else
    some r1
def dd_:Nat→List ag_→Int→Int→Option (Int)
  | 0,_,_,_=>none
  | k+1,x0,x1,x2=>
    bif (decide (x2<(x0.length:Int))) then
      (idx x0 x2).bind fun y1=>
      (ii_ k y1 x1).bind fun r2=>
      bif (decide (r2<0)) then
        some (-1)
      else
        dd_ k x0 r2 (IntKind.wrap .i64 (x2+1))
    else
      some x1
def gE_ (k:Nat) (a0:List ag_) (a1:Int):Option (Int):=
  bif (decide ((IntKind.wrap .i64 (a1-(a0.length:Int)))<0)) then
    some (-1)
  else
    dd_ k a0 (IntKind.wrap .i64 (a1-(a0.length:Int))) 0
def h4_ (k:Nat) (a0:al_) (a1:Int):Option (Int):=
  (gE_ k a0.Items a1).bind fun r1=>
  bif (decide (r1<0)) then
    some (-1)
  else
    some r1
def hT_ (k:Nat) (a0:ai_) (a1:Int):Option (Int):=
  (gy_ k a0.Part a1).bind fun r1=>
  bif (decide (r1<0)) then
    some (-1)
  else
    some r1
def db_:Nat→List ai_→Int→Int→Option (Int)
  | 0,_,_,_=>none
  | k+1,x0,x1,x2=>
    bif (decide (x2<(x0.length:Int))) then
      (idx x0 x2).bind fun y1=>
      (hT_ k y1 x1).bind fun r2=>
      bif (decide (r2<0)) then
        some (-1)
      else
        db_ k x0 r2 (IntKind.wrap .i64 (x2+1))
    else
      some x1
def g3_ (k:Nat) (a0:List ai_) (a1:Int):Option (Int):=
  bif (decide ((IntKind.wrap .i64 (a1-(a0.length:Int)))<0)) then
    some (-1)
  else
    db_ k a0 (IntKind.wrap .i64 (a1-(a0.length:Int))) 0
def cq_:Nat→List ByteArray→Int→Int→Option (Int)
  | 0,_,_,_=>none
  | k+1,x0,x1,x2=>
    bif (decide (x2<(x0.length:Int))) then
      (idx x0 x2).bind fun y1=>
      bif (decide ((IntKind.wrap .i64 (x1-(y1.size:Int)))<0)) then
        some (-1)
      else
        cq_ k x0 (IntKind.wrap .i64 (x1-(y1.size:Int))) (IntKind.wrap .i64 (x2+1))
    else
      some x1
def fu_ (k:Nat) (a0:List ByteArray) (a1:Int):Option (Int):=
  bif (decide ((IntKind.wrap .i64 (a1-(a0.length:Int)))<0)) then
    some (-1)
  else
    cq_ k a0 (IntKind.wrap .i64 (a1-(a0.length:Int))) 0
def h7_ (k:Nat) (a0:ak_) (a1:Int):Option (Int):=
  (g3_ k a0.Held a1).bind fun r1=>
  bif (decide (r1<0)) then
    some (-1)
  else
    bif (decide ((IntKind.wrap .i64 (r1-(a0.Open.size:Int)))<0)) then
      some (-1)
    else
      (fu_ k a0.Ready (IntKind.wrap .i64 (r1-(a0.Open.size:Int)))).bind fun r2=>
      bif (decide (r2<0)) then
        some (-1)
      else
        some r2
def la_ (k:Nat) (a0:aE_):Option (aE_):=
  some a0
def k4_ (k:Nat) (a0:ag_):Option (ag_):=
  (la_ k a0.Part).bind fun r1=>
  some (⟨r1,a0.Has,a0.Since⟩:ag_)
def c8_:Nat→List ag_→Int→List ag_→Option (List ag_)
  | 0,_,_,_=>none
  | k+1,x0,x1,x2=>
    bif (decide (x1<(x0.length:Int))) then
      (idx x0 x1).bind fun y2=>
      (k4_ k y2).bind fun r3=>
      (idx x2 x1).bind fun _=>
      (x2[(Int.toNat x1)]?).bind fun y4=>
      c8_ k x0 (IntKind.wrap .i64 (x1+1)) (x2.set (Int.toNat x1) r3)
    else
      some x2
def gP_ (k:Nat) (a0:List ag_):Option (List ag_):=
  (if ((a0.length:Int):Int)=(a0.length:Int) then room 40 (a0.length:Int) else none).bind fun n1=>
  c8_ k a0 0 (List.replicate n1 (⟨(⟨(⟨#[]⟩:ByteArray),false⟩:aE_),false,0⟩:ag_))
def hN_ (k:Nat) (a0:al_):Option (al_):=
  (gP_ k a0.Items).bind fun r1=>
  some (⟨a0.Base,r1⟩:al_)
def k6_ (k:Nat) (a0:ai_):Option (ai_):=
  (la_ k a0.Part).bind fun r1=>
  some (⟨a0.Seq,r1⟩:ai_)
def df_:Nat→List ai_→Int→List ai_→Option (List ai_)
  | 0,_,_,_=>none
  | k+1,x0,x1,x2=>
    bif (decide (x1<(x0.length:Int))) then
      (idx x0 x1).bind fun y2=>
      (k6_ k y2).bind fun r3=>
      (idx x2 x1).bind fun _=>
      (x2[(Int.toNat x1)]?).bind fun y4=>
      df_ k x0 (IntKind.wrap .i64 (x1+1)) (x2.set (Int.toNat x1) r3)
    else
      some x2
def hc_ (k:Nat) (a0:List ai_):Option (List ai_):=
  (if ((a0.length:Int):Int)=(a0.length:Int) then room 32 (a0.length:Int) else none).bind fun n1=>
  df_ k a0 0 (List.replicate n1 (⟨0,(⟨(⟨#[]⟩:ByteArray),false⟩:aE_)⟩:ai_))
def cp_:Nat→List ByteArray→Int→List ByteArray→Option (List ByteArray)
  | 0,_,_,_=>none
  | k+1,x0,x1,x2=>
    bif (decide (x1<(x0.length:Int))) then
      (idx x0 x1).bind fun y2=>
      (idx x2 x1).bind fun _=>
      (x2[(Int.toNat x1)]?).bind fun y3=>
      cp_ k x0 (IntKind.wrap .i64 (x1+1)) (x2.set (Int.toNat x1) y2)
    else
      some x2
def fn_ (k:Nat) (a0:List ByteArray):Option (List ByteArray):=
  (if ((a0.length:Int):Int)=(a0.length:Int) then room 16 (a0.length:Int) else none).bind fun n1=>
  cp_ k a0 0 (List.replicate n1 (⟨#[]⟩:ByteArray))
def hK_ (k:Nat) (a0:ak_):Option (ak_):=
  (hc_ k a0.Held).bind fun r1=>
  (fn_ k a0.Ready).bind fun r2=>
  some (⟨a0.Next,r1,a0.Open,r2⟩:ak_)
def gx_ (k:Nat) (a0:aE_) (a1:aE_):Option (Bool):=
  bif (!(a0.Text.toList==a1.Text.toList)) then
    some false
  else
    bif (!(a0.Last==a1.Last)) then
      some false
    else
      some true
def hJ_ (k:Nat) (a0:ag_) (a1:ag_):Option (Bool):=
  (gx_ k a0.Part a1.Part).bind fun r1=>
  bif (!r1) then
    some false
  else
    bif (!(a0.Has==a1.Has)) then
      some false
    else
      bif (a0.Since !=a1.Since) then
        some false
      else
        some true
def c9_:Nat→List ag_→List ag_→Int→Option (Bool)
  | 0,_,_,_=>none
  | k+1,x0,x1,x2=>
    bif (decide (x2<(x0.length:Int))) then
      (idx x0 x2).bind fun y1=>
      (idx x1 x2).bind fun y2=>
      (hJ_ k y1 y2).bind fun r3=>
      bif (!r3) then
        some false
      else
        c9_ k x0 x1 (IntKind.wrap .i64 (x2+1))
    else
      some true
def g1_ (k:Nat) (a0:List ag_) (a1:List ag_):Option (Bool):=
  bif ((a0.length:Int) !=(a1.length:Int)) then
    some false
  else
    c9_ k a0 a1 0
def hM_ (k:Nat) (a0:al_) (a1:al_):Option (Bool):=
  bif (a0.Base !=a1.Base) then
    some false
  else
    (g1_ k a0.Items a1.Items).bind fun r1=>
    bif (!r1) then
      some false
    else
      some true
def hW_ (k:Nat) (a0:ai_) (a1:ai_):Option (Bool):=
  bif (a0.Seq !=a1.Seq) then
    some false
  else
    (gx_ k a0.Part a1.Part).bind fun r1=>
    bif (!r1) then
      some false
    else
      some true
def c3_:Nat→List ai_→List ai_→Int→Option (Bool)
  | 0,_,_,_=>none
  | k+1,x0,x1,x2=>
    bif (decide (x2<(x0.length:Int))) then
      (idx x0 x2).bind fun y1=>
      (idx x1 x2).bind fun y2=>
      (hW_ k y1 y2).bind fun r3=>
      bif (!r3) then
        some false
      else
        c3_ k x0 x1 (IntKind.wrap .i64 (x2+1))
    else
      some true
def hb_ (k:Nat) (a0:List ai_) (a1:List ai_):Option (Bool):=
  bif ((a0.length:Int) !=(a1.length:Int)) then
    some false
  else
    c3_ k a0 a1 0
def cn_:Nat→List ByteArray→List ByteArray→Int→Option (Bool)
  | 0,_,_,_=>none
  | k+1,x0,x1,x2=>
    bif (decide (x2<(x0.length:Int))) then
      (idx x0 x2).bind fun y1=>
      (idx x1 x2).bind fun y2=>
      bif (!(y1.toList==y2.toList)) then
        some false
      else
        cn_ k x0 x1 (IntKind.wrap .i64 (x2+1))
    else
      some true
def fw_ (k:Nat) (a0:List ByteArray) (a1:List ByteArray):Option (Bool):=
  bif ((a0.length:Int) !=(a1.length:Int)) then
    some false
  else
    cn_ k a0 a1 0
def hL_ (k:Nat) (a0:ak_) (a1:ak_):Option (Bool):=
  bif (a0.Next !=a1.Next) then
    some false
  else
    (hb_ k a0.Held a1.Held).bind fun r1=>
    bif (!r1) then
      some false
    else
      bif (!(a0.Open.toList==a1.Open.toList)) then
        some false
      else
        (fw_ k a0.Ready a1.Ready).bind fun r2=>
        bif (!r2) then
          some false
        else
          some true
def cI_:Nat→Int→ByteArray→Option (ByteArray)
  | 0,_,_=>none
  | k+1,x0,x1=>
    bif (decide (x0>0)) then
      (qN_ x0 10).bind fun q1=>
      (jI_ (iJ_ ([(IntKind.wrap .u8 (IntKind.wrap .i64 (48+q1)))]:List Int)) x1).bind fun t2=>
      (Ad_ x0 10).bind fun q3=>
      cI_ k (IntKind.wrap .i64 (q3)) t2
    else
      (jI_ (⟨#[109]⟩:ByteArray) x1).bind fun t4=>
      some t4
def aJ_ (k:Nat) (a0:Int):Option (ByteArray):=
  bif (decide (a0≤0)) then
    some (⟨#[109,48]⟩:ByteArray)
  else
    cI_ k a0 (⟨#[]⟩:ByteArray)
def bN_:Nat→Int→Int→List ag_→Option (Int×List ag_)
  | 0,_,_,_=>none
  | k+1,x0,x1,x2=>
    bif (decide (x1<(x2.length:Int))) then
      (aJ_ k x0).bind fun r1=>
      (idx x2 x1).bind fun _=>
      (x2[(Int.toNat x1)]?).bind fun y2=>
      (qN_ (IntKind.wrap .i64 (x0+1)) 3).bind fun q3=>
      (idx (x2.set (Int.toNat x1) (⟨(⟨r1,y2.Part.Last⟩:aE_),y2.Has,y2.Since⟩:ag_)) x1).bind fun _=>
      ((x2.set (Int.toNat x1) (⟨(⟨r1,y2.Part.Last⟩:aE_),y2.Has,y2.Since⟩:ag_))[(Int.toNat x1)]?).bind fun y4=>
      (qN_ (IntKind.wrap .i64 ((IntKind.wrap .i64 (x0+1))+1)) 3).bind fun q5=>
      (idx ((x2.set (Int.toNat x1) (⟨(⟨r1,y2.Part.Last⟩:aE_),y2.Has,y2.Since⟩:ag_)).set (Int.toNat x1) (⟨(⟨y4.Part.Text,(q3==0)⟩:aE_),y4.Has,y4.Since⟩:ag_)) x1).bind fun _=>
      (((x2.set (Int.toNat x1) (⟨(⟨r1,y2.Part.Last⟩:aE_),y2.Has,y2.Since⟩:ag_)).set (Int.toNat x1) (⟨(⟨y4.Part.Text,(q3==0)⟩:aE_),y4.Has,y4.Since⟩:ag_))[(Int.toNat x1)]?).bind fun y6=>
      (idx (((x2.set (Int.toNat x1) (⟨(⟨r1,y2.Part.Last⟩:aE_),y2.Has,y2.Since⟩:ag_)).set (Int.toNat x1) (⟨(⟨y4.Part.Text,(q3==0)⟩:aE_),y4.Has,y4.Since⟩:ag_)).set (Int.toNat x1) (⟨y6.Part,(q5==0),y6.Since⟩:ag_)) x1).bind fun _=>
      ((((x2.set (Int.toNat x1) (⟨(⟨r1,y2.Part.Last⟩:aE_),y2.Has,y2.Since⟩:ag_)).set (Int.toNat x1) (⟨(⟨y4.Part.Text,(q3==0)⟩:aE_),y4.Has,y4.Since⟩:ag_)).set (Int.toNat x1) (⟨y6.Part,(q5==0),y6.Since⟩:ag_))[(Int.toNat x1)]?).bind fun y7=>
      bN_ k (IntKind.wrap .i64 ((IntKind.wrap .i64 ((IntKind.wrap .i64 ((IntKind.wrap .i64 (x0+1))+1))+1))+1)) (IntKind.wrap .i64 (x1+1)) ((((x2.set (Int.toNat x1) (⟨(⟨r1,y2.Part.Last⟩:aE_),y2.Has,y2.Since⟩:ag_)).set (Int.toNat x1) (⟨(⟨y4.Part.Text,(q3==0)⟩:aE_),y4.Has,y4.Since⟩:ag_)).set (Int.toNat x1) (⟨y6.Part,(q5==0),y6.Since⟩:ag_)).set (Int.toNat x1) (⟨y7.Part,y7.Has,(IntKind.wrap .i64 ((IntKind.wrap .i64 ((IntKind.wrap .i64 (x0+1))+1))+1))⟩:ag_))
    else
      some (x0,x2)
def fq_ (k:Nat) (a0:List ag_) (a1:Int):Option (Int×List ag_):=
  bN_ k a1 0 a0
def bK_:Nat→Int→Int→List ai_→Option (Int×List ai_)
  | 0,_,_,_=>none
  | k+1,x0,x1,x2=>
    bif (decide (x1<(x2.length:Int))) then
      (idx x2 x1).bind fun _=>
      (x2[(Int.toNat x1)]?).bind fun y1=>
      (aJ_ k (IntKind.wrap .i64 (x0+1))).bind fun r2=>
      (idx (x2.set (Int.toNat x1) (⟨x0,y1.Part⟩:ai_)) x1).bind fun _=>
      ((x2.set (Int.toNat x1) (⟨x0,y1.Part⟩:ai_))[(Int.toNat x1)]?).bind fun y3=>
      (qN_ (IntKind.wrap .i64 ((IntKind.wrap .i64 (x0+1))+1)) 3).bind fun q4=>
      (idx ((x2.set (Int.toNat x1) (⟨x0,y1.Part⟩:ai_)).set (Int.toNat x1) (⟨y3.Seq,(⟨r2,y3.Part.Last⟩:aE_)⟩:ai_)) x1).bind fun _=>
      (((x2.set (Int.toNat x1) (⟨x0,y1.Part⟩:ai_)).set (Int.toNat x1) (⟨y3.Seq,(⟨r2,y3.Part.Last⟩:aE_)⟩:ai_))[(Int.toNat x1)]?).bind fun y5=>
      bK_ k (IntKind.wrap .i64 ((IntKind.wrap .i64 ((IntKind.wrap .i64 (x0+1))+1))+1)) (IntKind.wrap .i64 (x1+1)) (((x2.set (Int.toNat x1) (⟨x0,y1.Part⟩:ai_)).set (Int.toNat x1) (⟨y3.Seq,(⟨r2,y3.Part.Last⟩:aE_)⟩:ai_)).set (Int.toNat x1) (⟨y5.Seq,(⟨y5.Part.Text,(q4==0)⟩:aE_)⟩:ai_))
    else
      some (x0,x2)
def fx_ (k:Nat) (a0:List ai_) (a1:Int):Option (Int×List ai_):=
  bK_ k a1 0 a0
def bl_:Nat→Int→Int→List ByteArray→Option (Int×List ByteArray)
  | 0,_,_,_=>none
  | k+1,x0,x1,x2=>
    bif (decide (x1<(x2.length:Int))) then
      (aJ_ k x0).bind fun r1=>
      (idx x2 x1).bind fun _=>
      (x2[(Int.toNat x1)]?).bind fun y2=>
      bl_ k (IntKind.wrap .i64 (x0+1)) (IntKind.wrap .i64 (x1+1)) (x2.set (Int.toNat x1) r1)
    else
      some (x0,x2)
def eq_ (k:Nat) (a0:List ByteArray) (a1:Int):Option (Int×List ByteArray):=
  bl_ k a1 0 a0
def bP_:Nat→List ag_→Int→Int→Option (Int)
  | 0,_,_,_=>none
  | k+1,x0,x1,x2=>
    bif (decide (x2<(x0.length:Int))) then
      (idx x0 x2).bind fun y1=>
      (aJ_ k x1).bind fun r2=>
      bif (!(y1.Part.Text.toList==r2.toList)) then
        some (-1)
      else
        (idx x0 x2).bind fun y3=>
        (qN_ (IntKind.wrap .i64 (x1+1)) 3).bind fun q4=>
        bif (!(y3.Part.Last==(q4==0))) then
          some (-1)
        else
          (idx x0 x2).bind fun y5=>
          (qN_ (IntKind.wrap .i64 ((IntKind.wrap .i64 (x1+1))+1)) 3).bind fun q6=>
          bif (!(y5.Has==(q6==0))) then
            some (-1)
          else
            (idx x0 x2).bind fun y7=>
            bif (y7.Since !=(IntKind.wrap .i64 ((IntKind.wrap .i64 ((IntKind.wrap .i64 (x1+1))+1))+1))) then
              some (-1)
            else
              bP_ k x0 (IntKind.wrap .i64 ((IntKind.wrap .i64 ((IntKind.wrap .i64 ((IntKind.wrap .i64 (x1+1))+1))+1))+1)) (IntKind.wrap .i64 (x2+1))
    else
      some x1
def fv_ (k:Nat) (a0:List ag_) (a1:Int):Option (Int):=
  bP_ k a0 a1 0
def bG_:Nat→List ai_→Int→Int→Option (Int)
  | 0,_,_,_=>none
  | k+1,x0,x1,x2=>
    bif (decide (x2<(x0.length:Int))) then
      (idx x0 x2).bind fun y1=>
      bif (y1.Seq !=x1) then
        some (-1)
      else
        (idx x0 x2).bind fun y2=>
        (aJ_ k (IntKind.wrap .i64 (x1+1))).bind fun r3=>
        bif (!(y2.Part.Text.toList==r3.toList)) then
          some (-1)
        else
          (idx x0 x2).bind fun y4=>
          (qN_ (IntKind.wrap .i64 ((IntKind.wrap .i64 (x1+1))+1)) 3).bind fun q5=>
          bif (!(y4.Part.Last==(q5==0))) then
            some (-1)
          else
            bG_ k x0 (IntKind.wrap .i64 ((IntKind.wrap .i64 ((IntKind.wrap .i64 (x1+1))+1))+1)) (IntKind.wrap .i64 (x2+1))
    else
      some x1
def fr_ (k:Nat) (a0:List ai_) (a1:Int):Option (Int):=
  bG_ k a0 a1 0
def bp_:Nat→List ByteArray→Int→Int→Option (Int)
  | 0,_,_,_=>none
  | k+1,x0,x1,x2=>
    bif (decide (x2<(x0.length:Int))) then
      (idx x0 x2).bind fun y1=>
      (aJ_ k x1).bind fun r2=>
      bif (!(y1.toList==r2.toList)) then
        some (-1)
      else
        bp_ k x0 (IntKind.wrap .i64 (x1+1)) (IntKind.wrap .i64 (x2+1))
    else
      some x1
def ep_ (k:Nat) (a0:List ByteArray) (a1:Int):Option (Int):=
  bp_ k a0 a1 0
end Km.X
namespace Km.X
open Go Km
set_option linter.unusedVariables false
set_option maxRecDepth 100000
def ic_ (k:Nat) (a0:al_):Option (Bool):=
  bif (a0.Base==0) then
    some ((a0.Items.length:Int)==0)
  else
    some false
def h2_ (k:Nat) (a0:ak_):Option (Bool):=
  bif (a0.Next==0) then
    bif ((a0.Held.length:Int)==0) then
      bif (a0.Open.toList==(⟨#[]⟩:ByteArray).toList) then
        some ((a0.Ready.length:Int)==0)
      else
        some false
    else
      some false
  else
    some false
def bV_ (k:Nat) (a0:an_):Option (Bool):=
  bif (a0.Number !=1) then
    bif (a0.Number !=2) then
      some false
    else
      (aX_ k a0.Life 1 1000).bind fun r1=>
      bif (!r1) then
        some false
      else
        (aX_ k a0.Peer 0 1000).bind fun r2=>
        bif (!r2) then
          some false
        else
          (aX_ k a0.Since 0 1000000).bind fun r3=>
          bif (!r3) then
            some false
          else
            (bf_ k a0.Send).bind fun r4=>
            bif (!r4) then
              some false
            else
              (bU_ k a0.Take).bind fun r5=>
              bif (!r5) then
                some false
              else
                bif (a0.Peer==0) then
                  (ic_ k a0.Send).bind fun r6=>
                  bif r6 then
                    (h2_ k a0.Take).bind fun r7=>
                    bif (!r7) then
                      some false
                    else
                      bif a0.Up then
                        some true
                      else
                        bif (a0.Peer==0) then
                          bif (a0.Since==0) then
                            some (!a0.Owes)
                          else
                            some false
                        else
                          some false
                  else
                    some false
                else
                  bif a0.Up then
                    some true
                  else
                    bif (a0.Peer==0) then
                      bif (a0.Since==0) then
                        some (!a0.Owes)
                      else
                        some false
                    else
                      some false
  else
    (aX_ k a0.Life 1 1000).bind fun r8=>
    bif (!r8) then
      some false
    else
      (aX_ k a0.Peer 0 1000).bind fun r9=>
      bif (!r9) then
        some false
      else
        (aX_ k a0.Since 0 1000000).bind fun r10=>
        bif (!r10) then
          some false
        else
          (bf_ k a0.Send).bind fun r11=>
          bif (!r11) then
            some false
          else
            (bU_ k a0.Take).bind fun r12=>
            bif (!r12) then
              some false
            else
              bif (a0.Peer==0) then
                (ic_ k a0.Send).bind fun r13=>
                bif r13 then
                  (h2_ k a0.Take).bind fun r14=>
                  bif (!r14) then
                    some false
                  else
                    bif a0.Up then
                      some true
                    else
                      bif (a0.Peer==0) then
                        bif (a0.Since==0) then
                          some (!a0.Owes)
                        else
                          some false
                      else
                        some false
                else
                  some false
              else
                bif a0.Up then
                  some true
                else
                  bif (a0.Peer==0) then
                    bif (a0.Since==0) then
                      some (!a0.Owes)
                    else
                      some false
                  else
                    some false
def cm_ (k:Nat) (a0:an_):Option (an_):=
  (d1_ k a0.Send).bind fun r1=>
  (eQ_ k a0.Take).bind fun r2=>
  some (⟨a0.Number,a0.Up,a0.Life,a0.Peer,a0.Since,a0.Owes,r1,r2⟩:an_)
mutual
def dW_:Nat→Int→Int→Bool→Int→Int→Int→Bool→Int→Int→ByteArray→ByteArray→Int→Int→Bool→Int→Int→Int→Bool→Int→Int→ByteArray→ByteArray→List ag_→List ai_→List ByteArray→List ad_→List ag_→List ai_→List ByteArray→List ad_→Option (aC_)
  | 0,_,_,_,_,_,_,_,_,_,_,_,_,_,_,_,_,_,_,_,_,_,_,_,_,_,_,_,_,_,_=>none
  | k+1,x0,x1,x2,x3,x4,x5,x6,x7,x8,x9,x10,x11,x12,x13,x14,x15,x16,x17,x18,x19,x20,x21,x22,x23,x24,x25,x26,x27,x28,x29=>
    bif (x15 !=0) then
      (f7_ k (⟨x18,x26⟩:al_)).bind fun r3=>
      cM_ k (r3.2.length:Int) 0 x0 x1 x2 x3 x4 x5 x6 x7 x8 x9 x10 x11 x12 x13 x14 x15 x16 x17 r3.1.Base x19 x20 x21 r3.2 x22 x23 x24 x25 r3.1.Items x27 x28 x29
    else
      dq_ k x0 x1 x2 x3 x4 x5 x6 x7 x8 x9 x10 x11 x12 x13 x14 x15 x16 x17 x18 x19 x20 x21 x22 x23 x24 x25 x26 x27 x28 x29
def cM_:Nat→Int→Int→Int→Int→Bool→Int→Int→Int→Bool→Int→Int→ByteArray→ByteArray→Int→Int→Bool→Int→Int→Int→Bool→Int→Int→ByteArray→ByteArray→List Int→List ag_→List ai_→List ByteArray→List ad_→List ag_→List ai_→List ByteArray→List ad_→Option (aC_)
  | 0,_,_,_,_,_,_,_,_,_,_,_,_,_,_,_,_,_,_,_,_,_,_,_,_,_,_,_,_,_,_,_,_,_=>none
  | k+1,x0,x1,x2,x3,x4,x5,x6,x7,x8,x9,x10,x11,x12,x13,x14,x15,x16,x17,x18,x19,x20,x21,x22,x23,x24,x25,x26,x27,x28,x29,x30,x31,x32=>
    bif (decide (x1<x0)) then
      (idx x24 x1).bind fun _=>
      (x24[(Int.toNat x1)]?).bind fun y4=>
      (idx x29 (IntKind.wrap .i64 (y4-x20))).bind fun _=>
      (x29[(Int.toNat (IntKind.wrap .i64 (y4-x20)))]?).bind fun y5=>
      (app 80 x32 ([(⟨2,x14,x16,x17,0,0,y4,y5.Part.Last,y5.Part.Text⟩:ad_)]:List ad_)).bind fun l6=>
      cM_ k x0 (IntKind.wrap .i64 (x1+1)) x2 x3 x4 x5 x6 x7 x8 x9 x10 x11 x12 x13 x14 x15 x16 x17 x18 x19 x20 x21 x22 x23 x24 x25 x26 x27 x28 x29 x30 x31 l6
    else
      dq_ k x2 x3 x4 x5 x6 x7 x8 x9 x10 x11 x12 x13 x14 x15 x16 x17 x18 x19 x20 x21 x22 x23 x25 x26 x27 x28 x29 x30 x31 x32
def dq_:Nat→Int→Int→Bool→Int→Int→Int→Bool→Int→Int→ByteArray→ByteArray→Int→Int→Bool→Int→Int→Int→Bool→Int→Int→ByteArray→ByteArray→List ag_→List ai_→List ByteArray→List ad_→List ag_→List ai_→List ByteArray→List ad_→Option (aC_)
  | 0,_,_,_,_,_,_,_,_,_,_,_,_,_,_,_,_,_,_,_,_,_,_,_,_,_,_,_,_,_,_=>none
  | k+1,x0,x1,x2,x3,x4,x5,x6,x7,x8,x9,x10,x11,x12,x13,x14,x15,x16,x17,x18,x19,x20,x21,x22,x23,x24,x25,x26,x27,x28,x29=>
    bif x17 then
      (dY_ k (⟨x19,x27,x20,x28⟩:ak_)).bind fun r7=>
      (app 80 x29 ([(⟨1,x12,x14,x15,r7.1,r7.2,0,false,(⟨#[]⟩:ByteArray)⟩:ad_)]:List ad_)).bind fun l8=>
      cb_ k x0 x1 x2 x3 x4 x5 x6 x7 x8 x9 x10 x11 x12 x13 x14 x15 0 false x18 x19 x20 x21 x22 x23 x24 x25 x26 x27 x28 l8
    else
      bif (decide (x16≥6)) then
        (dY_ k (⟨x19,x27,x20,x28⟩:ak_)).bind fun r9=>
        (app 80 x29 ([(⟨1,x12,x14,x15,r9.1,r9.2,0,false,(⟨#[]⟩:ByteArray)⟩:ad_)]:List ad_)).bind fun l10=>
        cb_ k x0 x1 x2 x3 x4 x5 x6 x7 x8 x9 x10 x11 x12 x13 x14 x15 0 false x18 x19 x20 x21 x22 x23 x24 x25 x26 x27 x28 l10
      else
        cb_ k x0 x1 x2 x3 x4 x5 x6 x7 x8 x9 x10 x11 x12 x13 x14 x15 x16 x17 x18 x19 x20 x21 x22 x23 x24 x25 x26 x27 x28 x29
def cb_:Nat→Int→Int→Bool→Int→Int→Int→Bool→Int→Int→ByteArray→ByteArray→Int→Int→Bool→Int→Int→Int→Bool→Int→Int→ByteArray→ByteArray→List ag_→List ai_→List ByteArray→List ad_→List ag_→List ai_→List ByteArray→List ad_→Option (aC_)
  | 0,_,_,_,_,_,_,_,_,_,_,_,_,_,_,_,_,_,_,_,_,_,_,_,_,_,_,_,_,_,_=>none
  | k+1,x0,x1,x2,x3,x4,x5,x6,x7,x8,x9,x10,x11,x12,x13,x14,x15,x16,x17,x18,x19,x20,x21,x22,x23,x24,x25,x26,x27,x28,x29=>
    some (⟨x11,(⟨x12,x13,x14,x15,x16,x17,(⟨x18,x26⟩:al_),(⟨x19,x27,x20,x28⟩:ak_)⟩:an_),x29,x21⟩:aC_)
end
def gH_ (k:Nat) (a0:an_):Option (aC_):=
  (bV_ k a0).bind fun r1=>
  bif (!r1) then
    some (⟨1,(⟨0,false,0,0,0,false,(⟨0,([]:List ag_)⟩:al_),(⟨0,([]:List ai_),(⟨#[]⟩:ByteArray),([]:List ByteArray)⟩:ak_)⟩:an_),([]:List ad_),(⟨#[]⟩:ByteArray)⟩:aC_)
  else
    (cm_ k a0).bind fun r2=>
    bif (!r2.Up) then
      some (⟨0,r2,([]:List ad_),(⟨#[]⟩:ByteArray)⟩:aC_)
    else
      bif (decide (r2.Since<1000000)) then
        dW_ k 0 0 false 0 0 0 false 0 0 (⟨#[]⟩:ByteArray) (⟨#[]⟩:ByteArray) 0 r2.Number r2.Up r2.Life r2.Peer (IntKind.wrap .i64 (r2.Since+1)) r2.Owes r2.Send.Base r2.Take.Next r2.Take.Open (⟨#[]⟩:ByteArray) ([]:List ag_) ([]:List ai_) ([]:List ByteArray) ([]:List ad_) r2.Send.Items r2.Take.Held r2.Take.Ready ([]:List ad_)
      else
        dW_ k 0 0 false 0 0 0 false 0 0 (⟨#[]⟩:ByteArray) (⟨#[]⟩:ByteArray) 0 r2.Number r2.Up r2.Life r2.Peer r2.Since r2.Owes r2.Send.Base r2.Take.Next r2.Take.Open (⟨#[]⟩:ByteArray) ([]:List ag_) ([]:List ai_) ([]:List ByteArray) ([]:List ad_) r2.Send.Items r2.Take.Held r2.Take.Ready ([]:List ad_)
mutual
def dP_:Nat→Int→Int→Int→Int→Int→Int→Int→Bool→ByteArray→Int→Int→Bool→Int→Int→Int→Bool→Int→Int→ByteArray→ByteArray→Int→Int→Bool→Int→Int→Int→Bool→Int→Int→ByteArray→ByteArray→List ag_→List ai_→List ByteArray→List ad_→List ag_→List ai_→List ByteArray→List ad_→Option (aC_)
  | 0,_,_,_,_,_,_,_,_,_,_,_,_,_,_,_,_,_,_,_,_,_,_,_,_,_,_,_,_,_,_,_,_,_,_,_,_,_,_,_=>none
  | k+1,x0,x1,x2,x3,x4,x5,x6,x7,x8,x9,x10,x11,x12,x13,x14,x15,x16,x17,x18,x19,x20,x21,x22,x23,x24,x25,x26,x27,x28,x29,x30,x31,x32,x33,x34,x35,x36,x37,x38=>
    bif (x3 !=x23) then
      some (⟨x20,(⟨x21,x22,x23,x24,x25,true,(⟨x27,x35⟩:al_),(⟨x28,x36,x29,x37⟩:ak_)⟩:an_),x38,x30⟩:aC_)
    else
      bif (x0==1) then
        (gh_ k (⟨x27,x35⟩:al_) x4 x5).bind fun r4=>
        do_ k x9 x10 x11 x12 x13 x14 x15 x16 x17 x18 x19 x20 x21 x22 x23 x24 x25 x26 r4.Base x28 x29 x30 x31 x32 x33 x34 r4.Items x36 x37 x38
      else
        (gi_ k (⟨x28,x36,x29,x37⟩:ak_) x6 (⟨x8,x7⟩:aE_)).bind fun r5=>
        do_ k x9 x10 x11 x12 x13 x14 x15 x16 x17 x18 x19 x20 x21 x22 x23 x24 x25 true x27 r5.Next r5.Open x30 x31 x32 x33 x34 x35 r5.Held r5.Ready x38
def do_:Nat→Int→Int→Bool→Int→Int→Int→Bool→Int→Int→ByteArray→ByteArray→Int→Int→Bool→Int→Int→Int→Bool→Int→Int→ByteArray→ByteArray→List ag_→List ai_→List ByteArray→List ad_→List ag_→List ai_→List ByteArray→List ad_→Option (aC_)
  | 0,_,_,_,_,_,_,_,_,_,_,_,_,_,_,_,_,_,_,_,_,_,_,_,_,_,_,_,_,_,_=>none
  | k+1,x0,x1,x2,x3,x4,x5,x6,x7,x8,x9,x10,x11,x12,x13,x14,x15,x16,x17,x18,x19,x20,x21,x22,x23,x24,x25,x26,x27,x28,x29=>
    some (⟨x11,(⟨x12,x13,x14,x15,x16,x17,(⟨x18,x26⟩:al_),(⟨x19,x27,x20,x28⟩:ak_)⟩:an_),x29,x21⟩:aC_)
end
def gN_ (k:Nat) (a0:an_) (a1:ad_):Option (aC_):=
  (bV_ k a0).bind fun r1=>
  bif (!r1) then
    some (⟨1,(⟨0,false,0,0,0,false,(⟨0,([]:List ag_)⟩:al_),(⟨0,([]:List ai_),(⟨#[]⟩:ByteArray),([]:List ByteArray)⟩:ak_)⟩:an_),([]:List ad_),(⟨#[]⟩:ByteArray)⟩:aC_)
  else
    (cm_ k a0).bind fun r2=>
    bif (!r2.Up) then
      some (⟨0,r2,([]:List ad_),(⟨#[]⟩:ByteArray)⟩:aC_)
    else
      (a8_ k a1).bind fun r3=>
      bif (!r3) then
        some (⟨0,r2,([]:List ad_),(⟨#[]⟩:ByteArray)⟩:aC_)
      else
        bif (a1.From==r2.Number) then
          some (⟨0,r2,([]:List ad_),(⟨#[]⟩:ByteArray)⟩:aC_)
        else
          bif (decide (a1.Mine<r2.Peer)) then
            some (⟨0,r2,([]:List ad_),(⟨#[]⟩:ByteArray)⟩:aC_)
          else
            bif (decide (a1.Mine>r2.Peer)) then
              dP_ k a1.Kind a1.From a1.Mine a1.Yours a1.Next a1.Mask a1.Seq a1.Last a1.Part 0 0 false 0 0 0 false 0 0 (⟨#[]⟩:ByteArray) (⟨#[]⟩:ByteArray) 0 r2.Number r2.Up r2.Life a1.Mine r2.Since true 0 0 (⟨#[]⟩:ByteArray) (⟨#[]⟩:ByteArray) ([]:List ag_) ([]:List ai_) ([]:List ByteArray) ([]:List ad_) ([]:List ag_) ([]:List ai_) ([]:List ByteArray) ([]:List ad_)
            else
              dP_ k a1.Kind a1.From a1.Mine a1.Yours a1.Next a1.Mask a1.Seq a1.Last a1.Part 0 0 false 0 0 0 false 0 0 (⟨#[]⟩:ByteArray) (⟨#[]⟩:ByteArray) 0 r2.Number r2.Up r2.Life r2.Peer r2.Since r2.Owes r2.Send.Base r2.Take.Next r2.Take.Open (⟨#[]⟩:ByteArray) ([]:List ag_) ([]:List ai_) ([]:List ByteArray) ([]:List ad_) r2.Send.Items r2.Take.Held r2.Take.Ready ([]:List ad_)
def gS_ (k:Nat) (a0:an_):Option (an_):=
  (bV_ k a0).bind fun r1=>
  bif (!r1) then
    some (⟨0,false,0,0,0,false,(⟨0,([]:List ag_)⟩:al_),(⟨0,([]:List ai_),(⟨#[]⟩:ByteArray),([]:List ByteArray)⟩:ak_)⟩:an_)
  else
    some (⟨a0.Number,false,a0.Life,0,0,false,(⟨0,([]:List ag_)⟩:al_),(⟨0,([]:List ai_),(⟨#[]⟩:ByteArray),([]:List ByteArray)⟩:ak_)⟩:an_)
def gM_ (k:Nat) (a0:an_):Option (an_):=
  (bV_ k a0).bind fun r1=>
  bif (!r1) then
    some (⟨0,false,0,0,0,false,(⟨0,([]:List ag_)⟩:al_),(⟨0,([]:List ai_),(⟨#[]⟩:ByteArray),([]:List ByteArray)⟩:ak_)⟩:an_)
  else
    bif a0.Up then
      (cm_ k a0).bind fun r2=>
      some r2
    else
      bif (a0.Life==1000) then
        (cm_ k a0).bind fun r3=>
        some r3
      else
        some (⟨a0.Number,true,(IntKind.wrap .i64 (a0.Life+1)),0,0,false,(⟨0,([]:List ag_)⟩:al_),(⟨0,([]:List ai_),(⟨#[]⟩:ByteArray),([]:List ByteArray)⟩:ak_)⟩:an_)
def fz_ (k:Nat) (a0:an_) (a1:ByteArray):Option (aC_):=
  (bV_ k a0).bind fun r1=>
  bif (!r1) then
    some (⟨1,(⟨0,false,0,0,0,false,(⟨0,([]:List ag_)⟩:al_),(⟨0,([]:List ai_),(⟨#[]⟩:ByteArray),([]:List ByteArray)⟩:ak_)⟩:an_),([]:List ad_),(⟨#[]⟩:ByteArray)⟩:aC_)
  else
    bif (!a0.Up) then
      some (⟨2,(⟨0,false,0,0,0,false,(⟨0,([]:List ag_)⟩:al_),(⟨0,([]:List ai_),(⟨#[]⟩:ByteArray),([]:List ByteArray)⟩:ak_)⟩:an_),([]:List ad_),(⟨#[]⟩:ByteArray)⟩:aC_)
    else
      bif (a0.Peer==0) then
        some (⟨2,(⟨0,false,0,0,0,false,(⟨0,([]:List ag_)⟩:al_),(⟨0,([]:List ai_),(⟨#[]⟩:ByteArray),([]:List ByteArray)⟩:ak_)⟩:an_),([]:List ad_),(⟨#[]⟩:ByteArray)⟩:aC_)
      else
        (ga_ k a0.Send a1).bind fun r2=>
        bif (r2.2 !=0) then
          some (⟨r2.2,(⟨0,false,0,0,0,false,(⟨0,([]:List ag_)⟩:al_),(⟨0,([]:List ai_),(⟨#[]⟩:ByteArray),([]:List ByteArray)⟩:ak_)⟩:an_),([]:List ad_),(⟨#[]⟩:ByteArray)⟩:aC_)
        else
          (cm_ k a0).bind fun r3=>
          some (⟨0,(⟨r3.Number,r3.Up,r3.Life,r3.Peer,r3.Since,r3.Owes,r2.1,r3.Take⟩:an_),([]:List ad_),(⟨#[]⟩:ByteArray)⟩:aC_)
def hf_ (k:Nat) (a0:an_):Option (aC_):=
  (bV_ k a0).bind fun r1=>
  bif (!r1) then
    some (⟨1,(⟨0,false,0,0,0,false,(⟨0,([]:List ag_)⟩:al_),(⟨0,([]:List ai_),(⟨#[]⟩:ByteArray),([]:List ByteArray)⟩:ak_)⟩:an_),([]:List ad_),(⟨#[]⟩:ByteArray)⟩:aC_)
  else
    bif (!a0.Up) then
      some (⟨2,(⟨0,false,0,0,0,false,(⟨0,([]:List ag_)⟩:al_),(⟨0,([]:List ai_),(⟨#[]⟩:ByteArray),([]:List ByteArray)⟩:ak_)⟩:an_),([]:List ad_),(⟨#[]⟩:ByteArray)⟩:aC_)
    else
      (f9_ k a0.Take).bind fun r2=>
      bif (!r2.2.2) then
        some (⟨4,(⟨0,false,0,0,0,false,(⟨0,([]:List ag_)⟩:al_),(⟨0,([]:List ai_),(⟨#[]⟩:ByteArray),([]:List ByteArray)⟩:ak_)⟩:an_),([]:List ad_),(⟨#[]⟩:ByteArray)⟩:aC_)
      else
        (cm_ k a0).bind fun r3=>
        some (⟨0,(⟨r3.Number,r3.Up,r3.Life,r3.Peer,r3.Since,true,r3.Send,r2.1⟩:an_),([]:List ad_),r2.2.1⟩:aC_)
def f6_ (k:Nat) (a0:al_):Option (Bool):=
  bif (a0.Base==0) then
    some ((a0.Items.length:Int)==0)
  else
    some false
def gc_ (k:Nat) (a0:ak_):Option (Bool):=
  bif (a0.Next==0) then
    bif ((a0.Held.length:Int)==0) then
      bif (a0.Open.toList==(⟨#[]⟩:ByteArray).toList) then
        some ((a0.Ready.length:Int)==0)
      else
        some false
    else
      some false
  else
    some false
def bS_ (k:Nat) (a0:an_):Option (Bool):=
  (aF_ k a0.Number 1 2).bind fun r1=>
  bif (!r1) then
    some false
  else
    (aF_ k a0.Life 1 1000).bind fun r2=>
    bif (!r2) then
      some false
    else
      (aF_ k a0.Peer 0 1000).bind fun r3=>
      bif (!r3) then
        some false
      else
        (aF_ k a0.Since 0 1000000).bind fun r4=>
        bif (!r4) then
          some false
        else
          (bx_ k a0.Send).bind fun r5=>
          bif (!r5) then
            some false
          else
            (cW_ k a0.Take).bind fun r6=>
            bif (!r6) then
              some false
            else
              bif (a0.Peer==0) then
                (f6_ k a0.Send).bind fun r7=>
                bif (!r7) then
                  some false
                else
                  (gc_ k a0.Take).bind fun r8=>
                  bif (!r8) then
                    some false
                  else
                    bif a0.Up then
                      some true
                    else
                      bif (a0.Peer==0) then
                        bif (a0.Since==0) then
                          some (!a0.Owes)
                        else
                          some false
                      else
                        some false
              else
                bif a0.Up then
                  some true
                else
                  bif (a0.Peer==0) then
                    bif (a0.Since==0) then
                      some (!a0.Owes)
                    else
                      some false
                  else
                    some false
def cV_ (k:Nat) (a0:an_):Option (an_):=
  (eC_ k a0.Send).bind fun r1=>
  (fa_ k a0.Take).bind fun r2=>
  some (⟨a0.Number,a0.Up,a0.Life,a0.Peer,a0.Since,a0.Owes,r1,r2⟩:an_)
mutual
def dR_:Nat→Int→Int→Bool→Int→Int→Int→Bool→Int→Int→ByteArray→ByteArray→Int→Bool→Int→Int→Int→Bool→Int→Int→ByteArray→List ad_→List ag_→List ai_→List ByteArray→List ad_→List ag_→List ai_→List ByteArray→Option (aC_)
  | 0,_,_,_,_,_,_,_,_,_,_,_,_,_,_,_,_,_,_,_,_,_,_,_,_,_,_,_,_=>none
  | k+1,x0,x1,x2,x3,x4,x5,x6,x7,x8,x9,x10,x11,x12,x13,x14,x15,x16,x17,x18,x19,x20,x21,x22,x23,x24,x25,x26,x27=>
    bif (x14 !=0) then
      (f5_ k (⟨x17,x25⟩:al_)).bind fun r3=>
      cR_ k 0 x0 x1 x2 x3 x4 x5 x6 x7 x8 x9 x10 x11 x12 x13 x14 x15 x16 r3.1.Base x18 x19 x20 r3.1.Base r3.2 x21 x22 x23 x24 r3.1.Items x26 x27
    else
      dw_ k x0 x1 x2 x3 x4 x5 x6 x7 x8 x9 x10 x11 x12 x13 x14 x15 x16 x17 x18 x19 x20 x21 x22 x23 x24 x25 x26 x27
def cR_:Nat→Int→Int→Int→Bool→Int→Int→Int→Bool→Int→Int→ByteArray→ByteArray→Int→Bool→Int→Int→Int→Bool→Int→Int→ByteArray→List ad_→Int→List Int→List ag_→List ai_→List ByteArray→List ad_→List ag_→List ai_→List ByteArray→Option (aC_)
  | 0,_,_,_,_,_,_,_,_,_,_,_,_,_,_,_,_,_,_,_,_,_,_,_,_,_,_,_,_,_,_,_=>none
  | k+1,x0,x1,x2,x3,x4,x5,x6,x7,x8,x9,x10,x11,x12,x13,x14,x15,x16,x17,x18,x19,x20,x21,x22,x23,x24,x25,x26,x27,x28,x29,x30=>
    bif (decide (x0<(x23.length:Int))) then
      (idx x23 x0).bind fun _=>
      (x23[(Int.toNat x0)]?).bind fun y4=>
      (idx x28 (IntKind.wrap .i64 (y4-x22))).bind fun _=>
      (x28[(Int.toNat (IntKind.wrap .i64 (y4-x22)))]?).bind fun y5=>
      (idx x23 x0).bind fun _=>
      (x23[(Int.toNat x0)]?).bind fun y6=>
      (app 80 x21 ([(⟨2,x12,x14,x15,0,0,y6,y5.Part.Last,y5.Part.Text⟩:ad_)]:List ad_)).bind fun l7=>
      cR_ k (IntKind.wrap .i64 (x0+1)) x1 x2 x3 x4 x5 x6 x7 x8 x9 x10 x11 x12 x13 x14 x15 x16 x17 x18 x19 x20 l7 x22 x23 x24 x25 x26 x27 x28 x29 x30
    else
      dw_ k x1 x2 x3 x4 x5 x6 x7 x8 x9 x10 x11 x12 x13 x14 x15 x16 x17 x18 x19 x20 x21 x24 x25 x26 x27 x28 x29 x30
def dw_:Nat→Int→Int→Bool→Int→Int→Int→Bool→Int→Int→ByteArray→ByteArray→Int→Bool→Int→Int→Int→Bool→Int→Int→ByteArray→List ad_→List ag_→List ai_→List ByteArray→List ad_→List ag_→List ai_→List ByteArray→Option (aC_)
  | 0,_,_,_,_,_,_,_,_,_,_,_,_,_,_,_,_,_,_,_,_,_,_,_,_,_,_,_,_=>none
  | k+1,x0,x1,x2,x3,x4,x5,x6,x7,x8,x9,x10,x11,x12,x13,x14,x15,x16,x17,x18,x19,x20,x21,x22,x23,x24,x25,x26,x27=>
    bif x16 then
      (dX_ k (⟨x18,x26,x19,x27⟩:ak_)).bind fun r8=>
      (app 80 x20 ([(⟨1,x11,x13,x14,r8.1,r8.2,0,false,(⟨#[]⟩:ByteArray)⟩:ad_)]:List ad_)).bind fun l9=>
      b9_ k x0 x1 x2 x3 x4 x5 x6 x7 x8 x9 x10 x11 x12 x13 x14 0 false x17 x18 x19 l9 x21 x22 x23 x24 x25 x26 x27
    else
      bif (decide (x15≥6)) then
        (dX_ k (⟨x18,x26,x19,x27⟩:ak_)).bind fun r10=>
        (app 80 x20 ([(⟨1,x11,x13,x14,r10.1,r10.2,0,false,(⟨#[]⟩:ByteArray)⟩:ad_)]:List ad_)).bind fun l11=>
        b9_ k x0 x1 x2 x3 x4 x5 x6 x7 x8 x9 x10 x11 x12 x13 x14 0 false x17 x18 x19 l11 x21 x22 x23 x24 x25 x26 x27
      else
        b9_ k x0 x1 x2 x3 x4 x5 x6 x7 x8 x9 x10 x11 x12 x13 x14 x15 x16 x17 x18 x19 x20 x21 x22 x23 x24 x25 x26 x27
def b9_:Nat→Int→Int→Bool→Int→Int→Int→Bool→Int→Int→ByteArray→ByteArray→Int→Bool→Int→Int→Int→Bool→Int→Int→ByteArray→List ad_→List ag_→List ai_→List ByteArray→List ad_→List ag_→List ai_→List ByteArray→Option (aC_)
  | 0,_,_,_,_,_,_,_,_,_,_,_,_,_,_,_,_,_,_,_,_,_,_,_,_,_,_,_,_=>none
  | k+1,x0,x1,x2,x3,x4,x5,x6,x7,x8,x9,x10,x11,x12,x13,x14,x15,x16,x17,x18,x19,x20,x21,x22,x23,x24,x25,x26,x27=>
    some (⟨0,(⟨x11,x12,x13,x14,x15,x16,(⟨x17,x25⟩:al_),(⟨x18,x26,x19,x27⟩:ak_)⟩:an_),x20,(⟨#[]⟩:ByteArray)⟩:aC_)
end
def gT_ (k:Nat) (a0:an_):Option (aC_):=
  (bS_ k a0).bind fun r1=>
  bif (!r1) then
    some (⟨1,(⟨0,false,0,0,0,false,(⟨0,([]:List ag_)⟩:al_),(⟨0,([]:List ai_),(⟨#[]⟩:ByteArray),([]:List ByteArray)⟩:ak_)⟩:an_),([]:List ad_),(⟨#[]⟩:ByteArray)⟩:aC_)
  else
    (cV_ k a0).bind fun r2=>
    bif (!r2.Up) then
      some (⟨0,r2,([]:List ad_),(⟨#[]⟩:ByteArray)⟩:aC_)
    else
      bif (decide (r2.Since<1000000)) then
        dR_ k 0 0 false 0 0 0 false 0 0 (⟨#[]⟩:ByteArray) (⟨#[]⟩:ByteArray) r2.Number r2.Up r2.Life r2.Peer (IntKind.wrap .i64 (r2.Since+1)) r2.Owes r2.Send.Base r2.Take.Next r2.Take.Open ([]:List ad_) ([]:List ag_) ([]:List ai_) ([]:List ByteArray) ([]:List ad_) r2.Send.Items r2.Take.Held r2.Take.Ready
      else
        dR_ k 0 0 false 0 0 0 false 0 0 (⟨#[]⟩:ByteArray) (⟨#[]⟩:ByteArray) r2.Number r2.Up r2.Life r2.Peer r2.Since r2.Owes r2.Send.Base r2.Take.Next r2.Take.Open ([]:List ad_) ([]:List ag_) ([]:List ai_) ([]:List ByteArray) ([]:List ad_) r2.Send.Items r2.Take.Held r2.Take.Ready
def dp_:Nat→Int→Int→Int→Int→Int→Int→Int→Bool→ByteArray→Int→Int→Bool→Int→Int→Int→Bool→Int→Int→ByteArray→ByteArray→Int→Bool→Int→Int→Int→Bool→Int→Int→ByteArray→List ag_→List ai_→List ByteArray→List ad_→List ag_→List ai_→List ByteArray→Option (aC_)
  | 0,_,_,_,_,_,_,_,_,_,_,_,_,_,_,_,_,_,_,_,_,_,_,_,_,_,_,_,_,_,_,_,_,_,_,_,_=>none
  | k+1,x0,x1,x2,x3,x4,x5,x6,x7,x8,x9,x10,x11,x12,x13,x14,x15,x16,x17,x18,x19,x20,x21,x22,x23,x24,x25,x26,x27,x28,x29,x30,x31,x32,x33,x34,x35=>
    bif (x3 !=x22) then
      some (⟨0,(⟨x20,x21,x22,x23,x24,true,(⟨x26,x33⟩:al_),(⟨x27,x34,x28,x35⟩:ak_)⟩:an_),([]:List ad_),(⟨#[]⟩:ByteArray)⟩:aC_)
    else
      bif (x0==1) then
        (fX_ k (⟨x26,x33⟩:al_) x4 x5).bind fun r4=>
        some (⟨0,(⟨x20,x21,x22,x23,x24,x25,r4,(⟨x27,x34,x28,x35⟩:ak_)⟩:an_),([]:List ad_),(⟨#[]⟩:ByteArray)⟩:aC_)
      else
        (fZ_ k (⟨x27,x34,x28,x35⟩:ak_) x6 (⟨x8,x7⟩:aE_)).bind fun r5=>
        some (⟨0,(⟨x20,x21,x22,x23,x24,true,(⟨x26,x33⟩:al_),r5⟩:an_),([]:List ad_),(⟨#[]⟩:ByteArray)⟩:aC_)
def g0_ (k:Nat) (a0:an_) (a1:ad_):Option (aC_):=
  (bS_ k a0).bind fun r1=>
  bif (!r1) then
    some (⟨1,(⟨0,false,0,0,0,false,(⟨0,([]:List ag_)⟩:al_),(⟨0,([]:List ai_),(⟨#[]⟩:ByteArray),([]:List ByteArray)⟩:ak_)⟩:an_),([]:List ad_),(⟨#[]⟩:ByteArray)⟩:aC_)
  else
    (cV_ k a0).bind fun r2=>
    bif (!r2.Up) then
      some (⟨0,r2,([]:List ad_),(⟨#[]⟩:ByteArray)⟩:aC_)
    else
      (fA_ k a1).bind fun r3=>
      bif (!r3) then
        some (⟨0,r2,([]:List ad_),(⟨#[]⟩:ByteArray)⟩:aC_)
      else
        bif (a1.From==r2.Number) then
          some (⟨0,r2,([]:List ad_),(⟨#[]⟩:ByteArray)⟩:aC_)
        else
          bif (decide (a1.Mine<r2.Peer)) then
            some (⟨0,r2,([]:List ad_),(⟨#[]⟩:ByteArray)⟩:aC_)
          else
            bif (decide (a1.Mine>r2.Peer)) then
              dp_ k a1.Kind a1.From a1.Mine a1.Yours a1.Next a1.Mask a1.Seq a1.Last a1.Part 0 0 false 0 0 0 false 0 0 (⟨#[]⟩:ByteArray) (⟨#[]⟩:ByteArray) r2.Number r2.Up r2.Life a1.Mine r2.Since true 0 0 (⟨#[]⟩:ByteArray) ([]:List ag_) ([]:List ai_) ([]:List ByteArray) ([]:List ad_) ([]:List ag_) ([]:List ai_) ([]:List ByteArray)
            else
              dp_ k a1.Kind a1.From a1.Mine a1.Yours a1.Next a1.Mask a1.Seq a1.Last a1.Part 0 0 false 0 0 0 false 0 0 (⟨#[]⟩:ByteArray) (⟨#[]⟩:ByteArray) r2.Number r2.Up r2.Life r2.Peer r2.Since r2.Owes r2.Send.Base r2.Take.Next r2.Take.Open ([]:List ag_) ([]:List ai_) ([]:List ByteArray) ([]:List ad_) r2.Send.Items r2.Take.Held r2.Take.Ready
def g8_ (k:Nat) (a0:an_):Option (an_):=
  (bS_ k a0).bind fun r1=>
  bif (!r1) then
    some (⟨0,false,0,0,0,false,(⟨0,([]:List ag_)⟩:al_),(⟨0,([]:List ai_),(⟨#[]⟩:ByteArray),([]:List ByteArray)⟩:ak_)⟩:an_)
  else
    some (⟨a0.Number,false,a0.Life,0,0,false,(⟨0,([]:List ag_)⟩:al_),(⟨0,([]:List ai_),(⟨#[]⟩:ByteArray),([]:List ByteArray)⟩:ak_)⟩:an_)
def gZ_ (k:Nat) (a0:an_):Option (an_):=
  (bS_ k a0).bind fun r1=>
  bif (!r1) then
    some (⟨0,false,0,0,0,false,(⟨0,([]:List ag_)⟩:al_),(⟨0,([]:List ai_),(⟨#[]⟩:ByteArray),([]:List ByteArray)⟩:ak_)⟩:an_)
  else
    bif a0.Up then
      (cV_ k a0).bind fun r2=>
      some r2
    else
      bif (decide (a0.Life≥1000)) then
        (cV_ k a0).bind fun r3=>
        some r3
      else
        some (⟨a0.Number,true,(IntKind.wrap .i64 (a0.Life+1)),0,0,false,(⟨0,([]:List ag_)⟩:al_),(⟨0,([]:List ai_),(⟨#[]⟩:ByteArray),([]:List ByteArray)⟩:ak_)⟩:an_)
def gJ_ (k:Nat) (a0:an_) (a1:ByteArray):Option (aC_):=
  (bS_ k a0).bind fun r1=>
  bif (!r1) then
    some (⟨1,(⟨0,false,0,0,0,false,(⟨0,([]:List ag_)⟩:al_),(⟨0,([]:List ai_),(⟨#[]⟩:ByteArray),([]:List ByteArray)⟩:ak_)⟩:an_),([]:List ad_),(⟨#[]⟩:ByteArray)⟩:aC_)
  else
    bif (!a0.Up) then
      some (⟨2,(⟨0,false,0,0,0,false,(⟨0,([]:List ag_)⟩:al_),(⟨0,([]:List ai_),(⟨#[]⟩:ByteArray),([]:List ByteArray)⟩:ak_)⟩:an_),([]:List ad_),(⟨#[]⟩:ByteArray)⟩:aC_)
    else
      bif (a0.Peer==0) then
        some (⟨2,(⟨0,false,0,0,0,false,(⟨0,([]:List ag_)⟩:al_),(⟨0,([]:List ai_),(⟨#[]⟩:ByteArray),([]:List ByteArray)⟩:ak_)⟩:an_),([]:List ad_),(⟨#[]⟩:ByteArray)⟩:aC_)
      else
        (f4_ k a0.Send a1).bind fun r2=>
        bif (r2.2 !=0) then
          some (⟨r2.2,(⟨0,false,0,0,0,false,(⟨0,([]:List ag_)⟩:al_),(⟨0,([]:List ai_),(⟨#[]⟩:ByteArray),([]:List ByteArray)⟩:ak_)⟩:an_),([]:List ad_),(⟨#[]⟩:ByteArray)⟩:aC_)
        else
          (cV_ k a0).bind fun r3=>
          some (⟨0,(⟨r3.Number,r3.Up,r3.Life,r3.Peer,r3.Since,r3.Owes,r2.1,r3.Take⟩:an_),([]:List ad_),(⟨#[]⟩:ByteArray)⟩:aC_)
def gR_ (k:Nat) (a0:an_):Option (aC_):=
  (bS_ k a0).bind fun r1=>
  bif (!r1) then
    some (⟨1,(⟨0,false,0,0,0,false,(⟨0,([]:List ag_)⟩:al_),(⟨0,([]:List ai_),(⟨#[]⟩:ByteArray),([]:List ByteArray)⟩:ak_)⟩:an_),([]:List ad_),(⟨#[]⟩:ByteArray)⟩:aC_)
  else
    bif (!a0.Up) then
      some (⟨2,(⟨0,false,0,0,0,false,(⟨0,([]:List ag_)⟩:al_),(⟨0,([]:List ai_),(⟨#[]⟩:ByteArray),([]:List ByteArray)⟩:ak_)⟩:an_),([]:List ad_),(⟨#[]⟩:ByteArray)⟩:aC_)
    else
      (fY_ k a0.Take).bind fun r2=>
      bif (!r2.2.2) then
        some (⟨4,(⟨0,false,0,0,0,false,(⟨0,([]:List ag_)⟩:al_),(⟨0,([]:List ai_),(⟨#[]⟩:ByteArray),([]:List ByteArray)⟩:ak_)⟩:an_),([]:List ad_),(⟨#[]⟩:ByteArray)⟩:aC_)
      else
        (cV_ k a0).bind fun r3=>
        some (⟨0,(⟨r3.Number,r3.Up,r3.Life,r3.Peer,r3.Since,true,r3.Send,r2.1⟩:an_),([]:List ad_),r2.2.1⟩:aC_)
def jL_ (k:Nat) (a0:an_) (a1:Int):Option (Int):=
  (h4_ k a0.Send a1).bind fun r1=>
  bif (decide (r1<0)) then
    some (-1)
  else
    (h7_ k a0.Take r1).bind fun r2=>
    bif (decide (r2<0)) then
      some (-1)
    else
      some r2
def jK_ (k:Nat) (a0:an_):Option (an_):=
  (hN_ k a0.Send).bind fun r1=>
  (hK_ k a0.Take).bind fun r2=>
  some (⟨a0.Number,a0.Up,a0.Life,a0.Peer,a0.Since,a0.Owes,r1,r2⟩:an_)
def jP_ (k:Nat) (a0:an_) (a1:an_):Option (Bool):=
  bif (a0.Number !=a1.Number) then
    some false
  else
    bif (!(a0.Up==a1.Up)) then
      some false
    else
      bif (a0.Life !=a1.Life) then
        some false
      else
        bif (a0.Peer !=a1.Peer) then
          some false
        else
          bif (a0.Since !=a1.Since) then
            some false
          else
            bif (!(a0.Owes==a1.Owes)) then
              some false
            else
              (hM_ k a0.Send a1.Send).bind fun r1=>
              bif (!r1) then
                some false
              else
                (hL_ k a0.Take a1.Take).bind fun r2=>
                bif (!r2) then
                  some false
                else
                  some true
end Km.X
