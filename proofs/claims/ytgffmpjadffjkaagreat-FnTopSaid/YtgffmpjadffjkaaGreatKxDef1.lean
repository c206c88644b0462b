/- A part of the proof of FnTop: the functions that it reads off the program. There is no condition. -/
import Derived.Test.YtgffmpjadffjkaaGreatKmAm3
namespace Km.X
open Go Km
set_option linter.unusedVariables false
set_option maxRecDepth 100000
structure aA_ where
  Text:ByteArray
  Last:Bool
structure ag_ where
  Part:aA_
  Has:Bool
  Since:Int
structure aj_ where
  Base:Int
  Items:List ag_
structure ak_ where
  Seq:Int
  Part:aA_
structure ai_ where
  Next:Int
  Held:List ak_
  Open:ByteArray
  Ready:List ByteArray
structure an_ where
  Number:Int
  Up:Bool
  Life:Int
  Peer:Int
  Since:Int
  Owes:Bool
  Send:aj_
  Take:ai_
structure ae_ where
  Kind:Int
  From:Int
  Mine:Int
  Yours:Int
  Next:Int
  Mask:Int
  Seq:Int
  Last:Bool
  Part:ByteArray
structure ay_ where
  Code:Int
  End:an_
  Out:List ae_
  Text:ByteArray
structure as_ where
  Kind:Int
  A:Int
  B:Int
  C:Int
  Text:ByteArray
structure DKey where
  to:Int
  bytes:ByteArray
structure ax_ where
  b:List Int
  p:Int
structure sZ_ where
  to:Int
  bytes:ByteArray
  n:Int
structure DPair where
  f:Int
  a:Int
  b:Int
structure ad_ where
  To:Int
  Sent:ByteArray
  Bytes:ByteArray
structure aa_ where
  From:Int
  A:Int
  B:Int
  Text:ByteArray
structure ac_ where
  Key:ByteArray
  Width:Int
  Ends:List an_
  Flight:List ad_
  Forged:ByteArray
  Given:List aa_
  Taken:List aa_
def eT_ (x y:DKey):Bool:=((x.to==y.to)&&((x.bytes.toList==y.bytes.toList)&&true))
theorem o0_ {x y:DKey} (h:eT_ x y=true):x=y:=by
  obtain ⟨x0,x1⟩:=x
  obtain ⟨y0,y1⟩:=y
  simp only [eT_,Bool.and_eq_true,Bool.and_true,beq_iff_eq] at h
  obtain ⟨h0,h1⟩:=h
  subst h0;have h1:=Km.toList_inj h1;subst h1;rfl
def a7_ (x y:DPair):Bool:=((x.f==y.f)&&((x.a==y.a)&&((x.b==y.b)&&true)))
theorem mf_ {x y:DPair} (h:a7_ x y=true):x=y:=by
  obtain ⟨x0,x1,x2⟩:=x
  obtain ⟨y0,y1,y2⟩:=y
  simp only [a7_,Bool.and_eq_true,Bool.and_true,beq_iff_eq] at h
  obtain ⟨h0,h1,h2⟩:=h
  subst h0;subst h1;subst h2;rfl
def jA_ (x:Int):Prop:=(Lit.int .u8 x).wf=true
def Cg_ (x:ByteArray):Prop:=x.size≤maxLen
def st_ (x:aA_):Prop:=x.Text.size≤maxLen∧True
def vD_ (x:ag_):Prop:=st_ x.Part∧True∧(Lit.int .i64 x.Since).wf=true
def vZ_ (x:ag_):Prop:=vD_ x
def wF_ (x:aj_):Prop:=(Lit.int .i64 x.Base).wf=true∧(x.Items.length≤maxLen∧∀y∈x.Items,vZ_ y)
def vY_ (x:ak_):Prop:=(Lit.int .i64 x.Seq).wf=true∧st_ x.Part
def wG_ (x:ak_):Prop:=vY_ x
def vU_ (x:ai_):Prop:=(Lit.int .i64 x.Next).wf=true∧(x.Held.length≤maxLen∧∀y∈x.Held,wG_ y)∧x.Open.size≤maxLen∧(x.Ready.length≤maxLen∧∀y∈x.Ready,Cg_ y)
def Ch_ (x:an_):Prop:=(Lit.int .i64 x.Number).wf=true∧True∧(Lit.int .i64 x.Life).wf=true∧(Lit.int .i64 x.Peer).wf=true∧(Lit.int .i64 x.Since).wf=true∧True∧wF_ x.Send∧vU_ x.Take
def zH_ (x:ae_):Prop:=(Lit.int .i64 x.Kind).wf=true∧(Lit.int .i64 x.From).wf=true∧(Lit.int .i64 x.Mine).wf=true∧(Lit.int .i64 x.Yours).wf=true∧(Lit.int .i64 x.Next).wf=true∧(Lit.int .i64 x.Mask).wf=true∧(Lit.int .i64 x.Seq).wf=true∧True∧x.Part.size≤maxLen
def Bk_ (x:as_):Prop:=(Lit.int .i64 x.Kind).wf=true∧(Lit.int .i64 x.A).wf=true∧(Lit.int .i64 x.B).wf=true∧(Lit.int .i64 x.C).wf=true∧x.Text.size≤maxLen
def yD_ (x:sZ_):Prop:=(Lit.int .i64 x.to).wf=true∧x.bytes.size≤maxLen∧(Lit.int .i64 x.n).wf=true
def uV_ (x:ad_):Prop:=(Lit.int .i64 x.To).wf=true∧x.Sent.size≤maxLen∧x.Bytes.size≤maxLen
def uJ_ (x:aa_):Prop:=(Lit.int .i64 x.From).wf=true∧(Lit.int .i64 x.A).wf=true∧(Lit.int .i64 x.B).wf=true∧x.Text.size≤maxLen
end Km.X
namespace Km.X
open Go Km
set_option linter.unusedVariables false
set_option maxRecDepth 100000
def az_ (k:Nat) (a0:Int) (a1:Int) (a2:Int):Option (Bool):=
  bif (decide (a0≥a1)) then
    some (decide (a0≤a2))
  else
    some false
def dT_:Nat→ByteArray→Int→Int→Option (Int)
  | 0,_,_,_=>none
  | k+1,x0,x1,x2=>
    bif (decide (x2<(x0.size:Int))) then
      (tl_ x0 x2).bind fun c1=>
      dT_ k x0 (IntKind.wrap .i64 ((IntKind.wrap .i64 (x1*256))+(IntKind.wrap .i64 (c1.toNat:Int)))) (IntKind.wrap .i64 (x2+1))
    else
      some x1
def fT_ (k:Nat) (a0:ByteArray):Option (Int):=
  dT_ k a0 0 0
def ga_ (k:Nat) (a0:ae_):Option (Bool):=
  (az_ k a0.From 1 2).bind fun r1=>
  bif (!r1) then
    some false
  else
    (az_ k a0.Mine 1 1000).bind fun r2=>
    bif (!r2) then
      some false
    else
      (az_ k a0.Yours 0 1000).bind fun r3=>
      bif (!r3) then
        some false
      else
        bif (a0.Kind==1) then
          (az_ k a0.Next 0 1000000).bind fun r4=>
          bif r4 then
            (az_ k a0.Mask 0 255).bind fun r5=>
            bif r5 then
              bif (a0.Seq==0) then
                bif (!a0.Last) then
                  some (a0.Part.toList==(⟨#[]⟩:ByteArray).toList)
                else
                  some false
              else
                some false
            else
              some false
          else
            some false
        else
          bif (a0.Kind==2) then
            bif (a0.Next==0) then
              bif (a0.Mask==0) then
                (az_ k a0.Seq 0 999999).bind fun r6=>
                bif r6 then
                  some (decide ((a0.Part.size:Int)≤20))
                else
                  some false
              else
                some false
            else
              some false
          else
            some false
def cT_:Nat→Int→Int→ByteArray→Int→Option (ByteArray)
  | 0,_,_,_,_=>none
  | k+1,x0,x1,x2,x3=>
    bif (decide (x3<x1)) then
      (rX_ x0 256).bind fun q1=>
      (jO_ (i8_ ([(IntKind.wrap .u8 q1)]:List Int)) x2).bind fun t2=>
      (x9_ x0 256).bind fun q3=>
      cT_ k (IntKind.wrap .i64 (q3)) x1 t2 (IntKind.wrap .i64 (x3+1))
    else
      some x2
def bQ_ (k:Nat) (a0:Int) (a1:Int):Option (ByteArray):=
  cT_ k a0 a1 (⟨#[]⟩:ByteArray) 0
def eQ_:Nat→ByteArray→Int→Int→Int→Int→Int→Int→Int→Int→Bool→ByteArray→Option (ByteArray)
  | 0,_,_,_,_,_,_,_,_,_,_,_=>none
  | k+1,x0,x1,x2,x3,x4,x5,x6,x7,x8,x9,x10=>
    (bQ_ k x8 4).bind fun r12=>
    (jO_ x0 r12).bind fun t13=>
    (bQ_ k x1 1).bind fun r14=>
    (jO_ t13 r14).bind fun t15=>
    (jO_ t15 x10).bind fun t16=>
    some t16
def g6_ (k:Nat) (a0:ae_):Option (ByteArray):=
  (bQ_ k a0.Kind 1).bind fun r1=>
  (bQ_ k a0.From 1).bind fun r2=>
  (jO_ r1 r2).bind fun t3=>
  (bQ_ k a0.Mine 2).bind fun r4=>
  (jO_ t3 r4).bind fun t5=>
  (bQ_ k a0.Yours 2).bind fun r6=>
  (jO_ t5 r6).bind fun t7=>
  bif (a0.Kind==1) then
    (bQ_ k a0.Next 4).bind fun r8=>
    (jO_ t7 r8).bind fun t9=>
    (bQ_ k a0.Mask 1).bind fun r10=>
    (jO_ t9 r10).bind fun t11=>
    some t11
  else
    bif a0.Last then
      eQ_ k t7 1 a0.Kind a0.From a0.Mine a0.Yours a0.Next a0.Mask a0.Seq a0.Last a0.Part
    else
      eQ_ k t7 0 a0.Kind a0.From a0.Mine a0.Yours a0.Next a0.Mask a0.Seq a0.Last a0.Part
mutual
def fW_:Nat→Int→ByteArray→Int→Int→Option (ByteArray)
  | 0,_,_,_,_=>none
  | k+1,x0,x1,x2,x3=>
    bif (decide (x3<(x1.size:Int))) then
      (tl_ x1 x3).bind fun c4=>
      fW_ k x0 x1 (IntKind.wrap .u64 ((iZ_ .u64 x2 (IntKind.wrap .u64 (c4.toNat:Int)))*1099511628211)) (IntKind.wrap .i64 (x3+1))
    else
      fi_ k x0 x2 (⟨#[]⟩:ByteArray) 0
def fi_:Nat→Int→Int→ByteArray→Int→Option (ByteArray)
  | 0,_,_,_,_=>none
  | k+1,x0,x1,x2,x3=>
    bif (decide (x3<x0)) then
      (rX_ x1 256).bind fun q5=>
      (jO_ (i8_ ([(IntKind.wrap .u8 q5)]:List Int)) x2).bind fun t6=>
      (x9_ x1 256).bind fun q7=>
      fi_ k x0 (IntKind.wrap .u64 (q7)) t6 (IntKind.wrap .i64 (x3+1))
    else
      some x2
end
def ok_ (k:Nat) (a0:ByteArray) (a1:ByteArray) (a2:Int):Option (ByteArray):=
  (az_ k a2 1 8).bind fun r1=>
  bif (!r1) then
    some (⟨#[]⟩:ByteArray)
  else
    bif (decide ((a1.size:Int)>30)) then
      some (⟨#[]⟩:ByteArray)
    else
      (jO_ a1 (⟨#[0]⟩:ByteArray)).bind fun t2=>
      (jO_ t2 a0).bind fun t3=>
      fW_ k a2 t3 14695981039346656037 0
def da_ (k:Nat) (a0:ae_) (a1:ByteArray) (a2:Int):Option (ByteArray):=
  (ga_ k a0).bind fun r1=>
  bif (!r1) then
    some (⟨#[]⟩:ByteArray)
  else
    (az_ k a2 1 8).bind fun r2=>
    bif (!r2) then
      some (⟨#[]⟩:ByteArray)
    else
      bif (decide ((a1.size:Int)>30)) then
        some (⟨#[]⟩:ByteArray)
      else
        (g6_ k a0).bind fun r3=>
        (ok_ k r3 a1 a2).bind fun r4=>
        (g6_ k a0).bind fun r5=>
        (jO_ r4 r5).bind fun t6=>
        some t6
def cD_:Nat→ByteArray→ByteArray→Int→Int→Int→Int→Int→Int→Int→Int→Bool→ByteArray→Int→Int→Int→Int→Int→Int→Int→Bool→ByteArray→Option (ae_×Bool)
  | 0,_,_,_,_,_,_,_,_,_,_,_,_,_,_,_,_,_,_,_,_,_=>none
  | k+1,x0,x1,x2,x3,x4,x5,x6,x7,x8,x9,x10,x11,x12,x13,x14,x15,x16,x17,x18,x19,x20=>
    (da_ k (⟨x12,x13,x14,x15,x16,x17,x18,x19,x20⟩:ae_) x1 x2).bind fun r16=>
    bif (!(r16.toList==x0.toList)) then
      some ((⟨0,0,0,0,0,0,0,false,(⟨#[]⟩:ByteArray)⟩:ae_),false)
    else
      some ((⟨x12,x13,x14,x15,x16,x17,x18,x19,x20⟩:ae_),true)
def en_ (k:Nat) (a0:ByteArray) (a1:ByteArray) (a2:Int):Option (ae_×Bool):=
  (az_ k a2 1 8).bind fun r1=>
  bif (!r1) then
    some ((⟨0,0,0,0,0,0,0,false,(⟨#[]⟩:ByteArray)⟩:ae_),false)
  else
    bif (decide ((a0.size:Int)<(IntKind.wrap .i64 (a2+11)))) then
      some ((⟨0,0,0,0,0,0,0,false,(⟨#[]⟩:ByteArray)⟩:ae_),false)
    else
      (wnd a0.size a2 (a0.size:Int)).bind fun p2=>
      (tl_ (a0.extract p2.1 p2.2) 0).bind fun c3=>
      (tl_ (a0.extract p2.1 p2.2) 1).bind fun c4=>
      (wnd (a0.extract p2.1 p2.2).size 2 4).bind fun p5=>
      (fT_ k ((a0.extract p2.1 p2.2).extract p5.1 p5.2)).bind fun r6=>
      (wnd (a0.extract p2.1 p2.2).size 4 6).bind fun p7=>
      (fT_ k ((a0.extract p2.1 p2.2).extract p7.1 p7.2)).bind fun r8=>
      bif ((IntKind.wrap .i64 (c3.toNat:Int))==1) then
        (wnd (a0.extract p2.1 p2.2).size 6 10).bind fun p9=>
        (fT_ k ((a0.extract p2.1 p2.2).extract p9.1 p9.2)).bind fun r10=>
        (tl_ (a0.extract p2.1 p2.2) 10).bind fun c11=>
        cD_ k a0 a1 a2 0 0 0 0 0 0 0 false (⟨#[]⟩:ByteArray) (IntKind.wrap .i64 (c3.toNat:Int)) (IntKind.wrap .i64 (c4.toNat:Int)) r6 r8 r10 (IntKind.wrap .i64 (c11.toNat:Int)) 0 false (⟨#[]⟩:ByteArray)
      else
        (wnd (a0.extract p2.1 p2.2).size 6 10).bind fun p12=>
        (fT_ k ((a0.extract p2.1 p2.2).extract p12.1 p12.2)).bind fun r13=>
        (tl_ (a0.extract p2.1 p2.2) 10).bind fun c14=>
        (wnd (a0.extract p2.1 p2.2).size 11 ((a0.extract p2.1 p2.2).size:Int)).bind fun p15=>
        cD_ k a0 a1 a2 0 0 0 0 0 0 0 false (⟨#[]⟩:ByteArray) (IntKind.wrap .i64 (c3.toNat:Int)) (IntKind.wrap .i64 (c4.toNat:Int)) r6 r8 0 0 r13 ((c14.toNat:Int)==1) ((a0.extract p2.1 p2.2).extract p15.1 p15.2)
def aN_ (k:Nat) (a0:Int) (a1:Int) (a2:Int):Option (Bool):=
  bif (decide (a0≥a1)) then
    some (decide (a0≤a2))
  else
    some false
def bw_:Nat→List ag_→Int→Int→Option (Bool)
  | 0,_,_,_=>none
  | k+1,x0,x1,x2=>
    bif (decide (x2<x1)) then
      (idx x0 x2).bind fun y2=>
      bif (decide ((y2.Part.Text.size:Int)>20)) then
        some false
      else
        (aN_ k y2.Since (-1) 3).bind fun r3=>
        bif (!r3) then
          some false
        else
          bif (decide (x2≥8)) then
            bif (y2.Since !=(-1)) then
              some false
            else
              bif y2.Has then
                bif (decide (y2.Since<0)) then
                  some false
                else
                  bw_ k x0 x1 (IntKind.wrap .i64 (x2+1))
              else
                bw_ k x0 x1 (IntKind.wrap .i64 (x2+1))
          else
            bif y2.Has then
              bif (decide (y2.Since<0)) then
                some false
              else
                bw_ k x0 x1 (IntKind.wrap .i64 (x2+1))
            else
              bw_ k x0 x1 (IntKind.wrap .i64 (x2+1))
    else
      some true
def bn_ (k:Nat) (a0:aj_):Option (Bool):=
  bif (decide ((a0.Items.length:Int)>60)) then
    some false
  else
    (aN_ k a0.Base 0 1000000).bind fun r1=>
    bif (!r1) then
      some false
    else
      bif (decide ((IntKind.wrap .i64 (a0.Base+(a0.Items.length:Int)))>1000000)) then
        some false
      else
        bw_ k a0.Items (a0.Items.length:Int) 0
def gQ_ (k:Nat) (a0:ai_) (a1:aA_):Option (Bool):=
  bif (decide ((IntKind.wrap .i64 ((a0.Open.size:Int)+(a1.Text.size:Int)))≤200)) then
    bif (!a1.Last) then
      some true
    else
      some (decide ((a0.Ready.length:Int)<4))
  else
    some false
mutual
def aK_:Nat→List ak_→Int→Int→Int→List ak_→ByteArray→List ByteArray→Option (Bool)
  | 0,_,_,_,_,_,_,_=>none
  | k+1,x0,x1,x2,x3,x4,x5,x6=>
    bif (decide (x2<x1)) then
      (idx x0 x2).bind fun y2=>
      (aN_ k y2.Seq x3 (IntKind.wrap .i64 ((IntKind.wrap .i64 (x3+8))-1))).bind fun r3=>
      bif (!r3) then
        some false
      else
        bif (decide (y2.Seq>999999)) then
          some false
        else
          bif (decide ((y2.Part.Text.size:Int)>20)) then
            some false
          else
            bif (decide (x2>0)) then
              (idx x4 (IntKind.wrap .i64 (x2-1))).bind fun y4=>
              bif (decide (y4.Seq≥y2.Seq)) then
                some false
              else
                bif (y2.Seq==x3) then
                  (gQ_ k (⟨x3,x4,x5,x6⟩:ai_) y2.Part).bind fun r5=>
                  bif r5 then
                    some false
                  else
                    aK_ k x0 x1 (IntKind.wrap .i64 (x2+1)) x3 x4 x5 x6
                else
                  aK_ k x0 x1 (IntKind.wrap .i64 (x2+1)) x3 x4 x5 x6
            else
              bif (y2.Seq==x3) then
                (gQ_ k (⟨x3,x4,x5,x6⟩:ai_) y2.Part).bind fun r6=>
                bif r6 then
                  some false
                else
                  aK_ k x0 x1 (IntKind.wrap .i64 (x2+1)) x3 x4 x5 x6
              else
                aK_ k x0 x1 (IntKind.wrap .i64 (x2+1)) x3 x4 x5 x6
    else
      b2_ k x6 (x6.length:Int) 0
def b2_:Nat→List ByteArray→Int→Int→Option (Bool)
  | 0,_,_,_=>none
  | k+1,x0,x1,x2=>
    bif (decide (x2<x1)) then
      (idx x0 x2).bind fun y7=>
      bif (decide ((y7.size:Int)>200)) then
        some false
      else
        b2_ k x0 x1 (IntKind.wrap .i64 (x2+1))
    else
      some true
end
def bP_ (k:Nat) (a0:ai_):Option (Bool):=
  (aN_ k a0.Next 0 1000000).bind fun r1=>
  bif (!r1) then
    some false
  else
    bif (decide ((a0.Held.length:Int)>8)) then
      some false
    else
      bif (decide ((a0.Open.size:Int)>200)) then
        some false
      else
        bif (decide ((a0.Ready.length:Int)>4)) then
          some false
        else
          aK_ k a0.Held (a0.Held.length:Int) 0 a0.Next a0.Held a0.Open a0.Ready
def ey_ (k:Nat) (a0:aj_):Option (aj_):=
  (app 40 ([]:List ag_) a0.Items).bind fun l1=>
  some (⟨a0.Base,l1⟩:aj_)
def ft_ (k:Nat) (a0:ai_):Option (ai_):=
  (app 32 ([]:List ak_) a0.Held).bind fun l1=>
  (app 16 ([]:List ByteArray) a0.Ready).bind fun l2=>
  some (⟨a0.Next,l1,a0.Open,l2⟩:ai_)
mutual
def cU_:Nat→Int→Int→Int→List Int→List ag_→List ag_→Option (aj_×List Int)
  | 0,_,_,_,_,_,_=>none
  | k+1,x0,x1,x2,x3,x4,x5=>
    bif (decide (x0<(x5.length:Int))) then
      bif (decide (x0<8)) then
        (idx x5 x0).bind fun _=>
        (x5[(Int.toNat x0)]?).bind fun y3=>
        bif y3.Has then
          ce_ k x0 x1 x2 x3 x4 x5
        else
          (x5[(Int.toNat x0)]?).bind fun y4=>
          bif (y4.Since==(-1)) then
            (x5[(Int.toNat x0)]?).bind fun y5=>
            (app 8 x3 ([(IntKind.wrap .i64 (x2+x0))]:List Int)).bind fun l6=>
            ce_ k x0 x1 x2 l6 x4 (x5.set (Int.toNat x0) (⟨y5.Part,y5.Has,0⟩:ag_))
          else
            (x5[(Int.toNat x0)]?).bind fun y7=>
            bif (y7.Since==3) then
              (x5[(Int.toNat x0)]?).bind fun y8=>
              (app 8 x3 ([(IntKind.wrap .i64 (x2+x0))]:List Int)).bind fun l9=>
              ce_ k x0 x1 x2 l9 x4 (x5.set (Int.toNat x0) (⟨y8.Part,y8.Has,0⟩:ag_))
            else
              (x5[(Int.toNat x0)]?).bind fun y10=>
              (x5[(Int.toNat x0)]?).bind fun y11=>
              ce_ k x0 x1 x2 x3 x4 (x5.set (Int.toNat x0) (⟨y11.Part,y11.Has,(IntKind.wrap .i64 (y10.Since+1))⟩:ag_))
      else
        some ((⟨x2,x5⟩:aj_),x3)
    else
      some ((⟨x2,x5⟩:aj_),x3)
def ce_:Nat→Int→Int→Int→List Int→List ag_→List ag_→Option (aj_×List Int)
  | 0,_,_,_,_,_,_=>none
  | k+1,x0,x1,x2,x3,x4,x5=>
    cU_ k (IntKind.wrap .i64 (x0+1)) x1 x2 x3 x4 x5
end
def gu_ (k:Nat) (a0:aj_):Option (aj_×List Int):=
  (bn_ k a0).bind fun r1=>
  bif (!r1) then
    some ((⟨0,([]:List ag_)⟩:aj_),([]:List Int))
  else
    (ey_ k a0).bind fun r2=>
    cU_ k 0 0 r2.Base ([]:List Int) ([]:List ag_) r2.Items
def cN_:Nat→Int→List ak_→Int→Int→Int→List ak_→ByteArray→List ByteArray→Option (Int×Int)
  | 0,_,_,_,_,_,_,_,_=>none
  | k+1,x0,x1,x2,x3,x4,x5,x6,x7=>
    bif (decide (x3<x2)) then
      (idx x1 x3).bind fun y2=>
      (shift .shl .i64 1 (IntKind.wrap .i64 (y2.Seq-x4))).bind fun s3=>
      cN_ k (xe_ .i64 x0 s3) x1 x2 (IntKind.wrap .i64 (x3+1)) x4 x5 x6 x7
    else
      some (x4,x0)
def ex_ (k:Nat) (a0:ai_):Option (Int×Int):=
  (bP_ k a0).bind fun r1=>
  bif (!r1) then
    some (0,0)
  else
    cN_ k 0 a0.Held (a0.Held.length:Int) 0 a0.Next a0.Held a0.Open a0.Ready
def bc_ (k:Nat) (a0:ae_):Option (Bool):=
  bif (a0.From !=1) then
    bif (a0.From !=2) then
      some false
    else
      (aN_ k a0.Mine 1 1000).bind fun r1=>
      bif (!r1) then
        some false
      else
        (aN_ k a0.Yours 0 1000).bind fun r2=>
        bif (!r2) then
          some false
        else
          bif (a0.Kind==1) then
            (aN_ k a0.Next 0 1000000).bind fun r3=>
            bif r3 then
              (aN_ k a0.Mask 0 255).bind fun r4=>
              bif r4 then
                bif (a0.Seq==0) then
                  bif (!a0.Last) then
                    some (a0.Part.toList==(⟨#[]⟩:ByteArray).toList)
                  else
                    some false
                else
                  some false
              else
                some false
            else
              some false
          else
            bif (a0.Kind==2) then
              bif (a0.Next==0) then
                bif (a0.Mask==0) then
                  (aN_ k a0.Seq 0 999999).bind fun r5=>
                  bif r5 then
                    some (decide ((a0.Part.size:Int)≤20))
                  else
                    some false
                else
                  some false
              else
                some false
            else
              some false
  else
    (aN_ k a0.Mine 1 1000).bind fun r6=>
    bif (!r6) then
      some false
    else
      (aN_ k a0.Yours 0 1000).bind fun r7=>
      bif (!r7) then
        some false
      else
        bif (a0.Kind==1) then
          (aN_ k a0.Next 0 1000000).bind fun r8=>
          bif r8 then
            (aN_ k a0.Mask 0 255).bind fun r9=>
            bif r9 then
              bif (a0.Seq==0) then
                bif (!a0.Last) then
                  some (a0.Part.toList==(⟨#[]⟩:ByteArray).toList)
                else
                  some false
              else
                some false
            else
              some false
          else
            some false
        else
          bif (a0.Kind==2) then
            bif (a0.Next==0) then
              bif (a0.Mask==0) then
                (aN_ k a0.Seq 0 999999).bind fun r10=>
                bif r10 then
                  some (decide ((a0.Part.size:Int)≤20))
                else
                  some false
              else
                some false
            else
              some false
          else
            some false
def gJ_:Nat→Int→Int→List Int→Option (ByteArray)
  | 0,_,_,_=>none
  | k+1,x0,x1,x2=>
    bif (decide (x1≥0)) then
      (idx x2 x1).bind fun _=>
      (x2[(Int.toNat x1)]?).bind fun y2=>
      (shift .shr .i64 x0 8).bind fun s3=>
      gJ_ k s3 (IntKind.wrap .i64 (x1-1)) (x2.set (Int.toNat x1) (IntKind.wrap .u8 x0))
    else
      some (i8_ x2)
def ha_ (k:Nat) (a0:Int) (a1:Int):Option (ByteArray):=
  (if (a1:Int)=a1 then room 1 a1 else none).bind fun n1=>
  gJ_ k a0 (IntKind.wrap .i64 (a1-1)) (List.replicate n1 0)
mutual
def fK_:Nat→Int→Int→ByteArray→Int→Option (ByteArray)
  | 0,_,_,_,_=>none
  | k+1,x0,x1,x2,x3=>
    bif (decide (x3<(x2.size:Int))) then
      (tl_ x2 x3).bind fun c3=>
      fK_ k x0 (IntKind.wrap .u64 ((iZ_ .u64 x1 (IntKind.wrap .u64 (c3.toNat:Int)))*1099511628211)) x2 (IntKind.wrap .i64 (x3+1))
    else
      fk_ k x0 x1 7 (List.replicate 8 0)
def fk_:Nat→Int→Int→Int→List Int→Option (ByteArray)
  | 0,_,_,_,_=>none
  | k+1,x0,x1,x2,x3=>
    bif (decide (x2≥0)) then
      (if x3.length=8 then idx x3 x2 else none).bind fun _=>
      (x3[(Int.toNat x2)]?).bind fun y4=>
      (shift .shr .u64 x1 8).bind fun s5=>
      fk_ k x0 s5 (IntKind.wrap .i64 (x2-1)) (x3.set (Int.toNat x2) (IntKind.wrap .u8 x1))
    else
      (if x3.length=8 then wnd 8 (IntKind.wrap .i64 (8-x0)) (8:Int) else none).bind fun p6=>
      some (i8_ (dY_ x3 p6.1 p6.2))
end
def oj_ (k:Nat) (a0:ByteArray) (a1:ByteArray) (a2:Int):Option (ByteArray):=
  bif (decide (a2<1)) then
    some (⟨#[]⟩:ByteArray)
  else
    bif (decide (a2>8)) then
      some (⟨#[]⟩:ByteArray)
    else
      bif (decide ((a1.size:Int)>30)) then
        some (⟨#[]⟩:ByteArray)
      else
        (jO_ a1 (⟨#[0]⟩:ByteArray)).bind fun t1=>
        (jO_ t1 a0).bind fun t2=>
        fK_ k a2 14695981039346656037 t2 0
mutual
def cz_:Nat→ByteArray→Int→ByteArray→Option (ByteArray)
  | 0,_,_,_=>none
  | k+1,x0,x1,x2=>
    (oj_ k x2 x0 x1).bind fun r13=>
    (jO_ r13 x2).bind fun t14=>
    some t14
def cY_:Nat→ByteArray→Int→ByteArray→Int→Int→Int→Int→Int→Int→Int→Int→Bool→ByteArray→Option (ByteArray)
  | 0,_,_,_,_,_,_,_,_,_,_,_,_,_=>none
  | k+1,x0,x1,x2,x3,x4,x5,x6,x7,x8,x9,x10,x11,x12=>
    (ha_ k x10 4).bind fun r15=>
    (ha_ k x3 1).bind fun r16=>
    (jO_ r15 r16).bind fun t17=>
    (jO_ t17 x12).bind fun t18=>
    (jO_ x2 t18).bind fun t19=>
    cz_ k x0 x1 t19
end
def di_ (k:Nat) (a0:ae_) (a1:ByteArray) (a2:Int):Option (ByteArray):=
  (bc_ k a0).bind fun r1=>
  bif (!r1) then
    some (⟨#[]⟩:ByteArray)
  else
    bif (decide (a2<1)) then
      some (⟨#[]⟩:ByteArray)
    else
      bif (decide (a2>8)) then
        some (⟨#[]⟩:ByteArray)
      else
        bif (decide ((a1.size:Int)>30)) then
          some (⟨#[]⟩:ByteArray)
        else
          (ha_ k a0.Kind 1).bind fun r2=>
          (ha_ k a0.From 1).bind fun r3=>
          (jO_ r2 r3).bind fun t4=>
          (ha_ k a0.Mine 2).bind fun r5=>
          (jO_ t4 r5).bind fun t6=>
          (ha_ k a0.Yours 2).bind fun r7=>
          (jO_ t6 r7).bind fun t8=>
          bif (a0.Kind==1) then
            (ha_ k a0.Next 4).bind fun r9=>
            (ha_ k a0.Mask 1).bind fun r10=>
            (jO_ r9 r10).bind fun t11=>
            (jO_ t8 t11).bind fun t12=>
            cz_ k a1 a2 t12
          else
            bif a0.Last then
              cY_ k a1 a2 t8 1 a0.Kind a0.From a0.Mine a0.Yours a0.Next a0.Mask a0.Seq a0.Last a0.Part
            else
              cY_ k a1 a2 t8 0 a0.Kind a0.From a0.Mine a0.Yours a0.Next a0.Mask a0.Seq a0.Last a0.Part
def fZ_:Nat→ByteArray→Int→Int→Option (Int)
  | 0,_,_,_=>none
  | k+1,x0,x1,x2=>
    bif (decide (x2<(x0.size:Int))) then
      (shift .shl .i64 x1 8).bind fun s1=>
      (tl_ x0 x2).bind fun c2=>
      fZ_ k x0 (xe_ .i64 s1 (IntKind.wrap .i64 (c2.toNat:Int))) (IntKind.wrap .i64 (x2+1))
    else
      some x1
def j0_ (k:Nat) (a0:ByteArray):Option (Int):=
  fZ_ k a0 0 0
def bu_:Nat→ByteArray→ByteArray→Int→Int→Int→Int→Int→Int→Int→Int→Bool→ByteArray→Int→Int→Int→Int→Int→Int→Int→Bool→ByteArray→Option (ae_×Bool)
  | 0,_,_,_,_,_,_,_,_,_,_,_,_,_,_,_,_,_,_,_,_,_=>none
  | k+1,x0,x1,x2,x3,x4,x5,x6,x7,x8,x9,x10,x11,x12,x13,x14,x15,x16,x17,x18,x19,x20=>
    (bc_ k (⟨x12,x13,x14,x15,x16,x17,x18,x19,x20⟩:ae_)).bind fun r15=>
    bif (!r15) then
      some ((⟨0,0,0,0,0,0,0,false,(⟨#[]⟩:ByteArray)⟩:ae_),false)
    else
      (di_ k (⟨x12,x13,x14,x15,x16,x17,x18,x19,x20⟩:ae_) x1 x2).bind fun r16=>
      bif (!(r16.toList==x0.toList)) then
        some ((⟨0,0,0,0,0,0,0,false,(⟨#[]⟩:ByteArray)⟩:ae_),false)
      else
        some ((⟨x12,x13,x14,x15,x16,x17,x18,x19,x20⟩:ae_),true)
def fu_ (k:Nat) (a0:ByteArray) (a1:ByteArray) (a2:Int):Option (ae_×Bool):=
  bif (decide (a2<1)) then
    some ((⟨0,0,0,0,0,0,0,false,(⟨#[]⟩:ByteArray)⟩:ae_),false)
  else
    bif (decide (a2>8)) then
      some ((⟨0,0,0,0,0,0,0,false,(⟨#[]⟩:ByteArray)⟩:ae_),false)
    else
      bif (decide ((a1.size:Int)>30)) then
        some ((⟨0,0,0,0,0,0,0,false,(⟨#[]⟩:ByteArray)⟩:ae_),false)
      else
        bif (decide ((a0.size:Int)<(IntKind.wrap .i64 (a2+11)))) then
          some ((⟨0,0,0,0,0,0,0,false,(⟨#[]⟩:ByteArray)⟩:ae_),false)
        else
          (wnd a0.size a2 (a0.size:Int)).bind fun p1=>
          (tl_ (a0.extract p1.1 p1.2) 0).bind fun c2=>
          (tl_ (a0.extract p1.1 p1.2) 1).bind fun c3=>
          (wnd (a0.extract p1.1 p1.2).size 2 4).bind fun p4=>
          (j0_ k ((a0.extract p1.1 p1.2).extract p4.1 p4.2)).bind fun r5=>
          (wnd (a0.extract p1.1 p1.2).size 4 6).bind fun p6=>
          (j0_ k ((a0.extract p1.1 p1.2).extract p6.1 p6.2)).bind fun r7=>
          bif ((IntKind.wrap .i64 (c2.toNat:Int))==1) then
            (wnd (a0.extract p1.1 p1.2).size 6 10).bind fun p8=>
            (j0_ k ((a0.extract p1.1 p1.2).extract p8.1 p8.2)).bind fun r9=>
            (tl_ (a0.extract p1.1 p1.2) 10).bind fun c10=>
            bu_ k a0 a1 a2 0 0 0 0 0 0 0 false (⟨#[]⟩:ByteArray) (IntKind.wrap .i64 (c2.toNat:Int)) (IntKind.wrap .i64 (c3.toNat:Int)) r5 r7 r9 (IntKind.wrap .i64 (c10.toNat:Int)) 0 false (⟨#[]⟩:ByteArray)
          else
            bif ((IntKind.wrap .i64 (c2.toNat:Int))==2) then
              (wnd (a0.extract p1.1 p1.2).size 6 10).bind fun p11=>
              (j0_ k ((a0.extract p1.1 p1.2).extract p11.1 p11.2)).bind fun r12=>
              (tl_ (a0.extract p1.1 p1.2) 10).bind fun c13=>
              (wnd (a0.extract p1.1 p1.2).size 11 ((a0.extract p1.1 p1.2).size:Int)).bind fun p14=>
              bu_ k a0 a1 a2 0 0 0 0 0 0 0 false (⟨#[]⟩:ByteArray) (IntKind.wrap .i64 (c2.toNat:Int)) (IntKind.wrap .i64 (c3.toNat:Int)) r5 r7 0 0 r12 ((c13.toNat:Int)==1) ((a0.extract p1.1 p1.2).extract p14.1 p14.2)
            else
              bu_ k a0 a1 a2 0 0 0 0 0 0 0 false (⟨#[]⟩:ByteArray) (IntKind.wrap .i64 (c2.toNat:Int)) (IntKind.wrap .i64 (c3.toNat:Int)) r5 r7 0 0 0 false (⟨#[]⟩:ByteArray)
mutual
def cS_:Nat→Int→Int→Int→Int→Int→List ag_→List ag_→Option (aj_)
  | 0,_,_,_,_,_,_,_=>none
  | k+1,x0,x1,x2,x3,x4,x5,x6=>
    bif (decide (x2<(x6.length:Int))) then
      (idx x6 x2).bind fun _=>
      (x6[(Int.toNat x2)]?).bind fun y3=>
      bif (decide (y3.Since≥0)) then
        cS_ k x0 x1 (IntKind.wrap .i64 (x2+1)) x3 x4 x5 x6
      else
        bif (decide (x0<x4)) then
          some (⟨x4,x6⟩:aj_)
        else
          bif (decide (x0>(IntKind.wrap .i64 (x4+x2)))) then
            some (⟨x4,x6⟩:aj_)
          else
            (aN_ k x1 0 255).bind fun r4=>
            bif (!r4) then
              some (⟨x4,x6⟩:aj_)
            else
              (wnd x6.length (IntKind.wrap .i64 (x0-x4)) (x6.length:Int)).bind fun p5=>
              (app 40 ([]:List ag_) (dY_ x6 p5.1 p5.2)).bind fun l6=>
              by_ k x1 0 x3 x0 x5 l6
    else
      bif (decide (x0<x4)) then
        some (⟨x4,x6⟩:aj_)
      else
        bif (decide (x0>(IntKind.wrap .i64 (x4+x2)))) then
          some (⟨x4,x6⟩:aj_)
        else
          (aN_ k x1 0 255).bind fun r7=>
          bif (!r7) then
            some (⟨x4,x6⟩:aj_)
          else
            (wnd x6.length (IntKind.wrap .i64 (x0-x4)) (x6.length:Int)).bind fun p8=>
            (app 40 ([]:List ag_) (dY_ x6 p8.1 p8.2)).bind fun l9=>
            by_ k x1 0 x3 x0 x5 l9
def by_:Nat→Int→Int→Int→Int→List ag_→List ag_→Option (aj_)
  | 0,_,_,_,_,_,_=>none
  | k+1,x0,x1,x2,x3,x4,x5=>
    bif (decide (x1<8)) then
      bif (decide (x1<(x5.length:Int))) then
        (shift .shr .i64 x0 x1).bind fun s10=>
        bif ((zY_ .i64 s10 1)==1) then
          (idx x5 x1).bind fun _=>
          (x5[(Int.toNat x1)]?).bind fun y11=>
          bif (decide (y11.Since≥0)) then
            (idx x5 x1).bind fun _=>
            (x5[(Int.toNat x1)]?).bind fun y12=>
            ct_ k x0 x1 x2 x3 x4 (x5.set (Int.toNat x1) (⟨y12.Part,true,y12.Since⟩:ag_))
          else
            ct_ k x0 x1 x2 x3 x4 x5
        else
          ct_ k x0 x1 x2 x3 x4 x5
      else
        some (⟨x3,x5⟩:aj_)
    else
      some (⟨x3,x5⟩:aj_)
def ct_:Nat→Int→Int→Int→Int→List ag_→List ag_→Option (aj_)
  | 0,_,_,_,_,_,_=>none
  | k+1,x0,x1,x2,x3,x4,x5=>
    by_ k x0 (IntKind.wrap .i64 (x1+1)) x2 x3 x4 x5
end
def gG_ (k:Nat) (a0:aj_) (a1:Int) (a2:Int):Option (aj_):=
  (bn_ k a0).bind fun r1=>
  bif (!r1) then
    some (⟨0,([]:List ag_)⟩:aj_)
  else
    (ey_ k a0).bind fun r2=>
    cS_ k a1 a2 0 0 r2.Base ([]:List ag_) r2.Items
def fh_:Nat→Int→ByteArray→Int→ByteArray→List ak_→List ByteArray→List ak_→List ByteArray→Option (ai_)
  | 0,_,_,_,_,_,_,_,_=>none
  | k+1,x0,x1,x2,x3,x4,x5,x6,x7=>
    bif (decide ((x4.length:Int)>0)) then
      (idx x4 0).bind fun _=>
      (x4[(Int.toNat 0)]?).bind fun y1=>
      bif (y1.Seq==x0) then
        (idx x4 0).bind fun _=>
        (x4[(Int.toNat 0)]?).bind fun y2=>
        (gQ_ k (⟨x0,x4,x1,x5⟩:ai_) y2.Part).bind fun r3=>
        bif r3 then
          (idx x4 0).bind fun _=>
          (x4[(Int.toNat 0)]?).bind fun y4=>
          (wnd x4.length 1 (x4.length:Int)).bind fun p5=>
          (app 32 ([]:List ak_) (dY_ x4 p5.1 p5.2)).bind fun l6=>
          (jO_ x1 y4.Part.Text).bind fun t7=>
          bif y4.Part.Last then
            (app 16 x5 ([t7]:List ByteArray)).bind fun l8=>
            fh_ k (IntKind.wrap .i64 (x0+1)) (⟨#[]⟩:ByteArray) x2 x3 l6 l8 x6 x7
          else
            fh_ k (IntKind.wrap .i64 (x0+1)) t7 x2 x3 l6 x5 x6 x7
        else
          some (⟨x0,x4,x1,x5⟩:ai_)
      else
        some (⟨x0,x4,x1,x5⟩:ai_)
    else
      some (⟨x0,x4,x1,x5⟩:ai_)
def fw_ (k:Nat) (a0:ai_):Option (ai_):=
  fh_ k a0.Next a0.Open 0 (⟨#[]⟩:ByteArray) a0.Held a0.Ready ([]:List ak_) ([]:List ByteArray)
def cK_:Nat→Int→Int→ByteArray→Bool→Int→ByteArray→Int→ByteArray→List ak_→List ByteArray→List ak_→List ByteArray→Option (ai_)
  | 0,_,_,_,_,_,_,_,_,_,_,_,_=>none
  | k+1,x0,x1,x2,x3,x4,x5,x6,x7,x8,x9,x10,x11=>
    bif (decide (x1<(x10.length:Int))) then
      (idx x10 x1).bind fun _=>
      (x10[(Int.toNat x1)]?).bind fun y4=>
      bif (decide (y4.Seq<x0)) then
        cK_ k x0 (IntKind.wrap .i64 (x1+1)) x2 x3 x4 x5 x6 x7 x8 x9 x10 x11
      else
        bif (decide (x1<(x10.length:Int))) then
          (idx x10 x1).bind fun _=>
          (x10[(Int.toNat x1)]?).bind fun y5=>
          bif (y5.Seq==x0) then
            some (⟨x6,x10,x7,x11⟩:ai_)
          else
            (app 32 x10 ([(⟨0,(⟨(⟨#[]⟩:ByteArray),false⟩:aA_)⟩:ak_)]:List ak_)).bind fun l6=>
            (wnd l6.length (IntKind.wrap .i64 (x1+1)) (l6.length:Int)).bind fun p7=>
            (wnd l6.length x1 (l6.length:Int)).bind fun p8=>
            (idx (cpy l6 p7.1 p7.2 (dY_ l6 p8.1 p8.2)) x1).bind fun _=>
            ((cpy l6 p7.1 p7.2 (dY_ l6 p8.1 p8.2))[(Int.toNat x1)]?).bind fun y9=>
            (fw_ k (⟨x6,((cpy l6 p7.1 p7.2 (dY_ l6 p8.1 p8.2)).set (Int.toNat x1) (⟨x0,(⟨x2,x3⟩:aA_)⟩:ak_)),x7,x11⟩:ai_)).bind fun r10=>
            some r10
        else
          (app 32 x10 ([(⟨0,(⟨(⟨#[]⟩:ByteArray),false⟩:aA_)⟩:ak_)]:List ak_)).bind fun l11=>
          (wnd l11.length (IntKind.wrap .i64 (x1+1)) (l11.length:Int)).bind fun p12=>
          (wnd l11.length x1 (l11.length:Int)).bind fun p13=>
          (idx (cpy l11 p12.1 p12.2 (dY_ l11 p13.1 p13.2)) x1).bind fun _=>
          ((cpy l11 p12.1 p12.2 (dY_ l11 p13.1 p13.2))[(Int.toNat x1)]?).bind fun y14=>
          (fw_ k (⟨x6,((cpy l11 p12.1 p12.2 (dY_ l11 p13.1 p13.2)).set (Int.toNat x1) (⟨x0,(⟨x2,x3⟩:aA_)⟩:ak_)),x7,x11⟩:ai_)).bind fun r15=>
          some r15
    else
      bif (decide (x1<(x10.length:Int))) then
        (idx x10 x1).bind fun _=>
        (x10[(Int.toNat x1)]?).bind fun y16=>
        bif (y16.Seq==x0) then
          some (⟨x6,x10,x7,x11⟩:ai_)
        else
          (app 32 x10 ([(⟨0,(⟨(⟨#[]⟩:ByteArray),false⟩:aA_)⟩:ak_)]:List ak_)).bind fun l17=>
          (wnd l17.length (IntKind.wrap .i64 (x1+1)) (l17.length:Int)).bind fun p18=>
          (wnd l17.length x1 (l17.length:Int)).bind fun p19=>
          (idx (cpy l17 p18.1 p18.2 (dY_ l17 p19.1 p19.2)) x1).bind fun _=>
          ((cpy l17 p18.1 p18.2 (dY_ l17 p19.1 p19.2))[(Int.toNat x1)]?).bind fun y20=>
          (fw_ k (⟨x6,((cpy l17 p18.1 p18.2 (dY_ l17 p19.1 p19.2)).set (Int.toNat x1) (⟨x0,(⟨x2,x3⟩:aA_)⟩:ak_)),x7,x11⟩:ai_)).bind fun r21=>
          some r21
      else
        (app 32 x10 ([(⟨0,(⟨(⟨#[]⟩:ByteArray),false⟩:aA_)⟩:ak_)]:List ak_)).bind fun l22=>
        (wnd l22.length (IntKind.wrap .i64 (x1+1)) (l22.length:Int)).bind fun p23=>
        (wnd l22.length x1 (l22.length:Int)).bind fun p24=>
        (idx (cpy l22 p23.1 p23.2 (dY_ l22 p24.1 p24.2)) x1).bind fun _=>
        ((cpy l22 p23.1 p23.2 (dY_ l22 p24.1 p24.2))[(Int.toNat x1)]?).bind fun y25=>
        (fw_ k (⟨x6,((cpy l22 p23.1 p23.2 (dY_ l22 p24.1 p24.2)).set (Int.toNat x1) (⟨x0,(⟨x2,x3⟩:aA_)⟩:ak_)),x7,x11⟩:ai_)).bind fun r26=>
        some r26
def gF_ (k:Nat) (a0:ai_) (a1:Int) (a2:aA_):Option (ai_):=
  (bP_ k a0).bind fun r1=>
  bif (!r1) then
    some (⟨0,([]:List ak_),(⟨#[]⟩:ByteArray),([]:List ByteArray)⟩:ai_)
  else
    (ft_ k a0).bind fun r2=>
    (aN_ k a1 a0.Next (IntKind.wrap .i64 ((IntKind.wrap .i64 (a0.Next+8))-1))).bind fun r3=>
    bif (!r3) then
      some r2
    else
      bif (decide (a1>999999)) then
        some r2
      else
        bif (decide ((a2.Text.size:Int)>20)) then
          some r2
        else
          cK_ k a1 0 a2.Text a2.Last 0 (⟨#[]⟩:ByteArray) r2.Next r2.Open ([]:List ak_) ([]:List ByteArray) r2.Held r2.Ready
def gP_:Nat→ByteArray→List aA_→Option (List aA_)
  | 0,_,_=>none
  | k+1,x0,x1=>
    bif (decide ((x0.size:Int)>20)) then
      (wnd x0.size 0 20).bind fun p1=>
      (app 24 x1 ([(⟨(x0.extract p1.1 p1.2),false⟩:aA_)]:List aA_)).bind fun l2=>
      (wnd x0.size 20 (x0.size:Int)).bind fun p3=>
      gP_ k (x0.extract p3.1 p3.2) l2
    else
      (app 24 x1 ([(⟨x0,true⟩:aA_)]:List aA_)).bind fun l4=>
      some l4
def lQ_ (k:Nat) (a0:ByteArray):Option (List aA_):=
  bif (decide ((a0.size:Int)>200)) then
    some ([]:List aA_)
  else
    gP_ k a0 ([]:List aA_)
def cL_:Nat→Int→Int→Int→Int→List aA_→List ag_→List ag_→Option (aj_×Int)
  | 0,_,_,_,_,_,_,_=>none
  | k+1,x0,x1,x2,x3,x4,x5,x6=>
    bif (decide (x1<x0)) then
      (idx x4 x1).bind fun _=>
      (x4[(Int.toNat x1)]?).bind fun y4=>
      (app 40 x6 ([(⟨y4,false,(-1)⟩:ag_)]:List ag_)).bind fun l5=>
      cL_ k x0 (IntKind.wrap .i64 (x1+1)) x2 x3 x4 x5 l5
    else
      some ((⟨x3,x6⟩:aj_),0)
def gA_ (k:Nat) (a0:aj_) (a1:ByteArray):Option (aj_×Int):=
  (bn_ k a0).bind fun r1=>
  bif (!r1) then
    some ((⟨0,([]:List ag_)⟩:aj_),1)
  else
    bif (decide ((a1.size:Int)>200)) then
      some ((⟨0,([]:List ag_)⟩:aj_),1)
    else
      (lQ_ k a1).bind fun r2=>
      bif (decide ((IntKind.wrap .i64 ((a0.Items.length:Int)+(r2.length:Int)))>60)) then
        some ((⟨0,([]:List ag_)⟩:aj_),3)
      else
        bif (decide ((IntKind.wrap .i64 (a0.Base+(IntKind.wrap .i64 ((a0.Items.length:Int)+(r2.length:Int)))))>1000000)) then
          some ((⟨0,([]:List ag_)⟩:aj_),3)
        else
          (ey_ k a0).bind fun r3=>
          cL_ k (r2.length:Int) 0 0 r3.Base r2 ([]:List ag_) r3.Items
def gE_ (k:Nat) (a0:ai_):Option (ai_×ByteArray×Bool):=
  (bP_ k a0).bind fun r1=>
  bif (!r1) then
    some ((⟨0,([]:List ak_),(⟨#[]⟩:ByteArray),([]:List ByteArray)⟩:ai_),(⟨#[]⟩:ByteArray),false)
  else
    (ft_ k a0).bind fun r2=>
    bif ((r2.Ready.length:Int)==0) then
      some (r2,(⟨#[]⟩:ByteArray),false)
    else
      (idx r2.Ready 0).bind fun _=>
      (r2.Ready[(Int.toNat 0)]?).bind fun y3=>
      (wnd r2.Ready.length 1 (r2.Ready.length:Int)).bind fun p4=>
      (app 16 ([]:List ByteArray) (dY_ r2.Ready p4.1 p4.2)).bind fun l5=>
      (fw_ k (⟨r2.Next,r2.Held,r2.Open,l5⟩:ai_)).bind fun r6=>
      some (r6,y3,true)
def aM_:Nat→Int→Int→List ag_→Option (Bool)
  | 0,_,_,_=>none
  | k+1,x0,x1,x2=>
    bif (decide (x0<(x2.length:Int))) then
      (idx x2 x0).bind fun y2=>
      bif (decide ((y2.Part.Text.size:Int)>20)) then
        some false
      else
        (az_ k y2.Since (-1) 3).bind fun r3=>
        bif (!r3) then
          some false
        else
          bif (decide (x0≥8)) then
            bif (y2.Since !=(-1)) then
              some false
            else
              bif y2.Has then
                bif (decide (y2.Since<0)) then
                  some false
                else
                  aM_ k (IntKind.wrap .i64 (x0+1)) x1 x2
              else
                aM_ k (IntKind.wrap .i64 (x0+1)) x1 x2
          else
            bif y2.Has then
              bif (decide (y2.Since<0)) then
                some false
              else
                aM_ k (IntKind.wrap .i64 (x0+1)) x1 x2
            else
              aM_ k (IntKind.wrap .i64 (x0+1)) x1 x2
    else
      some true
def bA_ (k:Nat) (a0:aj_):Option (Bool):=
  bif (decide ((a0.Items.length:Int)>60)) then
    some false
  else
    (az_ k a0.Base 0 1000000).bind fun r1=>
    bif (!r1) then
      some false
    else
      bif (decide ((IntKind.wrap .i64 (a0.Base+(a0.Items.length:Int)))>1000000)) then
        some false
      else
        aM_ k 0 a0.Base a0.Items
def g0_ (k:Nat) (a0:ai_) (a1:Int):Option (Bool):=
  (az_ k a1 a0.Next (IntKind.wrap .i64 ((IntKind.wrap .i64 (a0.Next+8))-1))).bind fun r1=>
  bif r1 then
    some (decide (a1≤999999))
  else
    some false
def ff_ (k:Nat) (a0:ai_) (a1:aA_):Option (Bool):=
  bif (decide ((IntKind.wrap .i64 ((a0.Open.size:Int)+(a1.Text.size:Int)))≤200)) then
    bif (!a1.Last) then
      some true
    else
      some (decide ((a0.Ready.length:Int)<4))
  else
    some false
mutual
def cu_:Nat→Int→Int→List ak_→ByteArray→List ByteArray→Option (Bool)
  | 0,_,_,_,_,_=>none
  | k+1,x0,x1,x2,x3,x4=>
    bif (decide (x0<(x4.length:Int))) then
      (idx x4 x0).bind fun y2=>
      bif (decide ((y2.size:Int)>200)) then
        some false
      else
        cu_ k (IntKind.wrap .i64 (x0+1)) x1 x2 x3 x4
    else
      aL_ k 0 x1 x2 x3 x4
def aL_:Nat→Int→Int→List ak_→ByteArray→List ByteArray→Option (Bool)
  | 0,_,_,_,_,_=>none
  | k+1,x0,x1,x2,x3,x4=>
    bif (decide (x0<(x2.length:Int))) then
      (idx x2 x0).bind fun y3=>
      (g0_ k (⟨x1,x2,x3,x4⟩:ai_) y3.Seq).bind fun r4=>
      bif (!r4) then
        some false
      else
        bif (decide ((y3.Part.Text.size:Int)>20)) then
          some false
        else
          bif (decide (x0>0)) then
            (idx x2 (IntKind.wrap .i64 (x0-1))).bind fun y5=>
            bif (decide (y5.Seq≥y3.Seq)) then
              some false
            else
              bif (y3.Seq==x1) then
                (ff_ k (⟨x1,x2,x3,x4⟩:ai_) y3.Part).bind fun r6=>
                bif r6 then
                  some false
                else
                  aL_ k (IntKind.wrap .i64 (x0+1)) x1 x2 x3 x4
              else
                aL_ k (IntKind.wrap .i64 (x0+1)) x1 x2 x3 x4
          else
            bif (y3.Seq==x1) then
              (ff_ k (⟨x1,x2,x3,x4⟩:ai_) y3.Part).bind fun r7=>
              bif r7 then
                some false
              else
                aL_ k (IntKind.wrap .i64 (x0+1)) x1 x2 x3 x4
            else
              aL_ k (IntKind.wrap .i64 (x0+1)) x1 x2 x3 x4
    else
      some true
end
def c7_ (k:Nat) (a0:ai_):Option (Bool):=
  (az_ k a0.Next 0 1000000).bind fun r1=>
  bif (!r1) then
    some false
  else
    bif (decide ((a0.Held.length:Int)>8)) then
      some false
    else
      bif (decide ((a0.Open.size:Int)>200)) then
        some false
      else
        bif (decide ((a0.Ready.length:Int)>4)) then
          some false
        else
          cu_ k 0 a0.Next a0.Held a0.Open a0.Ready
def ep_ (k:Nat) (a0:aj_):Option (aj_):=
  (app 40 ([]:List ag_) a0.Items).bind fun l1=>
  some (⟨a0.Base,l1⟩:aj_)
def e6_ (k:Nat) (a0:ai_):Option (ai_):=
  (app 32 ([]:List ak_) a0.Held).bind fun l1=>
  (app 16 ([]:List ByteArray) a0.Ready).bind fun l2=>
  some (⟨a0.Next,l1,a0.Open,l2⟩:ai_)
mutual
def cP_:Nat→Int→Int→List ag_→Int→List Int→Int→List ag_→List ag_→Option (aj_×List Int)
  | 0,_,_,_,_,_,_,_,_=>none
  | k+1,x0,x1,x2,x3,x4,x5,x6,x7=>
    bif (decide (x0<(x7.length:Int))) then
      bif (decide (x0<8)) then
        (idx x7 x0).bind fun _=>
        (x7[(Int.toNat x0)]?).bind fun y3=>
        bif y3.Has then
          ca_ k x0 x1 x2 x3 x4 x5 x6 x7
        else
          bif (y3.Since==(-1)) then
            (app 8 x4 ([(IntKind.wrap .i64 (x1+x0))]:List Int)).bind fun l4=>
            (idx x7 x0).bind fun _=>
            (x7[(Int.toNat x0)]?).bind fun y5=>
            ca_ k x0 x1 x2 x3 l4 x5 x6 (x7.set (Int.toNat x0) (⟨y5.Part,y5.Has,0⟩:ag_))
          else
            bif (y3.Since==3) then
              (app 8 x4 ([(IntKind.wrap .i64 (x1+x0))]:List Int)).bind fun l6=>
              (idx x7 x0).bind fun _=>
              (x7[(Int.toNat x0)]?).bind fun y7=>
              ca_ k x0 x1 x2 x3 l6 x5 x6 (x7.set (Int.toNat x0) (⟨y7.Part,y7.Has,0⟩:ag_))
            else
              (idx x7 x0).bind fun _=>
              (x7[(Int.toNat x0)]?).bind fun y8=>
              ca_ k x0 x1 x2 x3 x4 x5 x6 (x7.set (Int.toNat x0) (⟨y8.Part,y8.Has,(IntKind.wrap .i64 (y3.Since+1))⟩:ag_))
      else
        some ((⟨x5,x7⟩:aj_),x4)
    else
      some ((⟨x5,x7⟩:aj_),x4)
def ca_:Nat→Int→Int→List ag_→Int→List Int→Int→List ag_→List ag_→Option (aj_×List Int)
  | 0,_,_,_,_,_,_,_,_=>none
  | k+1,x0,x1,x2,x3,x4,x5,x6,x7=>
    cP_ k (IntKind.wrap .i64 (x0+1)) x1 x2 x3 x4 x5 x6 x7
end
def fB_ (k:Nat) (a0:aj_):Option (aj_×List Int):=
  (bA_ k a0).bind fun r1=>
  bif (!r1) then
    some ((⟨0,([]:List ag_)⟩:aj_),([]:List Int))
  else
    (ep_ k a0).bind fun r2=>
    cP_ k 0 a0.Base a0.Items 0 ([]:List Int) r2.Base ([]:List ag_) r2.Items
mutual
def cc_:Nat→Int→Int→Int→List ak_→ByteArray→List ByteArray→Option (Int×Int)
  | 0,_,_,_,_,_,_=>none
  | k+1,x0,x1,x2,x3,x4,x5=>
    bif (decide (x1<(x3.length:Int))) then
      cR_ k x0 x1 1 x2 x2 x3 x4 x5
    else
      some (x2,x0)
def cR_:Nat→Int→Int→Int→Int→Int→List ak_→ByteArray→List ByteArray→Option (Int×Int)
  | 0,_,_,_,_,_,_,_,_=>none
  | k+1,x0,x1,x2,x3,x4,x5,x6,x7=>
    (idx x5 x1).bind fun y2=>
    bif (decide (x3<y2.Seq)) then
      cR_ k x0 x1 (IntKind.wrap .i64 (x2*2)) (IntKind.wrap .i64 (x3+1)) x4 x5 x6 x7
    else
      cc_ k (IntKind.wrap .i64 (x0+x2)) (IntKind.wrap .i64 (x1+1)) x4 x5 x6 x7
end
def eA_ (k:Nat) (a0:ai_):Option (Int×Int):=
  (c7_ k a0).bind fun r1=>
  bif (!r1) then
    some (0,0)
  else
    cc_ k 0 0 a0.Next a0.Held a0.Open a0.Ready
def dl_:Nat→Int→Int→List ag_→Option (Int)
  | 0,_,_,_=>none
  | k+1,x0,x1,x2=>
    bif (decide (x0<(x2.length:Int))) then
      (idx x2 x0).bind fun y1=>
      bif (decide (y1.Since≥0)) then
        dl_ k (IntKind.wrap .i64 (x0+1)) x1 x2
      else
        some x0
    else
      some x0
def nh_ (k:Nat) (a0:aj_):Option (Int):=
  dl_ k 0 a0.Base a0.Items
mutual
def bq_:Nat→Int→Int→Int→Int→List ag_→List ag_→Option (aj_)
  | 0,_,_,_,_,_,_=>none
  | k+1,x0,x1,x2,x3,x4,x5=>
    bif (decide (x1<8)) then
      (rX_ x0 2).bind fun q7=>
      bif (q7==1) then
        bif (decide (x1<(x5.length:Int))) then
          (idx x5 x1).bind fun _=>
          (x5[(Int.toNat x1)]?).bind fun y8=>
          bif (decide (y8.Since≥0)) then
            (idx x5 x1).bind fun _=>
            (x5[(Int.toNat x1)]?).bind fun y9=>
            be_ k x0 x1 x2 x3 x4 (x5.set (Int.toNat x1) (⟨y9.Part,true,y9.Since⟩:ag_))
          else
            be_ k x0 x1 x2 x3 x4 x5
        else
          be_ k x0 x1 x2 x3 x4 x5
      else
        be_ k x0 x1 x2 x3 x4 x5
    else
      some (⟨x3,x5⟩:aj_)
def be_:Nat→Int→Int→Int→Int→List ag_→List ag_→Option (aj_)
  | 0,_,_,_,_,_,_=>none
  | k+1,x0,x1,x2,x3,x4,x5=>
    (x9_ x0 2).bind fun q10=>
    bq_ k (IntKind.wrap .i64 (q10)) (IntKind.wrap .i64 (x1+1)) x2 x3 x4 x5
end
def fF_ (k:Nat) (a0:aj_) (a1:Int) (a2:Int):Option (aj_):=
  (bA_ k a0).bind fun r1=>
  bif (!r1) then
    some (⟨0,([]:List ag_)⟩:aj_)
  else
    (ep_ k a0).bind fun r2=>
    bif (decide (a1<a0.Base)) then
      some r2
    else
      (nh_ k a0).bind fun r3=>
      bif (decide (a1>(IntKind.wrap .i64 (a0.Base+r3)))) then
        some r2
      else
        (az_ k a2 0 255).bind fun r4=>
        bif (!r4) then
          some r2
        else
          (wnd r2.Items.length (IntKind.wrap .i64 (a1-a0.Base)) (r2.Items.length:Int)).bind fun p5=>
          (app 40 ([]:List ag_) (dY_ r2.Items p5.1 p5.2)).bind fun l6=>
          bq_ k a2 0 0 a1 ([]:List ag_) l6
def c0_:Nat→Int→ByteArray→Int→ByteArray→List ak_→List ByteArray→List ak_→List ByteArray→Option (ai_)
  | 0,_,_,_,_,_,_,_,_=>none
  | k+1,x0,x1,x2,x3,x4,x5,x6,x7=>
    bif (decide ((x4.length:Int)>0)) then
      (idx x4 0).bind fun _=>
      (x4[(Int.toNat 0)]?).bind fun y1=>
      bif (y1.Seq==x0) then
        (idx x4 0).bind fun _=>
        (x4[(Int.toNat 0)]?).bind fun y2=>
        (ff_ k (⟨x0,x4,x1,x5⟩:ai_) y2.Part).bind fun r3=>
        bif r3 then
          (idx x4 0).bind fun _=>
          (x4[(Int.toNat 0)]?).bind fun y4=>
          (wnd x4.length 1 (x4.length:Int)).bind fun p5=>
          (app 32 ([]:List ak_) (dY_ x4 p5.1 p5.2)).bind fun l6=>
          (jO_ x1 y4.Part.Text).bind fun t7=>
          bif y4.Part.Last then
            (app 16 x5 ([t7]:List ByteArray)).bind fun l8=>
            c0_ k (IntKind.wrap .i64 (x0+1)) (⟨#[]⟩:ByteArray) x2 x3 l6 l8 x6 x7
          else
            c0_ k (IntKind.wrap .i64 (x0+1)) t7 x2 x3 l6 x5 x6 x7
        else
          some (⟨x0,x4,x1,x5⟩:ai_)
      else
        some (⟨x0,x4,x1,x5⟩:ai_)
    else
      some (⟨x0,x4,x1,x5⟩:ai_)
def i0_ (k:Nat) (a0:ai_):Option (ai_):=
  c0_ k a0.Next a0.Open 0 (⟨#[]⟩:ByteArray) a0.Held a0.Ready ([]:List ak_) ([]:List ByteArray)
mutual
def bp_:Nat→Int→Bool→Int→Int→List ak_→ByteArray→List ByteArray→ByteArray→Bool→Int→ByteArray→Int→ByteArray→List ak_→List ak_→List ByteArray→List ak_→List ByteArray→Option (ai_)
  | 0,_,_,_,_,_,_,_,_,_,_,_,_,_,_,_,_,_,_=>none
  | k+1,x0,x1,x2,x3,x4,x5,x6,x7,x8,x9,x10,x11,x12,x13,x14,x15,x16,x17=>
    bif (decide (x2<(x4.length:Int))) then
      (idx x4 x2).bind fun y4=>
      bif (y4.Seq==x0) then
        some (⟨x11,x16,x12,x17⟩:ai_)
      else
        bif (!x1) then
          (idx x4 x2).bind fun y5=>
          bif (decide (y5.Seq>x0)) then
            (app 32 x13 ([(⟨x0,(⟨x7,x8⟩:aA_)⟩:ak_)]:List ak_)).bind fun l6=>
            bH_ k x0 true x2 x3 x4 x5 x6 x7 x8 x9 x10 x11 x12 l6 x14 x15 x16 x17
          else
            bH_ k x0 x1 x2 x3 x4 x5 x6 x7 x8 x9 x10 x11 x12 x13 x14 x15 x16 x17
        else
          bH_ k x0 x1 x2 x3 x4 x5 x6 x7 x8 x9 x10 x11 x12 x13 x14 x15 x16 x17
    else
      bif (!x1) then
        (app 32 x13 ([(⟨x0,(⟨x7,x8⟩:aA_)⟩:ak_)]:List ak_)).bind fun l7=>
        dk_ k x9 x10 x11 x12 l7 x14 x15 x16 x17
      else
        dk_ k x9 x10 x11 x12 x13 x14 x15 x16 x17
def bH_:Nat→Int→Bool→Int→Int→List ak_→ByteArray→List ByteArray→ByteArray→Bool→Int→ByteArray→Int→ByteArray→List ak_→List ak_→List ByteArray→List ak_→List ByteArray→Option (ai_)
  | 0,_,_,_,_,_,_,_,_,_,_,_,_,_,_,_,_,_,_=>none
  | k+1,x0,x1,x2,x3,x4,x5,x6,x7,x8,x9,x10,x11,x12,x13,x14,x15,x16,x17=>
    (idx x4 x2).bind fun y8=>
    (app 32 x13 ([y8]:List ak_)).bind fun l9=>
    bp_ k x0 x1 (IntKind.wrap .i64 (x2+1)) x3 x4 x5 x6 x7 x8 x9 x10 x11 x12 l9 x14 x15 x16 x17
def dk_:Nat→Int→ByteArray→Int→ByteArray→List ak_→List ak_→List ByteArray→List ak_→List ByteArray→Option (ai_)
  | 0,_,_,_,_,_,_,_,_,_=>none
  | k+1,x0,x1,x2,x3,x4,x5,x6,x7,x8=>
    (i0_ k (⟨x2,x4,x3,x8⟩:ai_)).bind fun r10=>
    some r10
end
def fm_ (k:Nat) (a0:ai_) (a1:Int) (a2:aA_):Option (ai_):=
  (c7_ k a0).bind fun r1=>
  bif (!r1) then
    some (⟨0,([]:List ak_),(⟨#[]⟩:ByteArray),([]:List ByteArray)⟩:ai_)
  else
    (e6_ k a0).bind fun r2=>
    (g0_ k a0 a1).bind fun r3=>
    bif (!r3) then
      some r2
    else
      bif (decide ((a2.Text.size:Int)>20)) then
        some r2
      else
        bp_ k a1 false 0 a0.Next a0.Held a0.Open a0.Ready a2.Text a2.Last 0 (⟨#[]⟩:ByteArray) r2.Next r2.Open ([]:List ak_) ([]:List ak_) ([]:List ByteArray) r2.Held r2.Ready
def e8_:Nat→ByteArray→List aA_→Option (List aA_)
  | 0,_,_=>none
  | k+1,x0,x1=>
    bif (decide ((x0.size:Int)>20)) then
      (wnd x0.size 0 20).bind fun p1=>
      (app 24 x1 ([(⟨(x0.extract p1.1 p1.2),false⟩:aA_)]:List aA_)).bind fun l2=>
      (wnd x0.size 20 (x0.size:Int)).bind fun p3=>
      e8_ k (x0.extract p3.1 p3.2) l2
    else
      (app 24 x1 ([(⟨x0,true⟩:aA_)]:List aA_)).bind fun l4=>
      some l4
def jV_ (k:Nat) (a0:ByteArray):Option (List aA_):=
  bif (decide ((a0.size:Int)>200)) then
    some ([]:List aA_)
  else
    e8_ k a0 ([]:List aA_)
def cQ_:Nat→Int→Int→List aA_→Int→List ag_→List ag_→Option (aj_×Int)
  | 0,_,_,_,_,_,_=>none
  | k+1,x0,x1,x2,x3,x4,x5=>
    bif (decide (x0<(x2.length:Int))) then
      (idx x2 x0).bind fun _=>
      (x2[(Int.toNat x0)]?).bind fun y4=>
      (app 40 x5 ([(⟨y4,false,(-1)⟩:ag_)]:List ag_)).bind fun l5=>
      cQ_ k (IntKind.wrap .i64 (x0+1)) x1 x2 x3 x4 l5
    else
      some ((⟨x3,x5⟩:aj_),0)
def dB_ (k:Nat) (a0:aj_) (a1:ByteArray):Option (aj_×Int):=
  (bA_ k a0).bind fun r1=>
  bif (!r1) then
    some ((⟨0,([]:List ag_)⟩:aj_),1)
  else
    bif (decide ((a1.size:Int)>200)) then
      some ((⟨0,([]:List ag_)⟩:aj_),1)
    else
      (jV_ k a1).bind fun r2=>
      bif (decide ((IntKind.wrap .i64 ((a0.Items.length:Int)+(r2.length:Int)))>60)) then
        some ((⟨0,([]:List ag_)⟩:aj_),3)
      else
        bif (decide ((IntKind.wrap .i64 (a0.Base+(IntKind.wrap .i64 ((a0.Items.length:Int)+(r2.length:Int)))))>1000000)) then
          some ((⟨0,([]:List ag_)⟩:aj_),3)
        else
          (ep_ k a0).bind fun r3=>
          cQ_ k 0 0 r2 r3.Base ([]:List ag_) r3.Items
def fq_ (k:Nat) (a0:ai_):Option (ai_×ByteArray×Bool):=
  (c7_ k a0).bind fun r1=>
  bif (!r1) then
    some ((⟨0,([]:List ak_),(⟨#[]⟩:ByteArray),([]:List ByteArray)⟩:ai_),(⟨#[]⟩:ByteArray),false)
  else
    (e6_ k a0).bind fun r2=>
    bif ((r2.Ready.length:Int)==0) then
      some (r2,(⟨#[]⟩:ByteArray),false)
    else
      (idx r2.Ready 0).bind fun _=>
      (r2.Ready[(Int.toNat 0)]?).bind fun y3=>
      (wnd r2.Ready.length 1 (r2.Ready.length:Int)).bind fun p4=>
      (app 16 ([]:List ByteArray) (dY_ r2.Ready p4.1 p4.2)).bind fun l5=>
      (i0_ k (⟨r2.Next,r2.Held,r2.Open,l5⟩:ai_)).bind fun r6=>
      some (r6,y3,true)
def ez_:Nat→Int→Int→List ag_→Int→List ag_→Option (Bool)
  | 0,_,_,_,_,_=>none
  | k+1,x0,x1,x2,x3,x4=>
    bif (decide (x0<(x2.length:Int))) then
      (idx x2 x0).bind fun y1=>
      (idx x4 x0).bind fun y2=>
      bif (!(((y1.Part.Text.toList==y2.Part.Text.toList)&&((y1.Part.Last==y2.Part.Last)&&true))&&((y1.Has==y2.Has)&&(((y1.Since:Int)==y2.Since)&&true)))) then
        some false
      else
        ez_ k (IntKind.wrap .i64 (x0+1)) x1 x2 x3 x4
    else
      some true
def jW_ (k:Nat) (a0:aj_) (a1:aj_):Option (Bool):=
  bif (a0.Base !=a1.Base) then
    some false
  else
    bif ((a0.Items.length:Int) !=(a1.Items.length:Int)) then
      some false
    else
      ez_ k 0 a0.Base a0.Items a1.Base a1.Items
def dP_:Nat→List ByteArray→List ByteArray→Int→Option (Bool)
  | 0,_,_,_=>none
  | k+1,x0,x1,x2=>
    bif (decide (x2<(x0.length:Int))) then
      (idx x0 x2).bind fun y1=>
      (idx x1 x2).bind fun y2=>
      bif (!(y1.toList==y2.toList)) then
        some false
      else
        dP_ k x0 x1 (IntKind.wrap .i64 (x2+1))
    else
      some true
def g8_ (k:Nat) (a0:List ByteArray) (a1:List ByteArray):Option (Bool):=
  bif ((a0.length:Int) !=(a1.length:Int)) then
    some false
  else
    dP_ k a0 a1 0
def ew_:Nat→Int→Int→List ak_→ByteArray→List ByteArray→Int→List ak_→ByteArray→List ByteArray→Option (Bool)
  | 0,_,_,_,_,_,_,_,_,_=>none
  | k+1,x0,x1,x2,x3,x4,x5,x6,x7,x8=>
    bif (decide (x0<(x2.length:Int))) then
      (idx x2 x0).bind fun y2=>
      (idx x6 x0).bind fun y3=>
      bif (!(((y2.Seq:Int)==y3.Seq)&&(((y2.Part.Text.toList==y3.Part.Text.toList)&&((y2.Part.Last==y3.Part.Last)&&true))&&true))) then
        some false
      else
        ew_ k (IntKind.wrap .i64 (x0+1)) x1 x2 x3 x4 x5 x6 x7 x8
    else
      some true
def j5_ (k:Nat) (a0:ai_) (a1:ai_):Option (Bool):=
  bif (a0.Next !=a1.Next) then
    some false
  else
    bif (!(a0.Open.toList==a1.Open.toList)) then
      some false
    else
      (g8_ k a0.Ready a1.Ready).bind fun r1=>
      bif (!r1) then
        some false
      else
        bif ((a0.Held.length:Int) !=(a1.Held.length:Int)) then
          some false
        else
          ew_ k 0 a0.Next a0.Held a0.Open a0.Ready a1.Next a1.Held a1.Open a1.Ready
end Km.X
namespace Km.X
open Go Km
set_option linter.unusedVariables false
set_option maxRecDepth 100000
def gS_ (k:Nat) (a0:Int):Option (an_):=
  bif (a0 !=1) then
    bif (a0 !=2) then
      some (⟨0,false,0,0,0,false,(⟨0,([]:List ag_)⟩:aj_),(⟨0,([]:List ak_),(⟨#[]⟩:ByteArray),([]:List ByteArray)⟩:ai_)⟩:an_)
    else
      some (⟨a0,true,1,0,0,false,(⟨0,([]:List ag_)⟩:aj_),(⟨0,([]:List ak_),(⟨#[]⟩:ByteArray),([]:List ByteArray)⟩:ai_)⟩:an_)
  else
    some (⟨a0,true,1,0,0,false,(⟨0,([]:List ag_)⟩:aj_),(⟨0,([]:List ak_),(⟨#[]⟩:ByteArray),([]:List ByteArray)⟩:ai_)⟩:an_)
def gT_ (k:Nat) (a0:Int):Option (an_):=
  (az_ k a0 1 2).bind fun r1=>
  bif (!r1) then
    some (⟨0,false,0,0,0,false,(⟨0,([]:List ag_)⟩:aj_),(⟨0,([]:List ak_),(⟨#[]⟩:ByteArray),([]:List ByteArray)⟩:ai_)⟩:an_)
  else
    some (⟨a0,true,1,0,0,false,(⟨0,([]:List ag_)⟩:aj_),(⟨0,([]:List ak_),(⟨#[]⟩:ByteArray),([]:List ByteArray)⟩:ai_)⟩:an_)
def im_ (k:Nat) (a0:aj_):Option (Bool):=
  bif (a0.Base==0) then
    some ((a0.Items.length:Int)==0)
  else
    some false
def it_ (k:Nat) (a0:ai_):Option (Bool):=
  bif (a0.Next==0) then
    bif ((a0.Held.length:Int)==0) then
      bif (a0.Open.toList==(⟨#[]⟩:ByteArray).toList) then
        some ((a0.Ready.length:Int)==0)
      else
        some false
    else
      some false
  else
    some false
def bS_ (k:Nat) (a0:an_):Option (Bool):=
  bif (a0.Number !=1) then
    bif (a0.Number !=2) then
      some false
    else
      (aN_ k a0.Life 1 1000).bind fun r1=>
      bif (!r1) then
        some false
      else
        (aN_ k a0.Peer 0 1000).bind fun r2=>
        bif (!r2) then
          some false
        else
          (aN_ k a0.Since 0 1000000).bind fun r3=>
          bif (!r3) then
            some false
          else
            (bn_ k a0.Send).bind fun r4=>
            bif (!r4) then
              some false
            else
              (bP_ k a0.Take).bind fun r5=>
              bif (!r5) then
                some false
              else
                bif (a0.Peer==0) then
                  (im_ k a0.Send).bind fun r6=>
                  bif r6 then
                    (it_ k a0.Take).bind fun r7=>
                    bif (!r7) then
                      some false
                    else
                      bif a0.Up then
                        some true
                      else
                        bif (a0.Peer==0) then
                          bif (a0.Since==0) then
                            some (!a0.Owes)
                          else
                            some false
                        else
                          some false
                  else
                    some false
                else
                  bif a0.Up then
                    some true
                  else
                    bif (a0.Peer==0) then
                      bif (a0.Since==0) then
                        some (!a0.Owes)
                      else
                        some false
                    else
                      some false
  else
    (aN_ k a0.Life 1 1000).bind fun r8=>
    bif (!r8) then
      some false
    else
      (aN_ k a0.Peer 0 1000).bind fun r9=>
      bif (!r9) then
        some false
      else
        (aN_ k a0.Since 0 1000000).bind fun r10=>
        bif (!r10) then
          some false
        else
          (bn_ k a0.Send).bind fun r11=>
          bif (!r11) then
            some false
          else
            (bP_ k a0.Take).bind fun r12=>
            bif (!r12) then
              some false
            else
              bif (a0.Peer==0) then
                (im_ k a0.Send).bind fun r13=>
                bif r13 then
                  (it_ k a0.Take).bind fun r14=>
                  bif (!r14) then
                    some false
                  else
                    bif a0.Up then
                      some true
                    else
                      bif (a0.Peer==0) then
                        bif (a0.Since==0) then
                          some (!a0.Owes)
                        else
                          some false
                      else
                        some false
                else
                  some false
              else
                bif a0.Up then
                  some true
                else
                  bif (a0.Peer==0) then
                    bif (a0.Since==0) then
                      some (!a0.Owes)
                    else
                      some false
                  else
                    some false
def cW_ (k:Nat) (a0:an_):Option (an_):=
  (ey_ k a0.Send).bind fun r1=>
  (ft_ k a0.Take).bind fun r2=>
  some (⟨a0.Number,a0.Up,a0.Life,a0.Peer,a0.Since,a0.Owes,r1,r2⟩:an_)
mutual
def ei_:Nat→Int→Int→Bool→Int→Int→Int→Bool→Int→Int→ByteArray→ByteArray→Int→Int→Bool→Int→Int→Int→Bool→Int→Int→ByteArray→ByteArray→List ag_→List ak_→List ByteArray→List ae_→List ag_→List ak_→List ByteArray→List ae_→Option (ay_)
  | 0,_,_,_,_,_,_,_,_,_,_,_,_,_,_,_,_,_,_,_,_,_,_,_,_,_,_,_,_,_,_=>none
  | k+1,x0,x1,x2,x3,x4,x5,x6,x7,x8,x9,x10,x11,x12,x13,x14,x15,x16,x17,x18,x19,x20,x21,x22,x23,x24,x25,x26,x27,x28,x29=>
    bif (x15 !=0) then
      (gu_ k (⟨x18,x26⟩:aj_)).bind fun r3=>
      cO_ k (r3.2.length:Int) 0 x0 x1 x2 x3 x4 x5 x6 x7 x8 x9 x10 x11 x12 x13 x14 x15 x16 x17 r3.1.Base x19 x20 x21 r3.2 x22 x23 x24 x25 r3.1.Items x27 x28 x29
    else
      dF_ k x0 x1 x2 x3 x4 x5 x6 x7 x8 x9 x10 x11 x12 x13 x14 x15 x16 x17 x18 x19 x20 x21 x22 x23 x24 x25 x26 x27 x28 x29
def cO_:Nat→Int→Int→Int→Int→Bool→Int→Int→Int→Bool→Int→Int→ByteArray→ByteArray→Int→Int→Bool→Int→Int→Int→Bool→Int→Int→ByteArray→ByteArray→List Int→List ag_→List ak_→List ByteArray→List ae_→List ag_→List ak_→List ByteArray→List ae_→Option (ay_)
  | 0,_,_,_,_,_,_,_,_,_,_,_,_,_,_,_,_,_,_,_,_,_,_,_,_,_,_,_,_,_,_,_,_,_=>none
  | k+1,x0,x1,x2,x3,x4,x5,x6,x7,x8,x9,x10,x11,x12,x13,x14,x15,x16,x17,x18,x19,x20,x21,x22,x23,x24,x25,x26,x27,x28,x29,x30,x31,x32=>
    bif (decide (x1<x0)) then
      (idx x24 x1).bind fun _=>
      (x24[(Int.toNat x1)]?).bind fun y4=>
      (idx x29 (IntKind.wrap .i64 (y4-x20))).bind fun _=>
      (x29[(Int.toNat (IntKind.wrap .i64 (y4-x20)))]?).bind fun y5=>
      (app 80 x32 ([(⟨2,x14,x16,x17,0,0,y4,y5.Part.Last,y5.Part.Text⟩:ae_)]:List ae_)).bind fun l6=>
      cO_ k x0 (IntKind.wrap .i64 (x1+1)) x2 x3 x4 x5 x6 x7 x8 x9 x10 x11 x12 x13 x14 x15 x16 x17 x18 x19 x20 x21 x22 x23 x24 x25 x26 x27 x28 x29 x30 x31 l6
    else
      dF_ k x2 x3 x4 x5 x6 x7 x8 x9 x10 x11 x12 x13 x14 x15 x16 x17 x18 x19 x20 x21 x22 x23 x25 x26 x27 x28 x29 x30 x31 x32
def dF_:Nat→Int→Int→Bool→Int→Int→Int→Bool→Int→Int→ByteArray→ByteArray→Int→Int→Bool→Int→Int→Int→Bool→Int→Int→ByteArray→ByteArray→List ag_→List ak_→List ByteArray→List ae_→List ag_→List ak_→List ByteArray→List ae_→Option (ay_)
  | 0,_,_,_,_,_,_,_,_,_,_,_,_,_,_,_,_,_,_,_,_,_,_,_,_,_,_,_,_,_,_=>none
  | k+1,x0,x1,x2,x3,x4,x5,x6,x7,x8,x9,x10,x11,x12,x13,x14,x15,x16,x17,x18,x19,x20,x21,x22,x23,x24,x25,x26,x27,x28,x29=>
    bif x17 then
      (ex_ k (⟨x19,x27,x20,x28⟩:ai_)).bind fun r7=>
      (app 80 x29 ([(⟨1,x12,x14,x15,r7.1,r7.2,0,false,(⟨#[]⟩:ByteArray)⟩:ae_)]:List ae_)).bind fun l8=>
      cb_ k x0 x1 x2 x3 x4 x5 x6 x7 x8 x9 x10 x11 x12 x13 x14 x15 0 false x18 x19 x20 x21 x22 x23 x24 x25 x26 x27 x28 l8
    else
      bif (decide (x16≥6)) then
        (ex_ k (⟨x19,x27,x20,x28⟩:ai_)).bind fun r9=>
        (app 80 x29 ([(⟨1,x12,x14,x15,r9.1,r9.2,0,false,(⟨#[]⟩:ByteArray)⟩:ae_)]:List ae_)).bind fun l10=>
        cb_ k x0 x1 x2 x3 x4 x5 x6 x7 x8 x9 x10 x11 x12 x13 x14 x15 0 false x18 x19 x20 x21 x22 x23 x24 x25 x26 x27 x28 l10
      else
        cb_ k x0 x1 x2 x3 x4 x5 x6 x7 x8 x9 x10 x11 x12 x13 x14 x15 x16 x17 x18 x19 x20 x21 x22 x23 x24 x25 x26 x27 x28 x29
def cb_:Nat→Int→Int→Bool→Int→Int→Int→Bool→Int→Int→ByteArray→ByteArray→Int→Int→Bool→Int→Int→Int→Bool→Int→Int→ByteArray→ByteArray→List ag_→List ak_→List ByteArray→List ae_→List ag_→List ak_→List ByteArray→List ae_→Option (ay_)
  | 0,_,_,_,_,_,_,_,_,_,_,_,_,_,_,_,_,_,_,_,_,_,_,_,_,_,_,_,_,_,_=>none
  | k+1,x0,x1,x2,x3,x4,x5,x6,x7,x8,x9,x10,x11,x12,x13,x14,x15,x16,x17,x18,x19,x20,x21,x22,x23,x24,x25,x26,x27,x28,x29=>
    some (⟨x11,(⟨x12,x13,x14,x15,x16,x17,(⟨x18,x26⟩:aj_),(⟨x19,x27,x20,x28⟩:ai_)⟩:an_),x29,x21⟩:ay_)
end
def ht_ (k:Nat) (a0:an_):Option (ay_):=
  (bS_ k a0).bind fun r1=>
  bif (!r1) then
    some (⟨1,(⟨0,false,0,0,0,false,(⟨0,([]:List ag_)⟩:aj_),(⟨0,([]:List ak_),(⟨#[]⟩:ByteArray),([]:List ByteArray)⟩:ai_)⟩:an_),([]:List ae_),(⟨#[]⟩:ByteArray)⟩:ay_)
  else
    (cW_ k a0).bind fun r2=>
    bif (!r2.Up) then
      some (⟨0,r2,([]:List ae_),(⟨#[]⟩:ByteArray)⟩:ay_)
    else
      bif (decide (r2.Since<1000000)) then
        ei_ k 0 0 false 0 0 0 false 0 0 (⟨#[]⟩:ByteArray) (⟨#[]⟩:ByteArray) 0 r2.Number r2.Up r2.Life r2.Peer (IntKind.wrap .i64 (r2.Since+1)) r2.Owes r2.Send.Base r2.Take.Next r2.Take.Open (⟨#[]⟩:ByteArray) ([]:List ag_) ([]:List ak_) ([]:List ByteArray) ([]:List ae_) r2.Send.Items r2.Take.Held r2.Take.Ready ([]:List ae_)
      else
        ei_ k 0 0 false 0 0 0 false 0 0 (⟨#[]⟩:ByteArray) (⟨#[]⟩:ByteArray) 0 r2.Number r2.Up r2.Life r2.Peer r2.Since r2.Owes r2.Send.Base r2.Take.Next r2.Take.Open (⟨#[]⟩:ByteArray) ([]:List ag_) ([]:List ak_) ([]:List ByteArray) ([]:List ae_) r2.Send.Items r2.Take.Held r2.Take.Ready ([]:List ae_)
mutual
def ef_:Nat→Int→Int→Int→Int→Int→Int→Int→Bool→ByteArray→Int→Int→Bool→Int→Int→Int→Bool→Int→Int→ByteArray→ByteArray→Int→Int→Bool→Int→Int→Int→Bool→Int→Int→ByteArray→ByteArray→List ag_→List ak_→List ByteArray→List ae_→List ag_→List ak_→List ByteArray→List ae_→Option (ay_)
  | 0,_,_,_,_,_,_,_,_,_,_,_,_,_,_,_,_,_,_,_,_,_,_,_,_,_,_,_,_,_,_,_,_,_,_,_,_,_,_,_=>none
  | k+1,x0,x1,x2,x3,x4,x5,x6,x7,x8,x9,x10,x11,x12,x13,x14,x15,x16,x17,x18,x19,x20,x21,x22,x23,x24,x25,x26,x27,x28,x29,x30,x31,x32,x33,x34,x35,x36,x37,x38=>
    bif (x3 !=x23) then
      some (⟨x20,(⟨x21,x22,x23,x24,x25,true,(⟨x27,x35⟩:aj_),(⟨x28,x36,x29,x37⟩:ai_)⟩:an_),x38,x30⟩:ay_)
    else
      bif (x0==1) then
        (gG_ k (⟨x27,x35⟩:aj_) x4 x5).bind fun r4=>
        dO_ k x9 x10 x11 x12 x13 x14 x15 x16 x17 x18 x19 x20 x21 x22 x23 x24 x25 x26 r4.Base x28 x29 x30 x31 x32 x33 x34 r4.Items x36 x37 x38
      else
        (gF_ k (⟨x28,x36,x29,x37⟩:ai_) x6 (⟨x8,x7⟩:aA_)).bind fun r5=>
        dO_ k x9 x10 x11 x12 x13 x14 x15 x16 x17 x18 x19 x20 x21 x22 x23 x24 x25 true x27 r5.Next r5.Open x30 x31 x32 x33 x34 x35 r5.Held r5.Ready x38
def dO_:Nat→Int→Int→Bool→Int→Int→Int→Bool→Int→Int→ByteArray→ByteArray→Int→Int→Bool→Int→Int→Int→Bool→Int→Int→ByteArray→ByteArray→List ag_→List ak_→List ByteArray→List ae_→List ag_→List ak_→List ByteArray→List ae_→Option (ay_)
  | 0,_,_,_,_,_,_,_,_,_,_,_,_,_,_,_,_,_,_,_,_,_,_,_,_,_,_,_,_,_,_=>none
  | k+1,x0,x1,x2,x3,x4,x5,x6,x7,x8,x9,x10,x11,x12,x13,x14,x15,x16,x17,x18,x19,x20,x21,x22,x23,x24,x25,x26,x27,x28,x29=>
    some (⟨x11,(⟨x12,x13,x14,x15,x16,x17,(⟨x18,x26⟩:aj_),(⟨x19,x27,x20,x28⟩:ai_)⟩:an_),x29,x21⟩:ay_)
end
def hs_ (k:Nat) (a0:an_) (a1:ae_):Option (ay_):=
  (bS_ k a0).bind fun r1=>
  bif (!r1) then
    some (⟨1,(⟨0,false,0,0,0,false,(⟨0,([]:List ag_)⟩:aj_),(⟨0,([]:List ak_),(⟨#[]⟩:ByteArray),([]:List ByteArray)⟩:ai_)⟩:an_),([]:List ae_),(⟨#[]⟩:ByteArray)⟩:ay_)
  else
    (cW_ k a0).bind fun r2=>
    bif (!r2.Up) then
      some (⟨0,r2,([]:List ae_),(⟨#[]⟩:ByteArray)⟩:ay_)
    else
      (bc_ k a1).bind fun r3=>
      bif (!r3) then
        some (⟨0,r2,([]:List ae_),(⟨#[]⟩:ByteArray)⟩:ay_)
      else
        bif (a1.From==r2.Number) then
          some (⟨0,r2,([]:List ae_),(⟨#[]⟩:ByteArray)⟩:ay_)
        else
          bif (decide (a1.Mine<r2.Peer)) then
            some (⟨0,r2,([]:List ae_),(⟨#[]⟩:ByteArray)⟩:ay_)
          else
            bif (decide (a1.Mine>r2.Peer)) then
              ef_ k a1.Kind a1.From a1.Mine a1.Yours a1.Next a1.Mask a1.Seq a1.Last a1.Part 0 0 false 0 0 0 false 0 0 (⟨#[]⟩:ByteArray) (⟨#[]⟩:ByteArray) 0 r2.Number r2.Up r2.Life a1.Mine r2.Since true 0 0 (⟨#[]⟩:ByteArray) (⟨#[]⟩:ByteArray) ([]:List ag_) ([]:List ak_) ([]:List ByteArray) ([]:List ae_) ([]:List ag_) ([]:List ak_) ([]:List ByteArray) ([]:List ae_)
            else
              ef_ k a1.Kind a1.From a1.Mine a1.Yours a1.Next a1.Mask a1.Seq a1.Last a1.Part 0 0 false 0 0 0 false 0 0 (⟨#[]⟩:ByteArray) (⟨#[]⟩:ByteArray) 0 r2.Number r2.Up r2.Life r2.Peer r2.Since r2.Owes r2.Send.Base r2.Take.Next r2.Take.Open (⟨#[]⟩:ByteArray) ([]:List ag_) ([]:List ak_) ([]:List ByteArray) ([]:List ae_) r2.Send.Items r2.Take.Held r2.Take.Ready ([]:List ae_)
def hN_ (k:Nat) (a0:an_):Option (an_):=
  (bS_ k a0).bind fun r1=>
  bif (!r1) then
    some (⟨0,false,0,0,0,false,(⟨0,([]:List ag_)⟩:aj_),(⟨0,([]:List ak_),(⟨#[]⟩:ByteArray),([]:List ByteArray)⟩:ai_)⟩:an_)
  else
    some (⟨a0.Number,false,a0.Life,0,0,false,(⟨0,([]:List ag_)⟩:aj_),(⟨0,([]:List ak_),(⟨#[]⟩:ByteArray),([]:List ByteArray)⟩:ai_)⟩:an_)
def hF_ (k:Nat) (a0:an_):Option (an_):=
  (bS_ k a0).bind fun r1=>
  bif (!r1) then
    some (⟨0,false,0,0,0,false,(⟨0,([]:List ag_)⟩:aj_),(⟨0,([]:List ak_),(⟨#[]⟩:ByteArray),([]:List ByteArray)⟩:ai_)⟩:an_)
  else
    bif a0.Up then
      (cW_ k a0).bind fun r2=>
      some r2
    else
      bif (a0.Life==1000) then
        (cW_ k a0).bind fun r3=>
        some r3
      else
        some (⟨a0.Number,true,(IntKind.wrap .i64 (a0.Life+1)),0,0,false,(⟨0,([]:List ag_)⟩:aj_),(⟨0,([]:List ak_),(⟨#[]⟩:ByteArray),([]:List ByteArray)⟩:ai_)⟩:an_)
def f9_ (k:Nat) (a0:an_) (a1:ByteArray):Option (ay_):=
  (bS_ k a0).bind fun r1=>
  bif (!r1) then
    some (⟨1,(⟨0,false,0,0,0,false,(⟨0,([]:List ag_)⟩:aj_),(⟨0,([]:List ak_),(⟨#[]⟩:ByteArray),([]:List ByteArray)⟩:ai_)⟩:an_),([]:List ae_),(⟨#[]⟩:ByteArray)⟩:ay_)
  else
    bif (!a0.Up) then
      some (⟨2,(⟨0,false,0,0,0,false,(⟨0,([]:List ag_)⟩:aj_),(⟨0,([]:List ak_),(⟨#[]⟩:ByteArray),([]:List ByteArray)⟩:ai_)⟩:an_),([]:List ae_),(⟨#[]⟩:ByteArray)⟩:ay_)
    else
      bif (a0.Peer==0) then
        some (⟨2,(⟨0,false,0,0,0,false,(⟨0,([]:List ag_)⟩:aj_),(⟨0,([]:List ak_),(⟨#[]⟩:ByteArray),([]:List ByteArray)⟩:ai_)⟩:an_),([]:List ae_),(⟨#[]⟩:ByteArray)⟩:ay_)
      else
        (gA_ k a0.Send a1).bind fun r2=>
        bif (r2.2 !=0) then
          some (⟨r2.2,(⟨0,false,0,0,0,false,(⟨0,([]:List ag_)⟩:aj_),(⟨0,([]:List ak_),(⟨#[]⟩:ByteArray),([]:List ByteArray)⟩:ai_)⟩:an_),([]:List ae_),(⟨#[]⟩:ByteArray)⟩:ay_)
        else
          (cW_ k a0).bind fun r3=>
          some (⟨0,(⟨r3.Number,r3.Up,r3.Life,r3.Peer,r3.Since,r3.Owes,r2.1,r3.Take⟩:an_),([]:List ae_),(⟨#[]⟩:ByteArray)⟩:ay_)
def hp_ (k:Nat) (a0:an_):Option (ay_):=
  (bS_ k a0).bind fun r1=>
  bif (!r1) then
    some (⟨1,(⟨0,false,0,0,0,false,(⟨0,([]:List ag_)⟩:aj_),(⟨0,([]:List ak_),(⟨#[]⟩:ByteArray),([]:List ByteArray)⟩:ai_)⟩:an_),([]:List ae_),(⟨#[]⟩:ByteArray)⟩:ay_)
  else
    bif (!a0.Up) then
      some (⟨2,(⟨0,false,0,0,0,false,(⟨0,([]:List ag_)⟩:aj_),(⟨0,([]:List ak_),(⟨#[]⟩:ByteArray),([]:List ByteArray)⟩:ai_)⟩:an_),([]:List ae_),(⟨#[]⟩:ByteArray)⟩:ay_)
    else
      (gE_ k a0.Take).bind fun r2=>
      bif (!r2.2.2) then
        some (⟨4,(⟨0,false,0,0,0,false,(⟨0,([]:List ag_)⟩:aj_),(⟨0,([]:List ak_),(⟨#[]⟩:ByteArray),([]:List ByteArray)⟩:ai_)⟩:an_),([]:List ae_),(⟨#[]⟩:ByteArray)⟩:ay_)
      else
        (cW_ k a0).bind fun r3=>
        some (⟨0,(⟨r3.Number,r3.Up,r3.Life,r3.Peer,r3.Since,true,r3.Send,r2.1⟩:an_),([]:List ae_),r2.2.1⟩:ay_)
def gH_ (k:Nat) (a0:aj_):Option (Bool):=
  bif (a0.Base==0) then
    some ((a0.Items.length:Int)==0)
  else
    some false
def gv_ (k:Nat) (a0:ai_):Option (Bool):=
  bif (a0.Next==0) then
    bif ((a0.Held.length:Int)==0) then
      bif (a0.Open.toList==(⟨#[]⟩:ByteArray).toList) then
        some ((a0.Ready.length:Int)==0)
      else
        some false
    else
      some false
  else
    some false
def bU_ (k:Nat) (a0:an_):Option (Bool):=
  (az_ k a0.Number 1 2).bind fun r1=>
  bif (!r1) then
    some false
  else
    (az_ k a0.Life 1 1000).bind fun r2=>
    bif (!r2) then
      some false
    else
      (az_ k a0.Peer 0 1000).bind fun r3=>
      bif (!r3) then
        some false
      else
        (az_ k a0.Since 0 1000000).bind fun r4=>
        bif (!r4) then
          some false
        else
          (bA_ k a0.Send).bind fun r5=>
          bif (!r5) then
            some false
          else
            (c7_ k a0.Take).bind fun r6=>
            bif (!r6) then
              some false
            else
              bif (a0.Peer==0) then
                (gH_ k a0.Send).bind fun r7=>
                bif (!r7) then
                  some false
                else
                  (gv_ k a0.Take).bind fun r8=>
                  bif (!r8) then
                    some false
                  else
                    bif a0.Up then
                      some true
                    else
                      bif (a0.Peer==0) then
                        bif (a0.Since==0) then
                          some (!a0.Owes)
                        else
                          some false
                      else
                        some false
              else
                bif a0.Up then
                  some true
                else
                  bif (a0.Peer==0) then
                    bif (a0.Since==0) then
                      some (!a0.Owes)
                    else
                      some false
                  else
                    some false
def c5_ (k:Nat) (a0:an_):Option (an_):=
  (ep_ k a0.Send).bind fun r1=>
  (e6_ k a0.Take).bind fun r2=>
  some (⟨a0.Number,a0.Up,a0.Life,a0.Peer,a0.Since,a0.Owes,r1,r2⟩:an_)
mutual
def em_:Nat→Int→Int→Bool→Int→Int→Int→Bool→Int→Int→ByteArray→ByteArray→Int→Bool→Int→Int→Int→Bool→Int→Int→ByteArray→List ae_→List ag_→List ak_→List ByteArray→List ae_→List ag_→List ak_→List ByteArray→Option (ay_)
  | 0,_,_,_,_,_,_,_,_,_,_,_,_,_,_,_,_,_,_,_,_,_,_,_,_,_,_,_,_=>none
  | k+1,x0,x1,x2,x3,x4,x5,x6,x7,x8,x9,x10,x11,x12,x13,x14,x15,x16,x17,x18,x19,x20,x21,x22,x23,x24,x25,x26,x27=>
    bif (x14 !=0) then
      (fB_ k (⟨x17,x25⟩:aj_)).bind fun r3=>
      cV_ k 0 x0 x1 x2 x3 x4 x5 x6 x7 x8 x9 x10 x11 x12 x13 x14 x15 x16 r3.1.Base x18 x19 x20 r3.1.Base r3.2 x21 x22 x23 x24 r3.1.Items x26 x27
    else
      dI_ k x0 x1 x2 x3 x4 x5 x6 x7 x8 x9 x10 x11 x12 x13 x14 x15 x16 x17 x18 x19 x20 x21 x22 x23 x24 x25 x26 x27
def cV_:Nat→Int→Int→Int→Bool→Int→Int→Int→Bool→Int→Int→ByteArray→ByteArray→Int→Bool→Int→Int→Int→Bool→Int→Int→ByteArray→List ae_→Int→List Int→List ag_→List ak_→List ByteArray→List ae_→List ag_→List ak_→List ByteArray→Option (ay_)
  | 0,_,_,_,_,_,_,_,_,_,_,_,_,_,_,_,_,_,_,_,_,_,_,_,_,_,_,_,_,_,_,_=>none
  | k+1,x0,x1,x2,x3,x4,x5,x6,x7,x8,x9,x10,x11,x12,x13,x14,x15,x16,x17,x18,x19,x20,x21,x22,x23,x24,x25,x26,x27,x28,x29,x30=>
    bif (decide (x0<(x23.length:Int))) then
      (idx x23 x0).bind fun _=>
      (x23[(Int.toNat x0)]?).bind fun y4=>
      (idx x28 (IntKind.wrap .i64 (y4-x22))).bind fun _=>
      (x28[(Int.toNat (IntKind.wrap .i64 (y4-x22)))]?).bind fun y5=>
      (idx x23 x0).bind fun _=>
      (x23[(Int.toNat x0)]?).bind fun y6=>
      (app 80 x21 ([(⟨2,x12,x14,x15,0,0,y6,y5.Part.Last,y5.Part.Text⟩:ae_)]:List ae_)).bind fun l7=>
      cV_ k (IntKind.wrap .i64 (x0+1)) x1 x2 x3 x4 x5 x6 x7 x8 x9 x10 x11 x12 x13 x14 x15 x16 x17 x18 x19 x20 l7 x22 x23 x24 x25 x26 x27 x28 x29 x30
    else
      dI_ k x1 x2 x3 x4 x5 x6 x7 x8 x9 x10 x11 x12 x13 x14 x15 x16 x17 x18 x19 x20 x21 x24 x25 x26 x27 x28 x29 x30
def dI_:Nat→Int→Int→Bool→Int→Int→Int→Bool→Int→Int→ByteArray→ByteArray→Int→Bool→Int→Int→Int→Bool→Int→Int→ByteArray→List ae_→List ag_→List ak_→List ByteArray→List ae_→List ag_→List ak_→List ByteArray→Option (ay_)
  | 0,_,_,_,_,_,_,_,_,_,_,_,_,_,_,_,_,_,_,_,_,_,_,_,_,_,_,_,_=>none
  | k+1,x0,x1,x2,x3,x4,x5,x6,x7,x8,x9,x10,x11,x12,x13,x14,x15,x16,x17,x18,x19,x20,x21,x22,x23,x24,x25,x26,x27=>
    bif x16 then
      (eA_ k (⟨x18,x26,x19,x27⟩:ai_)).bind fun r8=>
      (app 80 x20 ([(⟨1,x11,x13,x14,r8.1,r8.2,0,false,(⟨#[]⟩:ByteArray)⟩:ae_)]:List ae_)).bind fun l9=>
      cg_ k x0 x1 x2 x3 x4 x5 x6 x7 x8 x9 x10 x11 x12 x13 x14 0 false x17 x18 x19 l9 x21 x22 x23 x24 x25 x26 x27
    else
      bif (decide (x15≥6)) then
        (eA_ k (⟨x18,x26,x19,x27⟩:ai_)).bind fun r10=>
        (app 80 x20 ([(⟨1,x11,x13,x14,r10.1,r10.2,0,false,(⟨#[]⟩:ByteArray)⟩:ae_)]:List ae_)).bind fun l11=>
        cg_ k x0 x1 x2 x3 x4 x5 x6 x7 x8 x9 x10 x11 x12 x13 x14 0 false x17 x18 x19 l11 x21 x22 x23 x24 x25 x26 x27
      else
        cg_ k x0 x1 x2 x3 x4 x5 x6 x7 x8 x9 x10 x11 x12 x13 x14 x15 x16 x17 x18 x19 x20 x21 x22 x23 x24 x25 x26 x27
def cg_:Nat→Int→Int→Bool→Int→Int→Int→Bool→Int→Int→ByteArray→ByteArray→Int→Bool→Int→Int→Int→Bool→Int→Int→ByteArray→List ae_→List ag_→List ak_→List ByteArray→List ae_→List ag_→List ak_→List ByteArray→Option (ay_)
  | 0,_,_,_,_,_,_,_,_,_,_,_,_,_,_,_,_,_,_,_,_,_,_,_,_,_,_,_,_=>none
  | k+1,x0,x1,x2,x3,x4,x5,x6,x7,x8,x9,x10,x11,x12,x13,x14,x15,x16,x17,x18,x19,x20,x21,x22,x23,x24,x25,x26,x27=>
    some (⟨0,(⟨x11,x12,x13,x14,x15,x16,(⟨x17,x25⟩:aj_),(⟨x18,x26,x19,x27⟩:ai_)⟩:an_),x20,(⟨#[]⟩:ByteArray)⟩:ay_)
end
def hl_ (k:Nat) (a0:an_):Option (ay_):=
  (bU_ k a0).bind fun r1=>
  bif (!r1) then
    some (⟨1,(⟨0,false,0,0,0,false,(⟨0,([]:List ag_)⟩:aj_),(⟨0,([]:List ak_),(⟨#[]⟩:ByteArray),([]:List ByteArray)⟩:ai_)⟩:an_),([]:List ae_),(⟨#[]⟩:ByteArray)⟩:ay_)
  else
    (c5_ k a0).bind fun r2=>
    bif (!r2.Up) then
      some (⟨0,r2,([]:List ae_),(⟨#[]⟩:ByteArray)⟩:ay_)
    else
      bif (decide (r2.Since<1000000)) then
        em_ k 0 0 false 0 0 0 false 0 0 (⟨#[]⟩:ByteArray) (⟨#[]⟩:ByteArray) r2.Number r2.Up r2.Life r2.Peer (IntKind.wrap .i64 (r2.Since+1)) r2.Owes r2.Send.Base r2.Take.Next r2.Take.Open ([]:List ae_) ([]:List ag_) ([]:List ak_) ([]:List ByteArray) ([]:List ae_) r2.Send.Items r2.Take.Held r2.Take.Ready
      else
        em_ k 0 0 false 0 0 0 false 0 0 (⟨#[]⟩:ByteArray) (⟨#[]⟩:ByteArray) r2.Number r2.Up r2.Life r2.Peer r2.Since r2.Owes r2.Send.Base r2.Take.Next r2.Take.Open ([]:List ae_) ([]:List ag_) ([]:List ak_) ([]:List ByteArray) ([]:List ae_) r2.Send.Items r2.Take.Held r2.Take.Ready
def dE_:Nat→Int→Int→Int→Int→Int→Int→Int→Bool→ByteArray→Int→Int→Bool→Int→Int→Int→Bool→Int→Int→ByteArray→ByteArray→Int→Bool→Int→Int→Int→Bool→Int→Int→ByteArray→List ag_→List ak_→List ByteArray→List ae_→List ag_→List ak_→List ByteArray→Option (ay_)
  | 0,_,_,_,_,_,_,_,_,_,_,_,_,_,_,_,_,_,_,_,_,_,_,_,_,_,_,_,_,_,_,_,_,_,_,_,_=>none
  | k+1,x0,x1,x2,x3,x4,x5,x6,x7,x8,x9,x10,x11,x12,x13,x14,x15,x16,x17,x18,x19,x20,x21,x22,x23,x24,x25,x26,x27,x28,x29,x30,x31,x32,x33,x34,x35=>
    bif (x3 !=x22) then
      some (⟨0,(⟨x20,x21,x22,x23,x24,true,(⟨x26,x33⟩:aj_),(⟨x27,x34,x28,x35⟩:ai_)⟩:an_),([]:List ae_),(⟨#[]⟩:ByteArray)⟩:ay_)
    else
      bif (x0==1) then
        (fF_ k (⟨x26,x33⟩:aj_) x4 x5).bind fun r4=>
        some (⟨0,(⟨x20,x21,x22,x23,x24,x25,r4,(⟨x27,x34,x28,x35⟩:ai_)⟩:an_),([]:List ae_),(⟨#[]⟩:ByteArray)⟩:ay_)
      else
        (fm_ k (⟨x27,x34,x28,x35⟩:ai_) x6 (⟨x8,x7⟩:aA_)).bind fun r5=>
        some (⟨0,(⟨x20,x21,x22,x23,x24,true,(⟨x26,x33⟩:aj_),r5⟩:an_),([]:List ae_),(⟨#[]⟩:ByteArray)⟩:ay_)
def ho_ (k:Nat) (a0:an_) (a1:ae_):Option (ay_):=
  (bU_ k a0).bind fun r1=>
  bif (!r1) then
    some (⟨1,(⟨0,false,0,0,0,false,(⟨0,([]:List ag_)⟩:aj_),(⟨0,([]:List ak_),(⟨#[]⟩:ByteArray),([]:List ByteArray)⟩:ai_)⟩:an_),([]:List ae_),(⟨#[]⟩:ByteArray)⟩:ay_)
  else
    (c5_ k a0).bind fun r2=>
    bif (!r2.Up) then
      some (⟨0,r2,([]:List ae_),(⟨#[]⟩:ByteArray)⟩:ay_)
    else
      (ga_ k a1).bind fun r3=>
      bif (!r3) then
        some (⟨0,r2,([]:List ae_),(⟨#[]⟩:ByteArray)⟩:ay_)
      else
        bif (a1.From==r2.Number) then
          some (⟨0,r2,([]:List ae_),(⟨#[]⟩:ByteArray)⟩:ay_)
        else
          bif (decide (a1.Mine<r2.Peer)) then
            some (⟨0,r2,([]:List ae_),(⟨#[]⟩:ByteArray)⟩:ay_)
          else
            bif (decide (a1.Mine>r2.Peer)) then
              dE_ k a1.Kind a1.From a1.Mine a1.Yours a1.Next a1.Mask a1.Seq a1.Last a1.Part 0 0 false 0 0 0 false 0 0 (⟨#[]⟩:ByteArray) (⟨#[]⟩:ByteArray) r2.Number r2.Up r2.Life a1.Mine r2.Since true 0 0 (⟨#[]⟩:ByteArray) ([]:List ag_) ([]:List ak_) ([]:List ByteArray) ([]:List ae_) ([]:List ag_) ([]:List ak_) ([]:List ByteArray)
            else
              dE_ k a1.Kind a1.From a1.Mine a1.Yours a1.Next a1.Mask a1.Seq a1.Last a1.Part 0 0 false 0 0 0 false 0 0 (⟨#[]⟩:ByteArray) (⟨#[]⟩:ByteArray) r2.Number r2.Up r2.Life r2.Peer r2.Since r2.Owes r2.Send.Base r2.Take.Next r2.Take.Open ([]:List ag_) ([]:List ak_) ([]:List ByteArray) ([]:List ae_) r2.Send.Items r2.Take.Held r2.Take.Ready
def hB_ (k:Nat) (a0:an_):Option (an_):=
  (bU_ k a0).bind fun r1=>
  bif (!r1) then
    some (⟨0,false,0,0,0,false,(⟨0,([]:List ag_)⟩:aj_),(⟨0,([]:List ak_),(⟨#[]⟩:ByteArray),([]:List ByteArray)⟩:ai_)⟩:an_)
  else
    some (⟨a0.Number,false,a0.Life,0,0,false,(⟨0,([]:List ag_)⟩:aj_),(⟨0,([]:List ak_),(⟨#[]⟩:ByteArray),([]:List ByteArray)⟩:ai_)⟩:an_)
def hm_ (k:Nat) (a0:an_):Option (an_):=
  (bU_ k a0).bind fun r1=>
  bif (!r1) then
    some (⟨0,false,0,0,0,false,(⟨0,([]:List ag_)⟩:aj_),(⟨0,([]:List ak_),(⟨#[]⟩:ByteArray),([]:List ByteArray)⟩:ai_)⟩:an_)
  else
    bif a0.Up then
      (c5_ k a0).bind fun r2=>
      some r2
    else
      bif (decide (a0.Life≥1000)) then
        (c5_ k a0).bind fun r3=>
        some r3
      else
        some (⟨a0.Number,true,(IntKind.wrap .i64 (a0.Life+1)),0,0,false,(⟨0,([]:List ag_)⟩:aj_),(⟨0,([]:List ak_),(⟨#[]⟩:ByteArray),([]:List ByteArray)⟩:ai_)⟩:an_)
def hz_ (k:Nat) (a0:an_) (a1:ByteArray):Option (ay_):=
  (bU_ k a0).bind fun r1=>
  bif (!r1) then
    some (⟨1,(⟨0,false,0,0,0,false,(⟨0,([]:List ag_)⟩:aj_),(⟨0,([]:List ak_),(⟨#[]⟩:ByteArray),([]:List ByteArray)⟩:ai_)⟩:an_),([]:List ae_),(⟨#[]⟩:ByteArray)⟩:ay_)
  else
    bif (!a0.Up) then
      some (⟨2,(⟨0,false,0,0,0,false,(⟨0,([]:List ag_)⟩:aj_),(⟨0,([]:List ak_),(⟨#[]⟩:ByteArray),([]:List ByteArray)⟩:ai_)⟩:an_),([]:List ae_),(⟨#[]⟩:ByteArray)⟩:ay_)
    else
      bif (a0.Peer==0) then
        some (⟨2,(⟨0,false,0,0,0,false,(⟨0,([]:List ag_)⟩:aj_),(⟨0,([]:List ak_),(⟨#[]⟩:ByteArray),([]:List ByteArray)⟩:ai_)⟩:an_),([]:List ae_),(⟨#[]⟩:ByteArray)⟩:ay_)
      else
        (dB_ k a0.Send a1).bind fun r2=>
        bif (r2.2 !=0) then
          some (⟨r2.2,(⟨0,false,0,0,0,false,(⟨0,([]:List ag_)⟩:aj_),(⟨0,([]:List ak_),(⟨#[]⟩:ByteArray),([]:List ByteArray)⟩:ai_)⟩:an_),([]:List ae_),(⟨#[]⟩:ByteArray)⟩:ay_)
        else
          (c5_ k a0).bind fun r3=>
          some (⟨0,(⟨r3.Number,r3.Up,r3.Life,r3.Peer,r3.Since,r3.Owes,r2.1,r3.Take⟩:an_),([]:List ae_),(⟨#[]⟩:ByteArray)⟩:ay_)
def hq_ (k:Nat) (a0:an_):Option (ay_):=
  (bU_ k a0).bind fun r1=>
  bif (!r1) then
    some (⟨1,(⟨0,false,0,0,0,false,(⟨0,([]:List ag_)⟩:aj_),(⟨0,([]:List ak_),(⟨#[]⟩:ByteArray),([]:List ByteArray)⟩:ai_)⟩:an_),([]:List ae_),(⟨#[]⟩:ByteArray)⟩:ay_)
  else
    bif (!a0.Up) then
      some (⟨2,(⟨0,false,0,0,0,false,(⟨0,([]:List ag_)⟩:aj_),(⟨0,([]:List ak_),(⟨#[]⟩:ByteArray),([]:List ByteArray)⟩:ai_)⟩:an_),([]:List ae_),(⟨#[]⟩:ByteArray)⟩:ay_)
    else
      (fq_ k a0.Take).bind fun r2=>
      bif (!r2.2.2) then
        some (⟨4,(⟨0,false,0,0,0,false,(⟨0,([]:List ag_)⟩:aj_),(⟨0,([]:List ak_),(⟨#[]⟩:ByteArray),([]:List ByteArray)⟩:ai_)⟩:an_),([]:List ae_),(⟨#[]⟩:ByteArray)⟩:ay_)
      else
        (c5_ k a0).bind fun r3=>
        some (⟨0,(⟨r3.Number,r3.Up,r3.Life,r3.Peer,r3.Since,true,r3.Send,r2.1⟩:an_),([]:List ae_),r2.2.1⟩:ay_)
def lG_ (k:Nat) (a0:an_) (a1:an_):Option (Bool):=
  bif (a0.Number==a1.Number) then
    bif (a0.Up==a1.Up) then
      bif (a0.Life==a1.Life) then
        bif (a0.Peer==a1.Peer) then
          bif (a0.Since==a1.Since) then
            bif (a0.Owes==a1.Owes) then
              (jW_ k a0.Send a1.Send).bind fun r1=>
              bif r1 then
                (j5_ k a0.Take a1.Take).bind fun r2=>
                some r2
              else
                some false
            else
              some false
          else
            some false
        else
          some false
      else
        some false
    else
      some false
  else
    some false
end Km.X
