/- A part of the proof of FnApart: the functions that it reads off the program. There is no condition. -/
import Derived.Test.YtnhnpggoknepfaaKmAm3
namespace Km.X
open Go Km
set_option linter.unusedVariables false
set_option maxRecDepth 100000
structure az_ where
  Text:ByteArray
  Last:Bool
structure ag_ where
  Part:az_
  Has:Bool
  Since:Int
structure ak_ where
  Base:Int
  Items:List ag_
structure aj_ where
  Seq:Int
  Part:az_
structure ai_ where
  Next:Int
  Held:List aj_
  Open:ByteArray
  Ready:List ByteArray
structure am_ where
  Number:Int
  Up:Bool
  Life:Int
  Peer:Int
  Since:Int
  Owes:Bool
  Send:ak_
  Take:ai_
structure ae_ where
  Kind:Int
  From:Int
  Mine:Int
  Yours:Int
  Next:Int
  Mask:Int
  Seq:Int
  Last:Bool
  Part:ByteArray
structure aw_ where
  Code:Int
  End:am_
  Out:List ae_
  Text:ByteArray
structure aT_ where
  Kind:Int
  A:Int
  B:Int
  C:Int
  Text:ByteArray
structure DKey where
  to:Int
  bytes:ByteArray
structure as_ where
  b:List Int
  p:Int
structure aJ_ where
  to:Int
  bytes:ByteArray
  n:Int
structure DPair where
  f:Int
  a:Int
  b:Int
structure ad_ where
  To:Int
  Sent:ByteArray
  Bytes:ByteArray
structure aa_ where
  From:Int
  A:Int
  B:Int
  Text:ByteArray
structure ab_ where
  Key:ByteArray
  Width:Int
  Ends:List am_
  Flight:List ad_
  Forged:ByteArray
  Given:List aa_
  Taken:List aa_
def eM_ (x y:DKey):Bool:=((x.to==y.to)&&((x.bytes.toList==y.bytes.toList)&&true))
theorem pg_ {x y:DKey} (h:eM_ x y=true):x=y:=by
  obtain ⟨x0,x1⟩:=x
  obtain ⟨y0,y1⟩:=y
  simp only [eM_,Bool.and_eq_true,Bool.and_true,beq_iff_eq] at h
  obtain ⟨h0,h1⟩:=h
  subst h0;have h1:=Km.toList_inj h1;subst h1;rfl
def a7_ (x y:DPair):Bool:=((x.f==y.f)&&((x.a==y.a)&&((x.b==y.b)&&true)))
theorem mt_ {x y:DPair} (h:a7_ x y=true):x=y:=by
  obtain ⟨x0,x1,x2⟩:=x
  obtain ⟨y0,y1,y2⟩:=y
  simp only [a7_,Bool.and_eq_true,Bool.and_true,beq_iff_eq] at h
  obtain ⟨h0,h1,h2⟩:=h
  subst h0;subst h1;subst h2;rfl
def me_ (x:Int):Prop:=(Lit.int .u8 x).wf=true
def BA_ (x:ByteArray):Prop:=x.size≤maxLen
def sD_ (x:az_):Prop:=x.Text.size≤maxLen∧True
def vA_ (x:ag_):Prop:=sD_ x.Part∧True∧(Lit.int .i64 x.Since).wf=true
def za_ (x:ag_):Prop:=vA_ x
def zO_ (x:ak_):Prop:=(Lit.int .i64 x.Base).wf=true∧(x.Items.length≤maxLen∧∀y∈x.Items,za_ y)
def vK_ (x:aj_):Prop:=(Lit.int .i64 x.Seq).wf=true∧sD_ x.Part
def yE_ (x:aj_):Prop:=vK_ x
def yJ_ (x:ai_):Prop:=(Lit.int .i64 x.Next).wf=true∧(x.Held.length≤maxLen∧∀y∈x.Held,yE_ y)∧x.Open.size≤maxLen∧(x.Ready.length≤maxLen∧∀y∈x.Ready,BA_ y)
def DJ_ (x:am_):Prop:=(Lit.int .i64 x.Number).wf=true∧True∧(Lit.int .i64 x.Life).wf=true∧(Lit.int .i64 x.Peer).wf=true∧(Lit.int .i64 x.Since).wf=true∧True∧zO_ x.Send∧yJ_ x.Take
def ys_ (x:ae_):Prop:=(Lit.int .i64 x.Kind).wf=true∧(Lit.int .i64 x.From).wf=true∧(Lit.int .i64 x.Mine).wf=true∧(Lit.int .i64 x.Yours).wf=true∧(Lit.int .i64 x.Next).wf=true∧(Lit.int .i64 x.Mask).wf=true∧(Lit.int .i64 x.Seq).wf=true∧True∧x.Part.size≤maxLen
def A1_ (x:aT_):Prop:=(Lit.int .i64 x.Kind).wf=true∧(Lit.int .i64 x.A).wf=true∧(Lit.int .i64 x.B).wf=true∧(Lit.int .i64 x.C).wf=true∧x.Text.size≤maxLen
def xD_ (x:aJ_):Prop:=(Lit.int .i64 x.to).wf=true∧x.bytes.size≤maxLen∧(Lit.int .i64 x.n).wf=true
def zX_ (x:ad_):Prop:=(Lit.int .i64 x.To).wf=true∧x.Sent.size≤maxLen∧x.Bytes.size≤maxLen
def zK_ (x:aa_):Prop:=(Lit.int .i64 x.From).wf=true∧(Lit.int .i64 x.A).wf=true∧(Lit.int .i64 x.B).wf=true∧x.Text.size≤maxLen
end Km.X
namespace Km.X
open Go Km
set_option linter.unusedVariables false
set_option maxRecDepth 100000
def gO_:Nat→ByteArray→List az_→Option (List az_)
  | 0,_,_=>none
  | k+1,x0,x1=>
    bif (decide ((x0.size:Int)>20)) then
      (wnd x0.size 0 20).bind fun p1=>
      (app 24 x1 ([(⟨(x0.extract p1.1 p1.2),false⟩:az_)]:List az_)).bind fun l2=>
      (wnd x0.size 20 (x0.size:Int)).bind fun p3=>
      gO_ k (x0.extract p3.1 p3.2) l2
    else
      (app 24 x1 ([(⟨x0,true⟩:az_)]:List az_)).bind fun l4=>
      some l4
def lB_ (k:Nat) (a0:ByteArray):Option (List az_):=
  bif (decide ((a0.size:Int)>200)) then
    some ([]:List az_)
  else
    gO_ k a0 ([]:List az_)
def e0_:Nat→ByteArray→List az_→Option (List az_)
  | 0,_,_=>none
  | k+1,x0,x1=>
    bif (decide ((x0.size:Int)>20)) then
      (wnd x0.size 0 20).bind fun p1=>
      (app 24 x1 ([(⟨(x0.extract p1.1 p1.2),false⟩:az_)]:List az_)).bind fun l2=>
      (wnd x0.size 20 (x0.size:Int)).bind fun p3=>
      e0_ k (x0.extract p3.1 p3.2) l2
    else
      (app 24 x1 ([(⟨x0,true⟩:az_)]:List az_)).bind fun l4=>
      some l4
def jI_ (k:Nat) (a0:ByteArray):Option (List az_):=
  bif (decide ((a0.size:Int)>200)) then
    some ([]:List az_)
  else
    e0_ k a0 ([]:List az_)
def ay_ (k:Nat) (a0:Int) (a1:Int) (a2:Int):Option (Bool):=
  bif (decide (a0≥a1)) then
    some (decide (a0≤a2))
  else
    some false
def dP_:Nat→ByteArray→Int→Int→Option (Int)
  | 0,_,_,_=>none
  | k+1,x0,x1,x2=>
    bif (decide (x2<(x0.size:Int))) then
      (sN_ x0 x2).bind fun c1=>
      dP_ k x0 (IntKind.wrap .i64 ((IntKind.wrap .i64 (x1*256))+(IntKind.wrap .i64 (c1.toNat:Int)))) (IntKind.wrap .i64 (x2+1))
    else
      some x1
def fI_ (k:Nat) (a0:ByteArray):Option (Int):=
  dP_ k a0 0 0
def gi_ (k:Nat) (a0:ae_):Option (Bool):=
  (ay_ k a0.From 1 2).bind fun r1=>
  bif (!r1) then
    some false
  else
    (ay_ k a0.Mine 1 1000).bind fun r2=>
    bif (!r2) then
      some false
    else
      (ay_ k a0.Yours 0 1000).bind fun r3=>
      bif (!r3) then
        some false
      else
        bif (a0.Kind==1) then
          (ay_ k a0.Next 0 1000000).bind fun r4=>
          bif r4 then
            (ay_ k a0.Mask 0 255).bind fun r5=>
            bif r5 then
              bif (a0.Seq==0) then
                bif (!a0.Last) then
                  some (a0.Part.toList==(⟨#[]⟩:ByteArray).toList)
                else
                  some false
              else
                some false
            else
              some false
          else
            some false
        else
          bif (a0.Kind==2) then
            bif (a0.Next==0) then
              bif (a0.Mask==0) then
                (ay_ k a0.Seq 0 999999).bind fun r6=>
                bif r6 then
                  some (decide ((a0.Part.size:Int)≤20))
                else
                  some false
              else
                some false
            else
              some false
          else
            some false
def cG_:Nat→Int→Int→ByteArray→Int→Option (ByteArray)
  | 0,_,_,_,_=>none
  | k+1,x0,x1,x2,x3=>
    bif (decide (x3<x1)) then
      (ql_ x0 256).bind fun q1=>
      (j0_ (jb_ ([(IntKind.wrap .u8 q1)]:List Int)) x2).bind fun t2=>
      (xa_ x0 256).bind fun q3=>
      cG_ k (IntKind.wrap .i64 (q3)) x1 t2 (IntKind.wrap .i64 (x3+1))
    else
      some x2
def bW_ (k:Nat) (a0:Int) (a1:Int):Option (ByteArray):=
  cG_ k a0 a1 (⟨#[]⟩:ByteArray) 0
def eN_:Nat→ByteArray→Int→Int→Int→Int→Int→Int→Int→Int→Bool→ByteArray→Option (ByteArray)
  | 0,_,_,_,_,_,_,_,_,_,_,_=>none
  | k+1,x0,x1,x2,x3,x4,x5,x6,x7,x8,x9,x10=>
    (bW_ k x8 4).bind fun r12=>
    (j0_ x0 r12).bind fun t13=>
    (bW_ k x1 1).bind fun r14=>
    (j0_ t13 r14).bind fun t15=>
    (j0_ t15 x10).bind fun t16=>
    some t16
def g5_ (k:Nat) (a0:ae_):Option (ByteArray):=
  (bW_ k a0.Kind 1).bind fun r1=>
  (bW_ k a0.From 1).bind fun r2=>
  (j0_ r1 r2).bind fun t3=>
  (bW_ k a0.Mine 2).bind fun r4=>
  (j0_ t3 r4).bind fun t5=>
  (bW_ k a0.Yours 2).bind fun r6=>
  (j0_ t5 r6).bind fun t7=>
  bif (a0.Kind==1) then
    (bW_ k a0.Next 4).bind fun r8=>
    (j0_ t7 r8).bind fun t9=>
    (bW_ k a0.Mask 1).bind fun r10=>
    (j0_ t9 r10).bind fun t11=>
    some t11
  else
    bif a0.Last then
      eN_ k t7 1 a0.Kind a0.From a0.Mine a0.Yours a0.Next a0.Mask a0.Seq a0.Last a0.Part
    else
      eN_ k t7 0 a0.Kind a0.From a0.Mine a0.Yours a0.Next a0.Mask a0.Seq a0.Last a0.Part
mutual
def fQ_:Nat→Int→ByteArray→Int→Int→Option (ByteArray)
  | 0,_,_,_,_=>none
  | k+1,x0,x1,x2,x3=>
    bif (decide (x3<(x1.size:Int))) then
      (sN_ x1 x3).bind fun c4=>
      fQ_ k x0 x1 (IntKind.wrap .u64 ((iP_ .u64 x2 (IntKind.wrap .u64 (c4.toNat:Int)))*1099511628211)) (IntKind.wrap .i64 (x3+1))
    else
      e8_ k x0 x2 (⟨#[]⟩:ByteArray) 0
def e8_:Nat→Int→Int→ByteArray→Int→Option (ByteArray)
  | 0,_,_,_,_=>none
  | k+1,x0,x1,x2,x3=>
    bif (decide (x3<x0)) then
      (ql_ x1 256).bind fun q5=>
      (j0_ (jb_ ([(IntKind.wrap .u8 q5)]:List Int)) x2).bind fun t6=>
      (xa_ x1 256).bind fun q7=>
      e8_ k x0 (IntKind.wrap .u64 (q7)) t6 (IntKind.wrap .i64 (x3+1))
    else
      some x2
end
def n4_ (k:Nat) (a0:ByteArray) (a1:ByteArray) (a2:Int):Option (ByteArray):=
  (ay_ k a2 1 8).bind fun r1=>
  bif (!r1) then
    some (⟨#[]⟩:ByteArray)
  else
    bif (decide ((a1.size:Int)>30)) then
      some (⟨#[]⟩:ByteArray)
    else
      (j0_ a1 (⟨#[0]⟩:ByteArray)).bind fun t2=>
      (j0_ t2 a0).bind fun t3=>
      fQ_ k a2 t3 14695981039346656037 0
def dd_ (k:Nat) (a0:ae_) (a1:ByteArray) (a2:Int):Option (ByteArray):=
  (gi_ k a0).bind fun r1=>
  bif (!r1) then
    some (⟨#[]⟩:ByteArray)
  else
    (ay_ k a2 1 8).bind fun r2=>
    bif (!r2) then
      some (⟨#[]⟩:ByteArray)
    else
      bif (decide ((a1.size:Int)>30)) then
        some (⟨#[]⟩:ByteArray)
      else
        (g5_ k a0).bind fun r3=>
        (n4_ k r3 a1 a2).bind fun r4=>
        (g5_ k a0).bind fun r5=>
        (j0_ r4 r5).bind fun t6=>
        some t6
def cA_:Nat→ByteArray→ByteArray→Int→Int→Int→Int→Int→Int→Int→Int→Bool→ByteArray→Int→Int→Int→Int→Int→Int→Int→Bool→ByteArray→Option (ae_×Bool)
  | 0,_,_,_,_,_,_,_,_,_,_,_,_,_,_,_,_,_,_,_,_,_=>none
  | k+1,x0,x1,x2,x3,x4,x5,x6,x7,x8,x9,x10,x11,x12,x13,x14,x15,x16,x17,x18,x19,x20=>
    (dd_ k (⟨x12,x13,x14,x15,x16,x17,x18,x19,x20⟩:ae_) x1 x2).bind fun r16=>
    bif (!(r16.toList==x0.toList)) then
      some ((⟨0,0,0,0,0,0,0,false,(⟨#[]⟩:ByteArray)⟩:ae_),false)
    else
      some ((⟨x12,x13,x14,x15,x16,x17,x18,x19,x20⟩:ae_),true)
def fA_ (k:Nat) (a0:ByteArray) (a1:ByteArray) (a2:Int):Option (ae_×Bool):=
  (ay_ k a2 1 8).bind fun r1=>
  bif (!r1) then
    some ((⟨0,0,0,0,0,0,0,false,(⟨#[]⟩:ByteArray)⟩:ae_),false)
  else
    bif (decide ((a0.size:Int)<(IntKind.wrap .i64 (a2+11)))) then
      some ((⟨0,0,0,0,0,0,0,false,(⟨#[]⟩:ByteArray)⟩:ae_),false)
    else
      (wnd a0.size a2 (a0.size:Int)).bind fun p2=>
      (sN_ (a0.extract p2.1 p2.2) 0).bind fun c3=>
      (sN_ (a0.extract p2.1 p2.2) 1).bind fun c4=>
      (wnd (a0.extract p2.1 p2.2).size 2 4).bind fun p5=>
      (fI_ k ((a0.extract p2.1 p2.2).extract p5.1 p5.2)).bind fun r6=>
      (wnd (a0.extract p2.1 p2.2).size 4 6).bind fun p7=>
      (fI_ k ((a0.extract p2.1 p2.2).extract p7.1 p7.2)).bind fun r8=>
      bif ((IntKind.wrap .i64 (c3.toNat:Int))==1) then
        (wnd (a0.extract p2.1 p2.2).size 6 10).bind fun p9=>
        (fI_ k ((a0.extract p2.1 p2.2).extract p9.1 p9.2)).bind fun r10=>
        (sN_ (a0.extract p2.1 p2.2) 10).bind fun c11=>
        cA_ k a0 a1 a2 0 0 0 0 0 0 0 false (⟨#[]⟩:ByteArray) (IntKind.wrap .i64 (c3.toNat:Int)) (IntKind.wrap .i64 (c4.toNat:Int)) r6 r8 r10 (IntKind.wrap .i64 (c11.toNat:Int)) 0 false (⟨#[]⟩:ByteArray)
      else
        (wnd (a0.extract p2.1 p2.2).size 6 10).bind fun p12=>
        (fI_ k ((a0.extract p2.1 p2.2).extract p12.1 p12.2)).bind fun r13=>
        (sN_ (a0.extract p2.1 p2.2) 10).bind fun c14=>
        (wnd (a0.extract p2.1 p2.2).size 11 ((a0.extract p2.1 p2.2).size:Int)).bind fun p15=>
        cA_ k a0 a1 a2 0 0 0 0 0 0 0 false (⟨#[]⟩:ByteArray) (IntKind.wrap .i64 (c3.toNat:Int)) (IntKind.wrap .i64 (c4.toNat:Int)) r6 r8 0 0 r13 ((c14.toNat:Int)==1) ((a0.extract p2.1 p2.2).extract p15.1 p15.2)
def fT_:Nat→ByteArray→Int→Int→Option (Int)
  | 0,_,_,_=>none
  | k+1,x0,x1,x2=>
    bif (decide (x2<(x0.size:Int))) then
      (shift .shl .i64 x1 8).bind fun s1=>
      (sN_ x0 x2).bind fun c2=>
      fT_ k x0 (wn_ .i64 s1 (IntKind.wrap .i64 (c2.toNat:Int))) (IntKind.wrap .i64 (x2+1))
    else
      some x1
def jJ_ (k:Nat) (a0:ByteArray):Option (Int):=
  fT_ k a0 0 0
def aP_ (k:Nat) (a0:Int) (a1:Int) (a2:Int):Option (Bool):=
  bif (decide (a0≥a1)) then
    some (decide (a0≤a2))
  else
    some false
def bd_ (k:Nat) (a0:ae_):Option (Bool):=
  bif (a0.From !=1) then
    bif (a0.From !=2) then
      some false
    else
      (aP_ k a0.Mine 1 1000).bind fun r1=>
      bif (!r1) then
        some false
      else
        (aP_ k a0.Yours 0 1000).bind fun r2=>
        bif (!r2) then
          some false
        else
          bif (a0.Kind==1) then
            (aP_ k a0.Next 0 1000000).bind fun r3=>
            bif r3 then
              (aP_ k a0.Mask 0 255).bind fun r4=>
              bif r4 then
                bif (a0.Seq==0) then
                  bif (!a0.Last) then
                    some (a0.Part.toList==(⟨#[]⟩:ByteArray).toList)
                  else
                    some false
                else
                  some false
              else
                some false
            else
              some false
          else
            bif (a0.Kind==2) then
              bif (a0.Next==0) then
                bif (a0.Mask==0) then
                  (aP_ k a0.Seq 0 999999).bind fun r5=>
                  bif r5 then
                    some (decide ((a0.Part.size:Int)≤20))
                  else
                    some false
                else
                  some false
              else
                some false
            else
              some false
  else
    (aP_ k a0.Mine 1 1000).bind fun r6=>
    bif (!r6) then
      some false
    else
      (aP_ k a0.Yours 0 1000).bind fun r7=>
      bif (!r7) then
        some false
      else
        bif (a0.Kind==1) then
          (aP_ k a0.Next 0 1000000).bind fun r8=>
          bif r8 then
            (aP_ k a0.Mask 0 255).bind fun r9=>
            bif r9 then
              bif (a0.Seq==0) then
                bif (!a0.Last) then
                  some (a0.Part.toList==(⟨#[]⟩:ByteArray).toList)
                else
                  some false
              else
                some false
            else
              some false
          else
            some false
        else
          bif (a0.Kind==2) then
            bif (a0.Next==0) then
              bif (a0.Mask==0) then
                (aP_ k a0.Seq 0 999999).bind fun r10=>
                bif r10 then
                  some (decide ((a0.Part.size:Int)≤20))
                else
                  some false
              else
                some false
            else
              some false
          else
            some false
def gM_:Nat→Int→Int→List Int→Option (ByteArray)
  | 0,_,_,_=>none
  | k+1,x0,x1,x2=>
    bif (decide (x1≥0)) then
      (idx x2 x1).bind fun _=>
      (x2[(Int.toNat x1)]?).bind fun y2=>
      (shift .shr .i64 x0 8).bind fun s3=>
      gM_ k s3 (IntKind.wrap .i64 (x1-1)) (x2.set (Int.toNat x1) (IntKind.wrap .u8 x0))
    else
      some (jb_ x2)
def gV_ (k:Nat) (a0:Int) (a1:Int):Option (ByteArray):=
  (if (a1:Int)=a1 then room 1 a1 else none).bind fun n1=>
  gM_ k a0 (IntKind.wrap .i64 (a1-1)) (List.replicate n1 0)
mutual
def fN_:Nat→Int→Int→ByteArray→Int→Option (ByteArray)
  | 0,_,_,_,_=>none
  | k+1,x0,x1,x2,x3=>
    bif (decide (x3<(x2.size:Int))) then
      (sN_ x2 x3).bind fun c3=>
      fN_ k x0 (IntKind.wrap .u64 ((iP_ .u64 x1 (IntKind.wrap .u64 (c3.toNat:Int)))*1099511628211)) x2 (IntKind.wrap .i64 (x3+1))
    else
      fe_ k x0 x1 7 (List.replicate 8 0)
def fe_:Nat→Int→Int→Int→List Int→Option (ByteArray)
  | 0,_,_,_,_=>none
  | k+1,x0,x1,x2,x3=>
    bif (decide (x2≥0)) then
      (if x3.length=8 then idx x3 x2 else none).bind fun _=>
      (x3[(Int.toNat x2)]?).bind fun y4=>
      (shift .shr .u64 x1 8).bind fun s5=>
      fe_ k x0 s5 (IntKind.wrap .i64 (x2-1)) (x3.set (Int.toNat x2) (IntKind.wrap .u8 x1))
    else
      (if x3.length=8 then wnd 8 (IntKind.wrap .i64 (8-x0)) (8:Int) else none).bind fun p6=>
      some (jb_ (dT_ x3 p6.1 p6.2))
end
def ob_ (k:Nat) (a0:ByteArray) (a1:ByteArray) (a2:Int):Option (ByteArray):=
  bif (decide (a2<1)) then
    some (⟨#[]⟩:ByteArray)
  else
    bif (decide (a2>8)) then
      some (⟨#[]⟩:ByteArray)
    else
      bif (decide ((a1.size:Int)>30)) then
        some (⟨#[]⟩:ByteArray)
      else
        (j0_ a1 (⟨#[0]⟩:ByteArray)).bind fun t1=>
        (j0_ t1 a0).bind fun t2=>
        fN_ k a2 14695981039346656037 t2 0
mutual
def cw_:Nat→ByteArray→Int→ByteArray→Option (ByteArray)
  | 0,_,_,_=>none
  | k+1,x0,x1,x2=>
    (ob_ k x2 x0 x1).bind fun r13=>
    (j0_ r13 x2).bind fun t14=>
    some t14
def cT_:Nat→ByteArray→Int→ByteArray→Int→Int→Int→Int→Int→Int→Int→Int→Bool→ByteArray→Option (ByteArray)
  | 0,_,_,_,_,_,_,_,_,_,_,_,_,_=>none
  | k+1,x0,x1,x2,x3,x4,x5,x6,x7,x8,x9,x10,x11,x12=>
    (gV_ k x10 4).bind fun r15=>
    (gV_ k x3 1).bind fun r16=>
    (j0_ r15 r16).bind fun t17=>
    (j0_ t17 x12).bind fun t18=>
    (j0_ x2 t18).bind fun t19=>
    cw_ k x0 x1 t19
end
def c9_ (k:Nat) (a0:ae_) (a1:ByteArray) (a2:Int):Option (ByteArray):=
  (bd_ k a0).bind fun r1=>
  bif (!r1) then
    some (⟨#[]⟩:ByteArray)
  else
    bif (decide (a2<1)) then
      some (⟨#[]⟩:ByteArray)
    else
      bif (decide (a2>8)) then
        some (⟨#[]⟩:ByteArray)
      else
        bif (decide ((a1.size:Int)>30)) then
          some (⟨#[]⟩:ByteArray)
        else
          (gV_ k a0.Kind 1).bind fun r2=>
          (gV_ k a0.From 1).bind fun r3=>
          (j0_ r2 r3).bind fun t4=>
          (gV_ k a0.Mine 2).bind fun r5=>
          (j0_ t4 r5).bind fun t6=>
          (gV_ k a0.Yours 2).bind fun r7=>
          (j0_ t6 r7).bind fun t8=>
          bif (a0.Kind==1) then
            (gV_ k a0.Next 4).bind fun r9=>
            (gV_ k a0.Mask 1).bind fun r10=>
            (j0_ r9 r10).bind fun t11=>
            (j0_ t8 t11).bind fun t12=>
            cw_ k a1 a2 t12
          else
            bif a0.Last then
              cT_ k a1 a2 t8 1 a0.Kind a0.From a0.Mine a0.Yours a0.Next a0.Mask a0.Seq a0.Last a0.Part
            else
              cT_ k a1 a2 t8 0 a0.Kind a0.From a0.Mine a0.Yours a0.Next a0.Mask a0.Seq a0.Last a0.Part
def bx_:Nat→ByteArray→ByteArray→Int→Int→Int→Int→Int→Int→Int→Int→Bool→ByteArray→Int→Int→Int→Int→Int→Int→Int→Bool→ByteArray→Option (ae_×Bool)
  | 0,_,_,_,_,_,_,_,_,_,_,_,_,_,_,_,_,_,_,_,_,_=>none
  | k+1,x0,x1,x2,x3,x4,x5,x6,x7,x8,x9,x10,x11,x12,x13,x14,x15,x16,x17,x18,x19,x20=>
    (bd_ k (⟨x12,x13,x14,x15,x16,x17,x18,x19,x20⟩:ae_)).bind fun r15=>
    bif (!r15) then
      some ((⟨0,0,0,0,0,0,0,false,(⟨#[]⟩:ByteArray)⟩:ae_),false)
    else
      (c9_ k (⟨x12,x13,x14,x15,x16,x17,x18,x19,x20⟩:ae_) x1 x2).bind fun r16=>
      bif (!(r16.toList==x0.toList)) then
        some ((⟨0,0,0,0,0,0,0,false,(⟨#[]⟩:ByteArray)⟩:ae_),false)
      else
        some ((⟨x12,x13,x14,x15,x16,x17,x18,x19,x20⟩:ae_),true)
def fv_ (k:Nat) (a0:ByteArray) (a1:ByteArray) (a2:Int):Option (ae_×Bool):=
  bif (decide (a2<1)) then
    some ((⟨0,0,0,0,0,0,0,false,(⟨#[]⟩:ByteArray)⟩:ae_),false)
  else
    bif (decide (a2>8)) then
      some ((⟨0,0,0,0,0,0,0,false,(⟨#[]⟩:ByteArray)⟩:ae_),false)
    else
      bif (decide ((a1.size:Int)>30)) then
        some ((⟨0,0,0,0,0,0,0,false,(⟨#[]⟩:ByteArray)⟩:ae_),false)
      else
        bif (decide ((a0.size:Int)<(IntKind.wrap .i64 (a2+11)))) then
          some ((⟨0,0,0,0,0,0,0,false,(⟨#[]⟩:ByteArray)⟩:ae_),false)
        else
          (wnd a0.size a2 (a0.size:Int)).bind fun p1=>
          (sN_ (a0.extract p1.1 p1.2) 0).bind fun c2=>
          (sN_ (a0.extract p1.1 p1.2) 1).bind fun c3=>
          (wnd (a0.extract p1.1 p1.2).size 2 4).bind fun p4=>
          (jJ_ k ((a0.extract p1.1 p1.2).extract p4.1 p4.2)).bind fun r5=>
          (wnd (a0.extract p1.1 p1.2).size 4 6).bind fun p6=>
          (jJ_ k ((a0.extract p1.1 p1.2).extract p6.1 p6.2)).bind fun r7=>
          bif ((IntKind.wrap .i64 (c2.toNat:Int))==1) then
            (wnd (a0.extract p1.1 p1.2).size 6 10).bind fun p8=>
            (jJ_ k ((a0.extract p1.1 p1.2).extract p8.1 p8.2)).bind fun r9=>
            (sN_ (a0.extract p1.1 p1.2) 10).bind fun c10=>
            bx_ k a0 a1 a2 0 0 0 0 0 0 0 false (⟨#[]⟩:ByteArray) (IntKind.wrap .i64 (c2.toNat:Int)) (IntKind.wrap .i64 (c3.toNat:Int)) r5 r7 r9 (IntKind.wrap .i64 (c10.toNat:Int)) 0 false (⟨#[]⟩:ByteArray)
          else
            bif ((IntKind.wrap .i64 (c2.toNat:Int))==2) then
              (wnd (a0.extract p1.1 p1.2).size 6 10).bind fun p11=>
              (jJ_ k ((a0.extract p1.1 p1.2).extract p11.1 p11.2)).bind fun r12=>
              (sN_ (a0.extract p1.1 p1.2) 10).bind fun c13=>
              (wnd (a0.extract p1.1 p1.2).size 11 ((a0.extract p1.1 p1.2).size:Int)).bind fun p14=>
              bx_ k a0 a1 a2 0 0 0 0 0 0 0 false (⟨#[]⟩:ByteArray) (IntKind.wrap .i64 (c2.toNat:Int)) (IntKind.wrap .i64 (c3.toNat:Int)) r5 r7 0 0 r12 ((c13.toNat:Int)==1) ((a0.extract p1.1 p1.2).extract p14.1 p14.2)
            else
              bx_ k a0 a1 a2 0 0 0 0 0 0 0 false (⟨#[]⟩:ByteArray) (IntKind.wrap .i64 (c2.toNat:Int)) (IntKind.wrap .i64 (c3.toNat:Int)) r5 r7 0 0 0 false (⟨#[]⟩:ByteArray)
def gW_ (k:Nat) (a0:ai_) (a1:Int):Option (Bool):=
  (ay_ k a1 a0.Next (IntKind.wrap .i64 ((IntKind.wrap .i64 (a0.Next+8))-1))).bind fun r1=>
  bif r1 then
    some (decide (a1≤999999))
  else
    some false
def ff_ (k:Nat) (a0:ai_) (a1:az_):Option (Bool):=
  bif (decide ((IntKind.wrap .i64 ((a0.Open.size:Int)+(a1.Text.size:Int)))≤200)) then
    bif (!a1.Last) then
      some true
    else
      some (decide ((a0.Ready.length:Int)<4))
  else
    some false
mutual
def ct_:Nat→Int→Int→List aj_→ByteArray→List ByteArray→Option (Bool)
  | 0,_,_,_,_,_=>none
  | k+1,x0,x1,x2,x3,x4=>
    bif (decide (x0<(x4.length:Int))) then
      (idx x4 x0).bind fun y2=>
      bif (decide ((y2.size:Int)>200)) then
        some false
      else
        ct_ k (IntKind.wrap .i64 (x0+1)) x1 x2 x3 x4
    else
      aN_ k 0 x1 x2 x3 x4
def aN_:Nat→Int→Int→List aj_→ByteArray→List ByteArray→Option (Bool)
  | 0,_,_,_,_,_=>none
  | k+1,x0,x1,x2,x3,x4=>
    bif (decide (x0<(x2.length:Int))) then
      (idx x2 x0).bind fun y3=>
      (gW_ k (⟨x1,x2,x3,x4⟩:ai_) y3.Seq).bind fun r4=>
      bif (!r4) then
        some false
      else
        bif (decide ((y3.Part.Text.size:Int)>20)) then
          some false
        else
          bif (decide (x0>0)) then
            (idx x2 (IntKind.wrap .i64 (x0-1))).bind fun y5=>
            bif (decide (y5.Seq≥y3.Seq)) then
              some false
            else
              bif (y3.Seq==x1) then
                (ff_ k (⟨x1,x2,x3,x4⟩:ai_) y3.Part).bind fun r6=>
                bif r6 then
                  some false
                else
                  aN_ k (IntKind.wrap .i64 (x0+1)) x1 x2 x3 x4
              else
                aN_ k (IntKind.wrap .i64 (x0+1)) x1 x2 x3 x4
          else
            bif (y3.Seq==x1) then
              (ff_ k (⟨x1,x2,x3,x4⟩:ai_) y3.Part).bind fun r7=>
              bif r7 then
                some false
              else
                aN_ k (IntKind.wrap .i64 (x0+1)) x1 x2 x3 x4
            else
              aN_ k (IntKind.wrap .i64 (x0+1)) x1 x2 x3 x4
    else
      some true
end
def c3_ (k:Nat) (a0:ai_):Option (Bool):=
  (ay_ k a0.Next 0 1000000).bind fun r1=>
  bif (!r1) then
    some false
  else
    bif (decide ((a0.Held.length:Int)>8)) then
      some false
    else
      bif (decide ((a0.Open.size:Int)>200)) then
        some false
      else
        bif (decide ((a0.Ready.length:Int)>4)) then
          some false
        else
          ct_ k 0 a0.Next a0.Held a0.Open a0.Ready
def g3_ (k:Nat) (a0:ai_) (a1:az_):Option (Bool):=
  bif (decide ((IntKind.wrap .i64 ((a0.Open.size:Int)+(a1.Text.size:Int)))≤200)) then
    bif (!a1.Last) then
      some true
    else
      some (decide ((a0.Ready.length:Int)<4))
  else
    some false
mutual
def aK_:Nat→List aj_→Int→Int→Int→List aj_→ByteArray→List ByteArray→Option (Bool)
  | 0,_,_,_,_,_,_,_=>none
  | k+1,x0,x1,x2,x3,x4,x5,x6=>
    bif (decide (x2<x1)) then
      (idx x0 x2).bind fun y2=>
      (aP_ k y2.Seq x3 (IntKind.wrap .i64 ((IntKind.wrap .i64 (x3+8))-1))).bind fun r3=>
      bif (!r3) then
        some false
      else
        bif (decide (y2.Seq>999999)) then
          some false
        else
          bif (decide ((y2.Part.Text.size:Int)>20)) then
            some false
          else
            bif (decide (x2>0)) then
              (idx x4 (IntKind.wrap .i64 (x2-1))).bind fun y4=>
              bif (decide (y4.Seq≥y2.Seq)) then
                some false
              else
                bif (y2.Seq==x3) then
                  (g3_ k (⟨x3,x4,x5,x6⟩:ai_) y2.Part).bind fun r5=>
                  bif r5 then
                    some false
                  else
                    aK_ k x0 x1 (IntKind.wrap .i64 (x2+1)) x3 x4 x5 x6
                else
                  aK_ k x0 x1 (IntKind.wrap .i64 (x2+1)) x3 x4 x5 x6
            else
              bif (y2.Seq==x3) then
                (g3_ k (⟨x3,x4,x5,x6⟩:ai_) y2.Part).bind fun r6=>
                bif r6 then
                  some false
                else
                  aK_ k x0 x1 (IntKind.wrap .i64 (x2+1)) x3 x4 x5 x6
              else
                aK_ k x0 x1 (IntKind.wrap .i64 (x2+1)) x3 x4 x5 x6
    else
      b6_ k x6 (x6.length:Int) 0
def b6_:Nat→List ByteArray→Int→Int→Option (Bool)
  | 0,_,_,_=>none
  | k+1,x0,x1,x2=>
    bif (decide (x2<x1)) then
      (idx x0 x2).bind fun y7=>
      bif (decide ((y7.size:Int)>200)) then
        some false
      else
        b6_ k x0 x1 (IntKind.wrap .i64 (x2+1))
    else
      some true
end
def bU_ (k:Nat) (a0:ai_):Option (Bool):=
  (aP_ k a0.Next 0 1000000).bind fun r1=>
  bif (!r1) then
    some false
  else
    bif (decide ((a0.Held.length:Int)>8)) then
      some false
    else
      bif (decide ((a0.Open.size:Int)>200)) then
        some false
      else
        bif (decide ((a0.Ready.length:Int)>4)) then
          some false
        else
          aK_ k a0.Held (a0.Held.length:Int) 0 a0.Next a0.Held a0.Open a0.Ready
def fm_ (k:Nat) (a0:ai_):Option (ai_):=
  (app 32 ([]:List aj_) a0.Held).bind fun l1=>
  (app 16 ([]:List ByteArray) a0.Ready).bind fun l2=>
  some (⟨a0.Next,l1,a0.Open,l2⟩:ai_)
def fc_:Nat→Int→ByteArray→Int→ByteArray→List aj_→List ByteArray→List aj_→List ByteArray→Option (ai_)
  | 0,_,_,_,_,_,_,_,_=>none
  | k+1,x0,x1,x2,x3,x4,x5,x6,x7=>
    bif (decide ((x4.length:Int)>0)) then
      (idx x4 0).bind fun _=>
      (x4[(Int.toNat 0)]?).bind fun y1=>
      bif (y1.Seq==x0) then
        (idx x4 0).bind fun _=>
        (x4[(Int.toNat 0)]?).bind fun y2=>
        (g3_ k (⟨x0,x4,x1,x5⟩:ai_) y2.Part).bind fun r3=>
        bif r3 then
          (idx x4 0).bind fun _=>
          (x4[(Int.toNat 0)]?).bind fun y4=>
          (wnd x4.length 1 (x4.length:Int)).bind fun p5=>
          (app 32 ([]:List aj_) (dT_ x4 p5.1 p5.2)).bind fun l6=>
          (j0_ x1 y4.Part.Text).bind fun t7=>
          bif y4.Part.Last then
            (app 16 x5 ([t7]:List ByteArray)).bind fun l8=>
            fc_ k (IntKind.wrap .i64 (x0+1)) (⟨#[]⟩:ByteArray) x2 x3 l6 l8 x6 x7
          else
            fc_ k (IntKind.wrap .i64 (x0+1)) t7 x2 x3 l6 x5 x6 x7
        else
          some (⟨x0,x4,x1,x5⟩:ai_)
      else
        some (⟨x0,x4,x1,x5⟩:ai_)
    else
      some (⟨x0,x4,x1,x5⟩:ai_)
def fq_ (k:Nat) (a0:ai_):Option (ai_):=
  fc_ k a0.Next a0.Open 0 (⟨#[]⟩:ByteArray) a0.Held a0.Ready ([]:List aj_) ([]:List ByteArray)
def gF_ (k:Nat) (a0:ai_):Option (ai_×ByteArray×Bool):=
  (bU_ k a0).bind fun r1=>
  bif (!r1) then
    some ((⟨0,([]:List aj_),(⟨#[]⟩:ByteArray),([]:List ByteArray)⟩:ai_),(⟨#[]⟩:ByteArray),false)
  else
    (fm_ k a0).bind fun r2=>
    bif ((r2.Ready.length:Int)==0) then
      some (r2,(⟨#[]⟩:ByteArray),false)
    else
      (idx r2.Ready 0).bind fun _=>
      (r2.Ready[(Int.toNat 0)]?).bind fun y3=>
      (wnd r2.Ready.length 1 (r2.Ready.length:Int)).bind fun p4=>
      (app 16 ([]:List ByteArray) (dT_ r2.Ready p4.1 p4.2)).bind fun l5=>
      (fq_ k (⟨r2.Next,r2.Held,r2.Open,l5⟩:ai_)).bind fun r6=>
      some (r6,y3,true)
def cM_:Nat→Int→Int→ByteArray→Bool→Int→ByteArray→Int→ByteArray→List aj_→List ByteArray→List aj_→List ByteArray→Option (ai_)
  | 0,_,_,_,_,_,_,_,_,_,_,_,_=>none
  | k+1,x0,x1,x2,x3,x4,x5,x6,x7,x8,x9,x10,x11=>
    bif (decide (x1<(x10.length:Int))) then
      (idx x10 x1).bind fun _=>
      (x10[(Int.toNat x1)]?).bind fun y4=>
      bif (decide (y4.Seq<x0)) then
        cM_ k x0 (IntKind.wrap .i64 (x1+1)) x2 x3 x4 x5 x6 x7 x8 x9 x10 x11
      else
        bif (decide (x1<(x10.length:Int))) then
          (idx x10 x1).bind fun _=>
          (x10[(Int.toNat x1)]?).bind fun y5=>
          bif (y5.Seq==x0) then
            some (⟨x6,x10,x7,x11⟩:ai_)
          else
            (app 32 x10 ([(⟨0,(⟨(⟨#[]⟩:ByteArray),false⟩:az_)⟩:aj_)]:List aj_)).bind fun l6=>
            (wnd l6.length (IntKind.wrap .i64 (x1+1)) (l6.length:Int)).bind fun p7=>
            (wnd l6.length x1 (l6.length:Int)).bind fun p8=>
            (idx (cpy l6 p7.1 p7.2 (dT_ l6 p8.1 p8.2)) x1).bind fun _=>
            ((cpy l6 p7.1 p7.2 (dT_ l6 p8.1 p8.2))[(Int.toNat x1)]?).bind fun y9=>
            (fq_ k (⟨x6,((cpy l6 p7.1 p7.2 (dT_ l6 p8.1 p8.2)).set (Int.toNat x1) (⟨x0,(⟨x2,x3⟩:az_)⟩:aj_)),x7,x11⟩:ai_)).bind fun r10=>
            some r10
        else
          (app 32 x10 ([(⟨0,(⟨(⟨#[]⟩:ByteArray),false⟩:az_)⟩:aj_)]:List aj_)).bind fun l11=>
          (wnd l11.length (IntKind.wrap .i64 (x1+1)) (l11.length:Int)).bind fun p12=>
          (wnd l11.length x1 (l11.length:Int)).bind fun p13=>
          (idx (cpy l11 p12.1 p12.2 (dT_ l11 p13.1 p13.2)) x1).bind fun _=>
          ((cpy l11 p12.1 p12.2 (dT_ l11 p13.1 p13.2))[(Int.toNat x1)]?).bind fun y14=>
          (fq_ k (⟨x6,((cpy l11 p12.1 p12.2 (dT_ l11 p13.1 p13.2)).set (Int.toNat x1) (⟨x0,(⟨x2,x3⟩:az_)⟩:aj_)),x7,x11⟩:ai_)).bind fun r15=>
          some r15
    else
      bif (decide (x1<(x10.length:Int))) then
        (idx x10 x1).bind fun _=>
        (x10[(Int.toNat x1)]?).bind fun y16=>
        bif (y16.Seq==x0) then
          some (⟨x6,x10,x7,x11⟩:ai_)
        else
          (app 32 x10 ([(⟨0,(⟨(⟨#[]⟩:ByteArray),false⟩:az_)⟩:aj_)]:List aj_)).bind fun l17=>
          (wnd l17.length (IntKind.wrap .i64 (x1+1)) (l17.length:Int)).bind fun p18=>
          (wnd l17.length x1 (l17.length:Int)).bind fun p19=>
          (idx (cpy l17 p18.1 p18.2 (dT_ l17 p19.1 p19.2)) x1).bind fun _=>
          ((cpy l17 p18.1 p18.2 (dT_ l17 p19.1 p19.2))[(Int.toNat x1)]?).bind fun y20=>
          (fq_ k (⟨x6,((cpy l17 p18.1 p18.2 (dT_ l17 p19.1 p19.2)).set (Int.toNat x1) (⟨x0,(⟨x2,x3⟩:az_)⟩:aj_)),x7,x11⟩:ai_)).bind fun r21=>
          some r21
      else
        (app 32 x10 ([(⟨0,(⟨(⟨#[]⟩:ByteArray),false⟩:az_)⟩:aj_)]:List aj_)).bind fun l22=>
        (wnd l22.length (IntKind.wrap .i64 (x1+1)) (l22.length:Int)).bind fun p23=>
        (wnd l22.length x1 (l22.length:Int)).bind fun p24=>
        (idx (cpy l22 p23.1 p23.2 (dT_ l22 p24.1 p24.2)) x1).bind fun _=>
        ((cpy l22 p23.1 p23.2 (dT_ l22 p24.1 p24.2))[(Int.toNat x1)]?).bind fun y25=>
        (fq_ k (⟨x6,((cpy l22 p23.1 p23.2 (dT_ l22 p24.1 p24.2)).set (Int.toNat x1) (⟨x0,(⟨x2,x3⟩:az_)⟩:aj_)),x7,x11⟩:ai_)).bind fun r26=>
        some r26
def gG_ (k:Nat) (a0:ai_) (a1:Int) (a2:az_):Option (ai_):=
  (bU_ k a0).bind fun r1=>
  bif (!r1) then
    some (⟨0,([]:List aj_),(⟨#[]⟩:ByteArray),([]:List ByteArray)⟩:ai_)
  else
    (fm_ k a0).bind fun r2=>
    (aP_ k a1 a0.Next (IntKind.wrap .i64 ((IntKind.wrap .i64 (a0.Next+8))-1))).bind fun r3=>
    bif (!r3) then
      some r2
    else
      bif (decide (a1>999999)) then
        some r2
      else
        bif (decide ((a2.Text.size:Int)>20)) then
          some r2
        else
          cM_ k a1 0 a2.Text a2.Last 0 (⟨#[]⟩:ByteArray) r2.Next r2.Open ([]:List aj_) ([]:List ByteArray) r2.Held r2.Ready
mutual
def cj_:Nat→Int→Int→Int→List aj_→ByteArray→List ByteArray→Option (Int×Int)
  | 0,_,_,_,_,_,_=>none
  | k+1,x0,x1,x2,x3,x4,x5=>
    bif (decide (x1<(x3.length:Int))) then
      cS_ k x0 x1 1 x2 x2 x3 x4 x5
    else
      some (x2,x0)
def cS_:Nat→Int→Int→Int→Int→Int→List aj_→ByteArray→List ByteArray→Option (Int×Int)
  | 0,_,_,_,_,_,_,_,_=>none
  | k+1,x0,x1,x2,x3,x4,x5,x6,x7=>
    (idx x5 x1).bind fun y2=>
    bif (decide (x3<y2.Seq)) then
      cS_ k x0 x1 (IntKind.wrap .i64 (x2*2)) (IntKind.wrap .i64 (x3+1)) x4 x5 x6 x7
    else
      cj_ k (IntKind.wrap .i64 (x0+x2)) (IntKind.wrap .i64 (x1+1)) x4 x5 x6 x7
end
def ep_ (k:Nat) (a0:ai_):Option (Int×Int):=
  (c3_ k a0).bind fun r1=>
  bif (!r1) then
    some (0,0)
  else
    cj_ k 0 0 a0.Next a0.Held a0.Open a0.Ready
def cN_:Nat→Int→List aj_→Int→Int→Int→List aj_→ByteArray→List ByteArray→Option (Int×Int)
  | 0,_,_,_,_,_,_,_,_=>none
  | k+1,x0,x1,x2,x3,x4,x5,x6,x7=>
    bif (decide (x3<x2)) then
      (idx x1 x3).bind fun y2=>
      (shift .shl .i64 1 (IntKind.wrap .i64 (y2.Seq-x4))).bind fun s3=>
      cN_ k (wn_ .i64 x0 s3) x1 x2 (IntKind.wrap .i64 (x3+1)) x4 x5 x6 x7
    else
      some (x4,x0)
def et_ (k:Nat) (a0:ai_):Option (Int×Int):=
  (bU_ k a0).bind fun r1=>
  bif (!r1) then
    some (0,0)
  else
    cN_ k 0 a0.Held (a0.Held.length:Int) 0 a0.Next a0.Held a0.Open a0.Ready
def aM_:Nat→Int→Int→List ag_→Option (Bool)
  | 0,_,_,_=>none
  | k+1,x0,x1,x2=>
    bif (decide (x0<(x2.length:Int))) then
      (idx x2 x0).bind fun y2=>
      bif (decide ((y2.Part.Text.size:Int)>20)) then
        some false
      else
        (ay_ k y2.Since (-1) 3).bind fun r3=>
        bif (!r3) then
          some false
        else
          bif (decide (x0≥8)) then
            bif (y2.Since !=(-1)) then
              some false
            else
              bif y2.Has then
                bif (decide (y2.Since<0)) then
                  some false
                else
                  aM_ k (IntKind.wrap .i64 (x0+1)) x1 x2
              else
                aM_ k (IntKind.wrap .i64 (x0+1)) x1 x2
          else
            bif y2.Has then
              bif (decide (y2.Since<0)) then
                some false
              else
                aM_ k (IntKind.wrap .i64 (x0+1)) x1 x2
            else
              aM_ k (IntKind.wrap .i64 (x0+1)) x1 x2
    else
      some true
def bF_ (k:Nat) (a0:ak_):Option (Bool):=
  bif (decide ((a0.Items.length:Int)>60)) then
    some false
  else
    (ay_ k a0.Base 0 1000000).bind fun r1=>
    bif (!r1) then
      some false
    else
      bif (decide ((IntKind.wrap .i64 (a0.Base+(a0.Items.length:Int)))>1000000)) then
        some false
      else
        aM_ k 0 a0.Base a0.Items
def d4_ (k:Nat) (a0:ak_):Option (ak_):=
  (app 40 ([]:List ag_) a0.Items).bind fun l1=>
  some (⟨a0.Base,l1⟩:ak_)
def di_:Nat→Int→Int→List ag_→Option (Int)
  | 0,_,_,_=>none
  | k+1,x0,x1,x2=>
    bif (decide (x0<(x2.length:Int))) then
      (idx x2 x0).bind fun y1=>
      bif (decide (y1.Since≥0)) then
        di_ k (IntKind.wrap .i64 (x0+1)) x1 x2
      else
        some x0
    else
      some x0
def mG_ (k:Nat) (a0:ak_):Option (Int):=
  di_ k 0 a0.Base a0.Items
mutual
def bt_:Nat→Int→Int→Int→Int→List ag_→List ag_→Option (ak_)
  | 0,_,_,_,_,_,_=>none
  | k+1,x0,x1,x2,x3,x4,x5=>
    bif (decide (x1<8)) then
      (ql_ x0 2).bind fun q7=>
      bif (q7==1) then
        bif (decide (x1<(x5.length:Int))) then
          (idx x5 x1).bind fun _=>
          (x5[(Int.toNat x1)]?).bind fun y8=>
          bif (decide (y8.Since≥0)) then
            (idx x5 x1).bind fun _=>
            (x5[(Int.toNat x1)]?).bind fun y9=>
            bg_ k x0 x1 x2 x3 x4 (x5.set (Int.toNat x1) (⟨y9.Part,true,y9.Since⟩:ag_))
          else
            bg_ k x0 x1 x2 x3 x4 x5
        else
          bg_ k x0 x1 x2 x3 x4 x5
      else
        bg_ k x0 x1 x2 x3 x4 x5
    else
      some (⟨x3,x5⟩:ak_)
def bg_:Nat→Int→Int→Int→Int→List ag_→List ag_→Option (ak_)
  | 0,_,_,_,_,_,_=>none
  | k+1,x0,x1,x2,x3,x4,x5=>
    (xa_ x0 2).bind fun q10=>
    bt_ k (IntKind.wrap .i64 (q10)) (IntKind.wrap .i64 (x1+1)) x2 x3 x4 x5
end
def ft_ (k:Nat) (a0:ak_) (a1:Int) (a2:Int):Option (ak_):=
  (bF_ k a0).bind fun r1=>
  bif (!r1) then
    some (⟨0,([]:List ag_)⟩:ak_)
  else
    (d4_ k a0).bind fun r2=>
    bif (decide (a1<a0.Base)) then
      some r2
    else
      (mG_ k a0).bind fun r3=>
      bif (decide (a1>(IntKind.wrap .i64 (a0.Base+r3)))) then
        some r2
      else
        (ay_ k a2 0 255).bind fun r4=>
        bif (!r4) then
          some r2
        else
          (wnd r2.Items.length (IntKind.wrap .i64 (a1-a0.Base)) (r2.Items.length:Int)).bind fun p5=>
          (app 40 ([]:List ag_) (dT_ r2.Items p5.1 p5.2)).bind fun l6=>
          bt_ k a2 0 0 a1 ([]:List ag_) l6
def bz_:Nat→List ag_→Int→Int→Option (Bool)
  | 0,_,_,_=>none
  | k+1,x0,x1,x2=>
    bif (decide (x2<x1)) then
      (idx x0 x2).bind fun y2=>
      bif (decide ((y2.Part.Text.size:Int)>20)) then
        some false
      else
        (aP_ k y2.Since (-1) 3).bind fun r3=>
        bif (!r3) then
          some false
        else
          bif (decide (x2≥8)) then
            bif (y2.Since !=(-1)) then
              some false
            else
              bif y2.Has then
                bif (decide (y2.Since<0)) then
                  some false
                else
                  bz_ k x0 x1 (IntKind.wrap .i64 (x2+1))
              else
                bz_ k x0 x1 (IntKind.wrap .i64 (x2+1))
          else
            bif y2.Has then
              bif (decide (y2.Since<0)) then
                some false
              else
                bz_ k x0 x1 (IntKind.wrap .i64 (x2+1))
            else
              bz_ k x0 x1 (IntKind.wrap .i64 (x2+1))
    else
      some true
def bp_ (k:Nat) (a0:ak_):Option (Bool):=
  bif (decide ((a0.Items.length:Int)>60)) then
    some false
  else
    (aP_ k a0.Base 0 1000000).bind fun r1=>
    bif (!r1) then
      some false
    else
      bif (decide ((IntKind.wrap .i64 (a0.Base+(a0.Items.length:Int)))>1000000)) then
        some false
      else
        bz_ k a0.Items (a0.Items.length:Int) 0
def eq_ (k:Nat) (a0:ak_):Option (ak_):=
  (app 40 ([]:List ag_) a0.Items).bind fun l1=>
  some (⟨a0.Base,l1⟩:ak_)
mutual
def cL_:Nat→Int→Int→Int→Int→Int→List ag_→List ag_→Option (ak_)
  | 0,_,_,_,_,_,_,_=>none
  | k+1,x0,x1,x2,x3,x4,x5,x6=>
    bif (decide (x2<(x6.length:Int))) then
      (idx x6 x2).bind fun _=>
      (x6[(Int.toNat x2)]?).bind fun y3=>
      bif (decide (y3.Since≥0)) then
        cL_ k x0 x1 (IntKind.wrap .i64 (x2+1)) x3 x4 x5 x6
      else
        bif (decide (x0<x4)) then
          some (⟨x4,x6⟩:ak_)
        else
          bif (decide (x0>(IntKind.wrap .i64 (x4+x2)))) then
            some (⟨x4,x6⟩:ak_)
          else
            (aP_ k x1 0 255).bind fun r4=>
            bif (!r4) then
              some (⟨x4,x6⟩:ak_)
            else
              (wnd x6.length (IntKind.wrap .i64 (x0-x4)) (x6.length:Int)).bind fun p5=>
              (app 40 ([]:List ag_) (dT_ x6 p5.1 p5.2)).bind fun l6=>
              bB_ k x1 0 x3 x0 x5 l6
    else
      bif (decide (x0<x4)) then
        some (⟨x4,x6⟩:ak_)
      else
        bif (decide (x0>(IntKind.wrap .i64 (x4+x2)))) then
          some (⟨x4,x6⟩:ak_)
        else
          (aP_ k x1 0 255).bind fun r7=>
          bif (!r7) then
            some (⟨x4,x6⟩:ak_)
          else
            (wnd x6.length (IntKind.wrap .i64 (x0-x4)) (x6.length:Int)).bind fun p8=>
            (app 40 ([]:List ag_) (dT_ x6 p8.1 p8.2)).bind fun l9=>
            bB_ k x1 0 x3 x0 x5 l9
def bB_:Nat→Int→Int→Int→Int→List ag_→List ag_→Option (ak_)
  | 0,_,_,_,_,_,_=>none
  | k+1,x0,x1,x2,x3,x4,x5=>
    bif (decide (x1<8)) then
      bif (decide (x1<(x5.length:Int))) then
        (shift .shr .i64 x0 x1).bind fun s10=>
        bif ((y4_ .i64 s10 1)==1) then
          (idx x5 x1).bind fun _=>
          (x5[(Int.toNat x1)]?).bind fun y11=>
          bif (decide (y11.Since≥0)) then
            (idx x5 x1).bind fun _=>
            (x5[(Int.toNat x1)]?).bind fun y12=>
            cv_ k x0 x1 x2 x3 x4 (x5.set (Int.toNat x1) (⟨y12.Part,true,y12.Since⟩:ag_))
          else
            cv_ k x0 x1 x2 x3 x4 x5
        else
          cv_ k x0 x1 x2 x3 x4 x5
      else
        some (⟨x3,x5⟩:ak_)
    else
      some (⟨x3,x5⟩:ak_)
def cv_:Nat→Int→Int→Int→Int→List ag_→List ag_→Option (ak_)
  | 0,_,_,_,_,_,_=>none
  | k+1,x0,x1,x2,x3,x4,x5=>
    bB_ k x0 (IntKind.wrap .i64 (x1+1)) x2 x3 x4 x5
end
def gy_ (k:Nat) (a0:ak_) (a1:Int) (a2:Int):Option (ak_):=
  (bp_ k a0).bind fun r1=>
  bif (!r1) then
    some (⟨0,([]:List ag_)⟩:ak_)
  else
    (eq_ k a0).bind fun r2=>
    cL_ k a1 a2 0 0 r2.Base ([]:List ag_) r2.Items
def cR_:Nat→Int→Int→List az_→Int→List ag_→List ag_→Option (ak_×Int)
  | 0,_,_,_,_,_,_=>none
  | k+1,x0,x1,x2,x3,x4,x5=>
    bif (decide (x0<(x2.length:Int))) then
      (idx x2 x0).bind fun _=>
      (x2[(Int.toNat x0)]?).bind fun y4=>
      (app 40 x5 ([(⟨y4,false,(-1)⟩:ag_)]:List ag_)).bind fun l5=>
      cR_ k (IntKind.wrap .i64 (x0+1)) x1 x2 x3 x4 l5
    else
      some ((⟨x3,x5⟩:ak_),0)
def dp_ (k:Nat) (a0:ak_) (a1:ByteArray):Option (ak_×Int):=
  (bF_ k a0).bind fun r1=>
  bif (!r1) then
    some ((⟨0,([]:List ag_)⟩:ak_),1)
  else
    bif (decide ((a1.size:Int)>200)) then
      some ((⟨0,([]:List ag_)⟩:ak_),1)
    else
      (jI_ k a1).bind fun r2=>
      bif (decide ((IntKind.wrap .i64 ((a0.Items.length:Int)+(r2.length:Int)))>60)) then
        some ((⟨0,([]:List ag_)⟩:ak_),3)
      else
        bif (decide ((IntKind.wrap .i64 (a0.Base+(IntKind.wrap .i64 ((a0.Items.length:Int)+(r2.length:Int)))))>1000000)) then
          some ((⟨0,([]:List ag_)⟩:ak_),3)
        else
          (d4_ k a0).bind fun r3=>
          cR_ k 0 0 r2 r3.Base ([]:List ag_) r3.Items
def cQ_:Nat→Int→Int→Int→Int→List az_→List ag_→List ag_→Option (ak_×Int)
  | 0,_,_,_,_,_,_,_=>none
  | k+1,x0,x1,x2,x3,x4,x5,x6=>
    bif (decide (x1<x0)) then
      (idx x4 x1).bind fun _=>
      (x4[(Int.toNat x1)]?).bind fun y4=>
      (app 40 x6 ([(⟨y4,false,(-1)⟩:ag_)]:List ag_)).bind fun l5=>
      cQ_ k x0 (IntKind.wrap .i64 (x1+1)) x2 x3 x4 x5 l5
    else
      some ((⟨x3,x6⟩:ak_),0)
def gt_ (k:Nat) (a0:ak_) (a1:ByteArray):Option (ak_×Int):=
  (bp_ k a0).bind fun r1=>
  bif (!r1) then
    some ((⟨0,([]:List ag_)⟩:ak_),1)
  else
    bif (decide ((a1.size:Int)>200)) then
      some ((⟨0,([]:List ag_)⟩:ak_),1)
    else
      (lB_ k a1).bind fun r2=>
      bif (decide ((IntKind.wrap .i64 ((a0.Items.length:Int)+(r2.length:Int)))>60)) then
        some ((⟨0,([]:List ag_)⟩:ak_),3)
      else
        bif (decide ((IntKind.wrap .i64 (a0.Base+(IntKind.wrap .i64 ((a0.Items.length:Int)+(r2.length:Int)))))>1000000)) then
          some ((⟨0,([]:List ag_)⟩:ak_),3)
        else
          (eq_ k a0).bind fun r3=>
          cQ_ k (r2.length:Int) 0 0 r3.Base r2 ([]:List ag_) r3.Items
mutual
def cI_:Nat→Int→Int→List ag_→Int→List Int→Int→List ag_→List ag_→Option (ak_×List Int)
  | 0,_,_,_,_,_,_,_,_=>none
  | k+1,x0,x1,x2,x3,x4,x5,x6,x7=>
    bif (decide (x0<(x7.length:Int))) then
      bif (decide (x0<8)) then
        (idx x7 x0).bind fun _=>
        (x7[(Int.toNat x0)]?).bind fun y3=>
        bif y3.Has then
          ch_ k x0 x1 x2 x3 x4 x5 x6 x7
        else
          bif (y3.Since==(-1)) then
            (app 8 x4 ([(IntKind.wrap .i64 (x1+x0))]:List Int)).bind fun l4=>
            (idx x7 x0).bind fun _=>
            (x7[(Int.toNat x0)]?).bind fun y5=>
            ch_ k x0 x1 x2 x3 l4 x5 x6 (x7.set (Int.toNat x0) (⟨y5.Part,y5.Has,0⟩:ag_))
          else
            bif (y3.Since==3) then
              (app 8 x4 ([(IntKind.wrap .i64 (x1+x0))]:List Int)).bind fun l6=>
              (idx x7 x0).bind fun _=>
              (x7[(Int.toNat x0)]?).bind fun y7=>
              ch_ k x0 x1 x2 x3 l6 x5 x6 (x7.set (Int.toNat x0) (⟨y7.Part,y7.Has,0⟩:ag_))
            else
              (idx x7 x0).bind fun _=>
              (x7[(Int.toNat x0)]?).bind fun y8=>
              ch_ k x0 x1 x2 x3 x4 x5 x6 (x7.set (Int.toNat x0) (⟨y8.Part,y8.Has,(IntKind.wrap .i64 (y3.Since+1))⟩:ag_))
      else
        some ((⟨x5,x7⟩:ak_),x4)
    else
      some ((⟨x5,x7⟩:ak_),x4)
def ch_:Nat→Int→Int→List ag_→Int→List Int→Int→List ag_→List ag_→Option (ak_×List Int)
  | 0,_,_,_,_,_,_,_,_=>none
  | k+1,x0,x1,x2,x3,x4,x5,x6,x7=>
    cI_ k (IntKind.wrap .i64 (x0+1)) x1 x2 x3 x4 x5 x6 x7
end
def fi_ (k:Nat) (a0:ak_):Option (ak_×List Int):=
  (bF_ k a0).bind fun r1=>
  bif (!r1) then
    some ((⟨0,([]:List ag_)⟩:ak_),([]:List Int))
  else
    (d4_ k a0).bind fun r2=>
    cI_ k 0 a0.Base a0.Items 0 ([]:List Int) r2.Base ([]:List ag_) r2.Items
mutual
def cP_:Nat→Int→Int→Int→List Int→List ag_→List ag_→Option (ak_×List Int)
  | 0,_,_,_,_,_,_=>none
  | k+1,x0,x1,x2,x3,x4,x5=>
    bif (decide (x0<(x5.length:Int))) then
      bif (decide (x0<8)) then
        (idx x5 x0).bind fun _=>
        (x5[(Int.toNat x0)]?).bind fun y3=>
        bif y3.Has then
          ck_ k x0 x1 x2 x3 x4 x5
        else
          (x5[(Int.toNat x0)]?).bind fun y4=>
          bif (y4.Since==(-1)) then
            (x5[(Int.toNat x0)]?).bind fun y5=>
            (app 8 x3 ([(IntKind.wrap .i64 (x2+x0))]:List Int)).bind fun l6=>
            ck_ k x0 x1 x2 l6 x4 (x5.set (Int.toNat x0) (⟨y5.Part,y5.Has,0⟩:ag_))
          else
            (x5[(Int.toNat x0)]?).bind fun y7=>
            bif (y7.Since==3) then
              (x5[(Int.toNat x0)]?).bind fun y8=>
              (app 8 x3 ([(IntKind.wrap .i64 (x2+x0))]:List Int)).bind fun l9=>
              ck_ k x0 x1 x2 l9 x4 (x5.set (Int.toNat x0) (⟨y8.Part,y8.Has,0⟩:ag_))
            else
              (x5[(Int.toNat x0)]?).bind fun y10=>
              (x5[(Int.toNat x0)]?).bind fun y11=>
              ck_ k x0 x1 x2 x3 x4 (x5.set (Int.toNat x0) (⟨y11.Part,y11.Has,(IntKind.wrap .i64 (y10.Since+1))⟩:ag_))
      else
        some ((⟨x2,x5⟩:ak_),x3)
    else
      some ((⟨x2,x5⟩:ak_),x3)
def ck_:Nat→Int→Int→Int→List Int→List ag_→List ag_→Option (ak_×List Int)
  | 0,_,_,_,_,_,_=>none
  | k+1,x0,x1,x2,x3,x4,x5=>
    cP_ k (IntKind.wrap .i64 (x0+1)) x1 x2 x3 x4 x5
end
def gs_ (k:Nat) (a0:ak_):Option (ak_×List Int):=
  (bp_ k a0).bind fun r1=>
  bif (!r1) then
    some ((⟨0,([]:List ag_)⟩:ak_),([]:List Int))
  else
    (eq_ k a0).bind fun r2=>
    cP_ k 0 0 r2.Base ([]:List Int) ([]:List ag_) r2.Items
def eY_ (k:Nat) (a0:ai_):Option (ai_):=
  (app 32 ([]:List aj_) a0.Held).bind fun l1=>
  (app 16 ([]:List ByteArray) a0.Ready).bind fun l2=>
  some (⟨a0.Next,l1,a0.Open,l2⟩:ai_)
def cV_:Nat→Int→ByteArray→Int→ByteArray→List aj_→List ByteArray→List aj_→List ByteArray→Option (ai_)
  | 0,_,_,_,_,_,_,_,_=>none
  | k+1,x0,x1,x2,x3,x4,x5,x6,x7=>
    bif (decide ((x4.length:Int)>0)) then
      (idx x4 0).bind fun _=>
      (x4[(Int.toNat 0)]?).bind fun y1=>
      bif (y1.Seq==x0) then
        (idx x4 0).bind fun _=>
        (x4[(Int.toNat 0)]?).bind fun y2=>
        (ff_ k (⟨x0,x4,x1,x5⟩:ai_) y2.Part).bind fun r3=>
        bif r3 then
          (idx x4 0).bind fun _=>
          (x4[(Int.toNat 0)]?).bind fun y4=>
          (wnd x4.length 1 (x4.length:Int)).bind fun p5=>
          (app 32 ([]:List aj_) (dT_ x4 p5.1 p5.2)).bind fun l6=>
          (j0_ x1 y4.Part.Text).bind fun t7=>
          bif y4.Part.Last then
            (app 16 x5 ([t7]:List ByteArray)).bind fun l8=>
            cV_ k (IntKind.wrap .i64 (x0+1)) (⟨#[]⟩:ByteArray) x2 x3 l6 l8 x6 x7
          else
            cV_ k (IntKind.wrap .i64 (x0+1)) t7 x2 x3 l6 x5 x6 x7
        else
          some (⟨x0,x4,x1,x5⟩:ai_)
      else
        some (⟨x0,x4,x1,x5⟩:ai_)
    else
      some (⟨x0,x4,x1,x5⟩:ai_)
def iV_ (k:Nat) (a0:ai_):Option (ai_):=
  cV_ k a0.Next a0.Open 0 (⟨#[]⟩:ByteArray) a0.Held a0.Ready ([]:List aj_) ([]:List ByteArray)
mutual
def bs_:Nat→Int→Bool→Int→Int→List aj_→ByteArray→List ByteArray→ByteArray→Bool→Int→ByteArray→Int→ByteArray→List aj_→List aj_→List ByteArray→List aj_→List ByteArray→Option (ai_)
  | 0,_,_,_,_,_,_,_,_,_,_,_,_,_,_,_,_,_,_=>none
  | k+1,x0,x1,x2,x3,x4,x5,x6,x7,x8,x9,x10,x11,x12,x13,x14,x15,x16,x17=>
    bif (decide (x2<(x4.length:Int))) then
      (idx x4 x2).bind fun y4=>
      bif (y4.Seq==x0) then
        some (⟨x11,x16,x12,x17⟩:ai_)
      else
        bif (!x1) then
          (idx x4 x2).bind fun y5=>
          bif (decide (y5.Seq>x0)) then
            (app 32 x13 ([(⟨x0,(⟨x7,x8⟩:az_)⟩:aj_)]:List aj_)).bind fun l6=>
            bO_ k x0 true x2 x3 x4 x5 x6 x7 x8 x9 x10 x11 x12 l6 x14 x15 x16 x17
          else
            bO_ k x0 x1 x2 x3 x4 x5 x6 x7 x8 x9 x10 x11 x12 x13 x14 x15 x16 x17
        else
          bO_ k x0 x1 x2 x3 x4 x5 x6 x7 x8 x9 x10 x11 x12 x13 x14 x15 x16 x17
    else
      bif (!x1) then
        (app 32 x13 ([(⟨x0,(⟨x7,x8⟩:az_)⟩:aj_)]:List aj_)).bind fun l7=>
        db_ k x9 x10 x11 x12 l7 x14 x15 x16 x17
      else
        db_ k x9 x10 x11 x12 x13 x14 x15 x16 x17
def bO_:Nat→Int→Bool→Int→Int→List aj_→ByteArray→List ByteArray→ByteArray→Bool→Int→ByteArray→Int→ByteArray→List aj_→List aj_→List ByteArray→List aj_→List ByteArray→Option (ai_)
  | 0,_,_,_,_,_,_,_,_,_,_,_,_,_,_,_,_,_,_=>none
  | k+1,x0,x1,x2,x3,x4,x5,x6,x7,x8,x9,x10,x11,x12,x13,x14,x15,x16,x17=>
    (idx x4 x2).bind fun y8=>
    (app 32 x13 ([y8]:List aj_)).bind fun l9=>
    bs_ k x0 x1 (IntKind.wrap .i64 (x2+1)) x3 x4 x5 x6 x7 x8 x9 x10 x11 x12 l9 x14 x15 x16 x17
def db_:Nat→Int→ByteArray→Int→ByteArray→List aj_→List aj_→List ByteArray→List aj_→List ByteArray→Option (ai_)
  | 0,_,_,_,_,_,_,_,_,_=>none
  | k+1,x0,x1,x2,x3,x4,x5,x6,x7,x8=>
    (iV_ k (⟨x2,x4,x3,x8⟩:ai_)).bind fun r10=>
    some r10
end
def fy_ (k:Nat) (a0:ai_) (a1:Int) (a2:az_):Option (ai_):=
  (c3_ k a0).bind fun r1=>
  bif (!r1) then
    some (⟨0,([]:List aj_),(⟨#[]⟩:ByteArray),([]:List ByteArray)⟩:ai_)
  else
    (eY_ k a0).bind fun r2=>
    (gW_ k a0 a1).bind fun r3=>
    bif (!r3) then
      some r2
    else
      bif (decide ((a2.Text.size:Int)>20)) then
        some r2
      else
        bs_ k a1 false 0 a0.Next a0.Held a0.Open a0.Ready a2.Text a2.Last 0 (⟨#[]⟩:ByteArray) r2.Next r2.Open ([]:List aj_) ([]:List aj_) ([]:List ByteArray) r2.Held r2.Ready
def fs_ (k:Nat) (a0:ai_):Option (ai_×ByteArray×Bool):=
  (c3_ k a0).bind fun r1=>
  bif (!r1) then
    some ((⟨0,([]:List aj_),(⟨#[]⟩:ByteArray),([]:List ByteArray)⟩:ai_),(⟨#[]⟩:ByteArray),false)
  else
    (eY_ k a0).bind fun r2=>
    bif ((r2.Ready.length:Int)==0) then
      some (r2,(⟨#[]⟩:ByteArray),false)
    else
      (idx r2.Ready 0).bind fun _=>
      (r2.Ready[(Int.toNat 0)]?).bind fun y3=>
      (wnd r2.Ready.length 1 (r2.Ready.length:Int)).bind fun p4=>
      (app 16 ([]:List ByteArray) (dT_ r2.Ready p4.1 p4.2)).bind fun l5=>
      (iV_ k (⟨r2.Next,r2.Held,r2.Open,l5⟩:ai_)).bind fun r6=>
      some (r6,y3,true)
end Km.X
namespace Km.X
open Go Km
set_option linter.unusedVariables false
set_option maxRecDepth 100000
def g0_ (k:Nat) (a0:Int):Option (am_):=
  (ay_ k a0 1 2).bind fun r1=>
  bif (!r1) then
    some (⟨0,false,0,0,0,false,(⟨0,([]:List ag_)⟩:ak_),(⟨0,([]:List aj_),(⟨#[]⟩:ByteArray),([]:List ByteArray)⟩:ai_)⟩:am_)
  else
    some (⟨a0,true,1,0,0,false,(⟨0,([]:List ag_)⟩:ak_),(⟨0,([]:List aj_),(⟨#[]⟩:ByteArray),([]:List ByteArray)⟩:ai_)⟩:am_)
def gv_ (k:Nat) (a0:ak_):Option (Bool):=
  bif (a0.Base==0) then
    some ((a0.Items.length:Int)==0)
  else
    some false
def gx_ (k:Nat) (a0:ai_):Option (Bool):=
  bif (a0.Next==0) then
    bif ((a0.Held.length:Int)==0) then
      bif (a0.Open.toList==(⟨#[]⟩:ByteArray).toList) then
        some ((a0.Ready.length:Int)==0)
      else
        some false
    else
      some false
  else
    some false
def bX_ (k:Nat) (a0:am_):Option (Bool):=
  (ay_ k a0.Number 1 2).bind fun r1=>
  bif (!r1) then
    some false
  else
    (ay_ k a0.Life 1 1000).bind fun r2=>
    bif (!r2) then
      some false
    else
      (ay_ k a0.Peer 0 1000).bind fun r3=>
      bif (!r3) then
        some false
      else
        (ay_ k a0.Since 0 1000000).bind fun r4=>
        bif (!r4) then
          some false
        else
          (bF_ k a0.Send).bind fun r5=>
          bif (!r5) then
            some false
          else
            (c3_ k a0.Take).bind fun r6=>
            bif (!r6) then
              some false
            else
              bif (a0.Peer==0) then
                (gv_ k a0.Send).bind fun r7=>
                bif (!r7) then
                  some false
                else
                  (gx_ k a0.Take).bind fun r8=>
                  bif (!r8) then
                    some false
                  else
                    bif a0.Up then
                      some true
                    else
                      bif (a0.Peer==0) then
                        bif (a0.Since==0) then
                          some (!a0.Owes)
                        else
                          some false
                      else
                        some false
              else
                bif a0.Up then
                  some true
                else
                  bif (a0.Peer==0) then
                    bif (a0.Since==0) then
                      some (!a0.Owes)
                    else
                      some false
                  else
                    some false
def c1_ (k:Nat) (a0:am_):Option (am_):=
  (d4_ k a0.Send).bind fun r1=>
  (eY_ k a0.Take).bind fun r2=>
  some (⟨a0.Number,a0.Up,a0.Life,a0.Peer,a0.Since,a0.Owes,r1,r2⟩:am_)
def dD_:Nat→Int→Int→Int→Int→Int→Int→Int→Bool→ByteArray→Int→Int→Bool→Int→Int→Int→Bool→Int→Int→ByteArray→ByteArray→Int→Bool→Int→Int→Int→Bool→Int→Int→ByteArray→List ag_→List aj_→List ByteArray→List ae_→List ag_→List aj_→List ByteArray→Option (aw_)
  | 0,_,_,_,_,_,_,_,_,_,_,_,_,_,_,_,_,_,_,_,_,_,_,_,_,_,_,_,_,_,_,_,_,_,_,_,_=>none
  | k+1,x0,x1,x2,x3,x4,x5,x6,x7,x8,x9,x10,x11,x12,x13,x14,x15,x16,x17,x18,x19,x20,x21,x22,x23,x24,x25,x26,x27,x28,x29,x30,x31,x32,x33,x34,x35=>
    bif (x3 !=x22) then
      some (⟨0,(⟨x20,x21,x22,x23,x24,true,(⟨x26,x33⟩:ak_),(⟨x27,x34,x28,x35⟩:ai_)⟩:am_),([]:List ae_),(⟨#[]⟩:ByteArray)⟩:aw_)
    else
      bif (x0==1) then
        (ft_ k (⟨x26,x33⟩:ak_) x4 x5).bind fun r4=>
        some (⟨0,(⟨x20,x21,x22,x23,x24,x25,r4,(⟨x27,x34,x28,x35⟩:ai_)⟩:am_),([]:List ae_),(⟨#[]⟩:ByteArray)⟩:aw_)
      else
        (fy_ k (⟨x27,x34,x28,x35⟩:ai_) x6 (⟨x8,x7⟩:az_)).bind fun r5=>
        some (⟨0,(⟨x20,x21,x22,x23,x24,true,(⟨x26,x33⟩:ak_),r5⟩:am_),([]:List ae_),(⟨#[]⟩:ByteArray)⟩:aw_)
def hn_ (k:Nat) (a0:am_) (a1:ae_):Option (aw_):=
  (bX_ k a0).bind fun r1=>
  bif (!r1) then
    some (⟨1,(⟨0,false,0,0,0,false,(⟨0,([]:List ag_)⟩:ak_),(⟨0,([]:List aj_),(⟨#[]⟩:ByteArray),([]:List ByteArray)⟩:ai_)⟩:am_),([]:List ae_),(⟨#[]⟩:ByteArray)⟩:aw_)
  else
    (c1_ k a0).bind fun r2=>
    bif (!r2.Up) then
      some (⟨0,r2,([]:List ae_),(⟨#[]⟩:ByteArray)⟩:aw_)
    else
      (gi_ k a1).bind fun r3=>
      bif (!r3) then
        some (⟨0,r2,([]:List ae_),(⟨#[]⟩:ByteArray)⟩:aw_)
      else
        bif (a1.From==r2.Number) then
          some (⟨0,r2,([]:List ae_),(⟨#[]⟩:ByteArray)⟩:aw_)
        else
          bif (decide (a1.Mine<r2.Peer)) then
            some (⟨0,r2,([]:List ae_),(⟨#[]⟩:ByteArray)⟩:aw_)
          else
            bif (decide (a1.Mine>r2.Peer)) then
              dD_ k a1.Kind a1.From a1.Mine a1.Yours a1.Next a1.Mask a1.Seq a1.Last a1.Part 0 0 false 0 0 0 false 0 0 (⟨#[]⟩:ByteArray) (⟨#[]⟩:ByteArray) r2.Number r2.Up r2.Life a1.Mine r2.Since true 0 0 (⟨#[]⟩:ByteArray) ([]:List ag_) ([]:List aj_) ([]:List ByteArray) ([]:List ae_) ([]:List ag_) ([]:List aj_) ([]:List ByteArray)
            else
              dD_ k a1.Kind a1.From a1.Mine a1.Yours a1.Next a1.Mask a1.Seq a1.Last a1.Part 0 0 false 0 0 0 false 0 0 (⟨#[]⟩:ByteArray) (⟨#[]⟩:ByteArray) r2.Number r2.Up r2.Life r2.Peer r2.Since r2.Owes r2.Send.Base r2.Take.Next r2.Take.Open ([]:List ag_) ([]:List aj_) ([]:List ByteArray) ([]:List ae_) r2.Send.Items r2.Take.Held r2.Take.Ready
def ie_ (k:Nat) (a0:ak_):Option (Bool):=
  bif (a0.Base==0) then
    some ((a0.Items.length:Int)==0)
  else
    some false
def im_ (k:Nat) (a0:ai_):Option (Bool):=
  bif (a0.Next==0) then
    bif ((a0.Held.length:Int)==0) then
      bif (a0.Open.toList==(⟨#[]⟩:ByteArray).toList) then
        some ((a0.Ready.length:Int)==0)
      else
        some false
    else
      some false
  else
    some false
def bY_ (k:Nat) (a0:am_):Option (Bool):=
  bif (a0.Number !=1) then
    bif (a0.Number !=2) then
      some false
    else
      (aP_ k a0.Life 1 1000).bind fun r1=>
      bif (!r1) then
        some false
      else
        (aP_ k a0.Peer 0 1000).bind fun r2=>
        bif (!r2) then
          some false
        else
          (aP_ k a0.Since 0 1000000).bind fun r3=>
          bif (!r3) then
            some false
          else
            (bp_ k a0.Send).bind fun r4=>
            bif (!r4) then
              some false
            else
              (bU_ k a0.Take).bind fun r5=>
              bif (!r5) then
                some false
              else
                bif (a0.Peer==0) then
                  (ie_ k a0.Send).bind fun r6=>
                  bif r6 then
                    (im_ k a0.Take).bind fun r7=>
                    bif (!r7) then
                      some false
                    else
                      bif a0.Up then
                        some true
                      else
                        bif (a0.Peer==0) then
                          bif (a0.Since==0) then
                            some (!a0.Owes)
                          else
                            some false
                        else
                          some false
                  else
                    some false
                else
                  bif a0.Up then
                    some true
                  else
                    bif (a0.Peer==0) then
                      bif (a0.Since==0) then
                        some (!a0.Owes)
                      else
                        some false
                    else
                      some false
  else
    (aP_ k a0.Life 1 1000).bind fun r8=>
    bif (!r8) then
      some false
    else
      (aP_ k a0.Peer 0 1000).bind fun r9=>
      bif (!r9) then
        some false
      else
        (aP_ k a0.Since 0 1000000).bind fun r10=>
        bif (!r10) then
          some false
        else
          (bp_ k a0.Send).bind fun r11=>
          bif (!r11) then
            some false
          else
            (bU_ k a0.Take).bind fun r12=>
            bif (!r12) then
              some false
            else
              bif (a0.Peer==0) then
                (ie_ k a0.Send).bind fun r13=>
                bif r13 then
                  (im_ k a0.Take).bind fun r14=>
                  bif (!r14) then
                    some false
                  else
                    bif a0.Up then
                      some true
                    else
                      bif (a0.Peer==0) then
                        bif (a0.Since==0) then
                          some (!a0.Owes)
                        else
                          some false
                      else
                        some false
                else
                  some false
              else
                bif a0.Up then
                  some true
                else
                  bif (a0.Peer==0) then
                    bif (a0.Since==0) then
                      some (!a0.Owes)
                    else
                      some false
                  else
                    some false
def cW_ (k:Nat) (a0:am_):Option (am_):=
  (eq_ k a0.Send).bind fun r1=>
  (fm_ k a0.Take).bind fun r2=>
  some (⟨a0.Number,a0.Up,a0.Life,a0.Peer,a0.Since,a0.Owes,r1,r2⟩:am_)
mutual
def d2_:Nat→Int→Int→Int→Int→Int→Int→Int→Bool→ByteArray→Int→Int→Bool→Int→Int→Int→Bool→Int→Int→ByteArray→ByteArray→Int→Int→Bool→Int→Int→Int→Bool→Int→Int→ByteArray→ByteArray→List ag_→List aj_→List ByteArray→List ae_→List ag_→List aj_→List ByteArray→List ae_→Option (aw_)
  | 0,_,_,_,_,_,_,_,_,_,_,_,_,_,_,_,_,_,_,_,_,_,_,_,_,_,_,_,_,_,_,_,_,_,_,_,_,_,_,_=>none
  | k+1,x0,x1,x2,x3,x4,x5,x6,x7,x8,x9,x10,x11,x12,x13,x14,x15,x16,x17,x18,x19,x20,x21,x22,x23,x24,x25,x26,x27,x28,x29,x30,x31,x32,x33,x34,x35,x36,x37,x38=>
    bif (x3 !=x23) then
      some (⟨x20,(⟨x21,x22,x23,x24,x25,true,(⟨x27,x35⟩:ak_),(⟨x28,x36,x29,x37⟩:ai_)⟩:am_),x38,x30⟩:aw_)
    else
      bif (x0==1) then
        (gy_ k (⟨x27,x35⟩:ak_) x4 x5).bind fun r4=>
        dK_ k x9 x10 x11 x12 x13 x14 x15 x16 x17 x18 x19 x20 x21 x22 x23 x24 x25 x26 r4.Base x28 x29 x30 x31 x32 x33 x34 r4.Items x36 x37 x38
      else
        (gG_ k (⟨x28,x36,x29,x37⟩:ai_) x6 (⟨x8,x7⟩:az_)).bind fun r5=>
        dK_ k x9 x10 x11 x12 x13 x14 x15 x16 x17 x18 x19 x20 x21 x22 x23 x24 x25 true x27 r5.Next r5.Open x30 x31 x32 x33 x34 x35 r5.Held r5.Ready x38
def dK_:Nat→Int→Int→Bool→Int→Int→Int→Bool→Int→Int→ByteArray→ByteArray→Int→Int→Bool→Int→Int→Int→Bool→Int→Int→ByteArray→ByteArray→List ag_→List aj_→List ByteArray→List ae_→List ag_→List aj_→List ByteArray→List ae_→Option (aw_)
  | 0,_,_,_,_,_,_,_,_,_,_,_,_,_,_,_,_,_,_,_,_,_,_,_,_,_,_,_,_,_,_=>none
  | k+1,x0,x1,x2,x3,x4,x5,x6,x7,x8,x9,x10,x11,x12,x13,x14,x15,x16,x17,x18,x19,x20,x21,x22,x23,x24,x25,x26,x27,x28,x29=>
    some (⟨x11,(⟨x12,x13,x14,x15,x16,x17,(⟨x18,x26⟩:ak_),(⟨x19,x27,x20,x28⟩:ai_)⟩:am_),x29,x21⟩:aw_)
end
def hA_ (k:Nat) (a0:am_) (a1:ae_):Option (aw_):=
  (bY_ k a0).bind fun r1=>
  bif (!r1) then
    some (⟨1,(⟨0,false,0,0,0,false,(⟨0,([]:List ag_)⟩:ak_),(⟨0,([]:List aj_),(⟨#[]⟩:ByteArray),([]:List ByteArray)⟩:ai_)⟩:am_),([]:List ae_),(⟨#[]⟩:ByteArray)⟩:aw_)
  else
    (cW_ k a0).bind fun r2=>
    bif (!r2.Up) then
      some (⟨0,r2,([]:List ae_),(⟨#[]⟩:ByteArray)⟩:aw_)
    else
      (bd_ k a1).bind fun r3=>
      bif (!r3) then
        some (⟨0,r2,([]:List ae_),(⟨#[]⟩:ByteArray)⟩:aw_)
      else
        bif (a1.From==r2.Number) then
          some (⟨0,r2,([]:List ae_),(⟨#[]⟩:ByteArray)⟩:aw_)
        else
          bif (decide (a1.Mine<r2.Peer)) then
            some (⟨0,r2,([]:List ae_),(⟨#[]⟩:ByteArray)⟩:aw_)
          else
            bif (decide (a1.Mine>r2.Peer)) then
              d2_ k a1.Kind a1.From a1.Mine a1.Yours a1.Next a1.Mask a1.Seq a1.Last a1.Part 0 0 false 0 0 0 false 0 0 (⟨#[]⟩:ByteArray) (⟨#[]⟩:ByteArray) 0 r2.Number r2.Up r2.Life a1.Mine r2.Since true 0 0 (⟨#[]⟩:ByteArray) (⟨#[]⟩:ByteArray) ([]:List ag_) ([]:List aj_) ([]:List ByteArray) ([]:List ae_) ([]:List ag_) ([]:List aj_) ([]:List ByteArray) ([]:List ae_)
            else
              d2_ k a1.Kind a1.From a1.Mine a1.Yours a1.Next a1.Mask a1.Seq a1.Last a1.Part 0 0 false 0 0 0 false 0 0 (⟨#[]⟩:ByteArray) (⟨#[]⟩:ByteArray) 0 r2.Number r2.Up r2.Life r2.Peer r2.Since r2.Owes r2.Send.Base r2.Take.Next r2.Take.Open (⟨#[]⟩:ByteArray) ([]:List ag_) ([]:List aj_) ([]:List ByteArray) ([]:List ae_) r2.Send.Items r2.Take.Held r2.Take.Ready ([]:List ae_)
mutual
def eh_:Nat→Int→Int→Bool→Int→Int→Int→Bool→Int→Int→ByteArray→ByteArray→Int→Bool→Int→Int→Int→Bool→Int→Int→ByteArray→List ae_→List ag_→List aj_→List ByteArray→List ae_→List ag_→List aj_→List ByteArray→Option (aw_)
  | 0,_,_,_,_,_,_,_,_,_,_,_,_,_,_,_,_,_,_,_,_,_,_,_,_,_,_,_,_=>none
  | k+1,x0,x1,x2,x3,x4,x5,x6,x7,x8,x9,x10,x11,x12,x13,x14,x15,x16,x17,x18,x19,x20,x21,x22,x23,x24,x25,x26,x27=>
    bif (x14 !=0) then
      (fi_ k (⟨x17,x25⟩:ak_)).bind fun r3=>
      cJ_ k 0 x0 x1 x2 x3 x4 x5 x6 x7 x8 x9 x10 x11 x12 x13 x14 x15 x16 r3.1.Base x18 x19 x20 r3.1.Base r3.2 x21 x22 x23 x24 r3.1.Items x26 x27
    else
      dH_ k x0 x1 x2 x3 x4 x5 x6 x7 x8 x9 x10 x11 x12 x13 x14 x15 x16 x17 x18 x19 x20 x21 x22 x23 x24 x25 x26 x27
def cJ_:Nat→Int→Int→Int→Bool→Int→Int→Int→Bool→Int→Int→ByteArray→ByteArray→Int→Bool→Int→Int→Int→Bool→Int→Int→ByteArray→List ae_→Int→List Int→List ag_→List aj_→List ByteArray→List ae_→List ag_→List aj_→List ByteArray→Option (aw_)
  | 0,_,_,_,_,_,_,_,_,_,_,_,_,_,_,_,_,_,_,_,_,_,_,_,_,_,_,_,_,_,_,_=>none
  | k+1,x0,x1,x2,x3,x4,x5,x6,x7,x8,x9,x10,x11,x12,x13,x14,x15,x16,x17,x18,x19,x20,x21,x22,x23,x24,x25,x26,x27,x28,x29,x30=>
    bif (decide (x0<(x23.length:Int))) then
      (idx x23 x0).bind fun _=>
      (x23[(Int.toNat x0)]?).bind fun y4=>
      (idx x28 (IntKind.wrap .i64 (y4-x22))).bind fun _=>
      (x28[(Int.toNat (IntKind.wrap .i64 (y4-x22)))]?).bind fun y5=>
      (idx x23 x0).bind fun _=>
      (x23[(Int.toNat x0)]?).bind fun y6=>
      (app 80 x21 ([(⟨2,x12,x14,x15,0,0,y6,y5.Part.Last,y5.Part.Text⟩:ae_)]:List ae_)).bind fun l7=>
      cJ_ k (IntKind.wrap .i64 (x0+1)) x1 x2 x3 x4 x5 x6 x7 x8 x9 x10 x11 x12 x13 x14 x15 x16 x17 x18 x19 x20 l7 x22 x23 x24 x25 x26 x27 x28 x29 x30
    else
      dH_ k x1 x2 x3 x4 x5 x6 x7 x8 x9 x10 x11 x12 x13 x14 x15 x16 x17 x18 x19 x20 x21 x24 x25 x26 x27 x28 x29 x30
def dH_:Nat→Int→Int→Bool→Int→Int→Int→Bool→Int→Int→ByteArray→ByteArray→Int→Bool→Int→Int→Int→Bool→Int→Int→ByteArray→List ae_→List ag_→List aj_→List ByteArray→List ae_→List ag_→List aj_→List ByteArray→Option (aw_)
  | 0,_,_,_,_,_,_,_,_,_,_,_,_,_,_,_,_,_,_,_,_,_,_,_,_,_,_,_,_=>none
  | k+1,x0,x1,x2,x3,x4,x5,x6,x7,x8,x9,x10,x11,x12,x13,x14,x15,x16,x17,x18,x19,x20,x21,x22,x23,x24,x25,x26,x27=>
    bif x16 then
      (ep_ k (⟨x18,x26,x19,x27⟩:ai_)).bind fun r8=>
      (app 80 x20 ([(⟨1,x11,x13,x14,r8.1,r8.2,0,false,(⟨#[]⟩:ByteArray)⟩:ae_)]:List ae_)).bind fun l9=>
      ci_ k x0 x1 x2 x3 x4 x5 x6 x7 x8 x9 x10 x11 x12 x13 x14 0 false x17 x18 x19 l9 x21 x22 x23 x24 x25 x26 x27
    else
      bif (decide (x15≥6)) then
        (ep_ k (⟨x18,x26,x19,x27⟩:ai_)).bind fun r10=>
        (app 80 x20 ([(⟨1,x11,x13,x14,r10.1,r10.2,0,false,(⟨#[]⟩:ByteArray)⟩:ae_)]:List ae_)).bind fun l11=>
        ci_ k x0 x1 x2 x3 x4 x5 x6 x7 x8 x9 x10 x11 x12 x13 x14 0 false x17 x18 x19 l11 x21 x22 x23 x24 x25 x26 x27
      else
        ci_ k x0 x1 x2 x3 x4 x5 x6 x7 x8 x9 x10 x11 x12 x13 x14 x15 x16 x17 x18 x19 x20 x21 x22 x23 x24 x25 x26 x27
def ci_:Nat→Int→Int→Bool→Int→Int→Int→Bool→Int→Int→ByteArray→ByteArray→Int→Bool→Int→Int→Int→Bool→Int→Int→ByteArray→List ae_→List ag_→List aj_→List ByteArray→List ae_→List ag_→List aj_→List ByteArray→Option (aw_)
  | 0,_,_,_,_,_,_,_,_,_,_,_,_,_,_,_,_,_,_,_,_,_,_,_,_,_,_,_,_=>none
  | k+1,x0,x1,x2,x3,x4,x5,x6,x7,x8,x9,x10,x11,x12,x13,x14,x15,x16,x17,x18,x19,x20,x21,x22,x23,x24,x25,x26,x27=>
    some (⟨0,(⟨x11,x12,x13,x14,x15,x16,(⟨x17,x25⟩:ak_),(⟨x18,x26,x19,x27⟩:ai_)⟩:am_),x20,(⟨#[]⟩:ByteArray)⟩:aw_)
end
def ht_ (k:Nat) (a0:am_):Option (aw_):=
  (bX_ k a0).bind fun r1=>
  bif (!r1) then
    some (⟨1,(⟨0,false,0,0,0,false,(⟨0,([]:List ag_)⟩:ak_),(⟨0,([]:List aj_),(⟨#[]⟩:ByteArray),([]:List ByteArray)⟩:ai_)⟩:am_),([]:List ae_),(⟨#[]⟩:ByteArray)⟩:aw_)
  else
    (c1_ k a0).bind fun r2=>
    bif (!r2.Up) then
      some (⟨0,r2,([]:List ae_),(⟨#[]⟩:ByteArray)⟩:aw_)
    else
      bif (decide (r2.Since<1000000)) then
        eh_ k 0 0 false 0 0 0 false 0 0 (⟨#[]⟩:ByteArray) (⟨#[]⟩:ByteArray) r2.Number r2.Up r2.Life r2.Peer (IntKind.wrap .i64 (r2.Since+1)) r2.Owes r2.Send.Base r2.Take.Next r2.Take.Open ([]:List ae_) ([]:List ag_) ([]:List aj_) ([]:List ByteArray) ([]:List ae_) r2.Send.Items r2.Take.Held r2.Take.Ready
      else
        eh_ k 0 0 false 0 0 0 false 0 0 (⟨#[]⟩:ByteArray) (⟨#[]⟩:ByteArray) r2.Number r2.Up r2.Life r2.Peer r2.Since r2.Owes r2.Send.Base r2.Take.Next r2.Take.Open ([]:List ae_) ([]:List ag_) ([]:List aj_) ([]:List ByteArray) ([]:List ae_) r2.Send.Items r2.Take.Held r2.Take.Ready
def hi_ (k:Nat) (a0:am_):Option (am_):=
  (bX_ k a0).bind fun r1=>
  bif (!r1) then
    some (⟨0,false,0,0,0,false,(⟨0,([]:List ag_)⟩:ak_),(⟨0,([]:List aj_),(⟨#[]⟩:ByteArray),([]:List ByteArray)⟩:ai_)⟩:am_)
  else
    some (⟨a0.Number,false,a0.Life,0,0,false,(⟨0,([]:List ag_)⟩:ak_),(⟨0,([]:List aj_),(⟨#[]⟩:ByteArray),([]:List ByteArray)⟩:ai_)⟩:am_)
def hq_ (k:Nat) (a0:am_):Option (am_):=
  (bX_ k a0).bind fun r1=>
  bif (!r1) then
    some (⟨0,false,0,0,0,false,(⟨0,([]:List ag_)⟩:ak_),(⟨0,([]:List aj_),(⟨#[]⟩:ByteArray),([]:List ByteArray)⟩:ai_)⟩:am_)
  else
    bif a0.Up then
      (c1_ k a0).bind fun r2=>
      some r2
    else
      bif (decide (a0.Life≥1000)) then
        (c1_ k a0).bind fun r3=>
        some r3
      else
        some (⟨a0.Number,true,(IntKind.wrap .i64 (a0.Life+1)),0,0,false,(⟨0,([]:List ag_)⟩:ak_),(⟨0,([]:List aj_),(⟨#[]⟩:ByteArray),([]:List ByteArray)⟩:ai_)⟩:am_)
def hF_ (k:Nat) (a0:am_) (a1:ByteArray):Option (aw_):=
  (bX_ k a0).bind fun r1=>
  bif (!r1) then
    some (⟨1,(⟨0,false,0,0,0,false,(⟨0,([]:List ag_)⟩:ak_),(⟨0,([]:List aj_),(⟨#[]⟩:ByteArray),([]:List ByteArray)⟩:ai_)⟩:am_),([]:List ae_),(⟨#[]⟩:ByteArray)⟩:aw_)
  else
    bif (!a0.Up) then
      some (⟨2,(⟨0,false,0,0,0,false,(⟨0,([]:List ag_)⟩:ak_),(⟨0,([]:List aj_),(⟨#[]⟩:ByteArray),([]:List ByteArray)⟩:ai_)⟩:am_),([]:List ae_),(⟨#[]⟩:ByteArray)⟩:aw_)
    else
      bif (a0.Peer==0) then
        some (⟨2,(⟨0,false,0,0,0,false,(⟨0,([]:List ag_)⟩:ak_),(⟨0,([]:List aj_),(⟨#[]⟩:ByteArray),([]:List ByteArray)⟩:ai_)⟩:am_),([]:List ae_),(⟨#[]⟩:ByteArray)⟩:aw_)
      else
        (dp_ k a0.Send a1).bind fun r2=>
        bif (r2.2 !=0) then
          some (⟨r2.2,(⟨0,false,0,0,0,false,(⟨0,([]:List ag_)⟩:ak_),(⟨0,([]:List aj_),(⟨#[]⟩:ByteArray),([]:List ByteArray)⟩:ai_)⟩:am_),([]:List ae_),(⟨#[]⟩:ByteArray)⟩:aw_)
        else
          (c1_ k a0).bind fun r3=>
          some (⟨0,(⟨r3.Number,r3.Up,r3.Life,r3.Peer,r3.Since,r3.Owes,r2.1,r3.Take⟩:am_),([]:List ae_),(⟨#[]⟩:ByteArray)⟩:aw_)
def hl_ (k:Nat) (a0:am_):Option (aw_):=
  (bX_ k a0).bind fun r1=>
  bif (!r1) then
    some (⟨1,(⟨0,false,0,0,0,false,(⟨0,([]:List ag_)⟩:ak_),(⟨0,([]:List aj_),(⟨#[]⟩:ByteArray),([]:List ByteArray)⟩:ai_)⟩:am_),([]:List ae_),(⟨#[]⟩:ByteArray)⟩:aw_)
  else
    bif (!a0.Up) then
      some (⟨2,(⟨0,false,0,0,0,false,(⟨0,([]:List ag_)⟩:ak_),(⟨0,([]:List aj_),(⟨#[]⟩:ByteArray),([]:List ByteArray)⟩:ai_)⟩:am_),([]:List ae_),(⟨#[]⟩:ByteArray)⟩:aw_)
    else
      (fs_ k a0.Take).bind fun r2=>
      bif (!r2.2.2) then
        some (⟨4,(⟨0,false,0,0,0,false,(⟨0,([]:List ag_)⟩:ak_),(⟨0,([]:List aj_),(⟨#[]⟩:ByteArray),([]:List ByteArray)⟩:ai_)⟩:am_),([]:List ae_),(⟨#[]⟩:ByteArray)⟩:aw_)
      else
        (c1_ k a0).bind fun r3=>
        some (⟨0,(⟨r3.Number,r3.Up,r3.Life,r3.Peer,r3.Since,true,r3.Send,r2.1⟩:am_),([]:List ae_),r2.2.1⟩:aw_)
mutual
def d8_:Nat→Int→Int→Bool→Int→Int→Int→Bool→Int→Int→ByteArray→ByteArray→Int→Int→Bool→Int→Int→Int→Bool→Int→Int→ByteArray→ByteArray→List ag_→List aj_→List ByteArray→List ae_→List ag_→List aj_→List ByteArray→List ae_→Option (aw_)
  | 0,_,_,_,_,_,_,_,_,_,_,_,_,_,_,_,_,_,_,_,_,_,_,_,_,_,_,_,_,_,_=>none
  | k+1,x0,x1,x2,x3,x4,x5,x6,x7,x8,x9,x10,x11,x12,x13,x14,x15,x16,x17,x18,x19,x20,x21,x22,x23,x24,x25,x26,x27,x28,x29=>
    bif (x15 !=0) then
      (gs_ k (⟨x18,x26⟩:ak_)).bind fun r3=>
      cO_ k (r3.2.length:Int) 0 x0 x1 x2 x3 x4 x5 x6 x7 x8 x9 x10 x11 x12 x13 x14 x15 x16 x17 r3.1.Base x19 x20 x21 r3.2 x22 x23 x24 x25 r3.1.Items x27 x28 x29
    else
      dC_ k x0 x1 x2 x3 x4 x5 x6 x7 x8 x9 x10 x11 x12 x13 x14 x15 x16 x17 x18 x19 x20 x21 x22 x23 x24 x25 x26 x27 x28 x29
def cO_:Nat→Int→Int→Int→Int→Bool→Int→Int→Int→Bool→Int→Int→ByteArray→ByteArray→Int→Int→Bool→Int→Int→Int→Bool→Int→Int→ByteArray→ByteArray→List Int→List ag_→List aj_→List ByteArray→List ae_→List ag_→List aj_→List ByteArray→List ae_→Option (aw_)
  | 0,_,_,_,_,_,_,_,_,_,_,_,_,_,_,_,_,_,_,_,_,_,_,_,_,_,_,_,_,_,_,_,_,_=>none
  | k+1,x0,x1,x2,x3,x4,x5,x6,x7,x8,x9,x10,x11,x12,x13,x14,x15,x16,x17,x18,x19,x20,x21,x22,x23,x24,x25,x26,x27,x28,x29,x30,x31,x32=>
    bif (decide (x1<x0)) then
      (idx x24 x1).bind fun _=>
      (x24[(Int.toNat x1)]?).bind fun y4=>
      (idx x29 (IntKind.wrap .i64 (y4-x20))).bind fun _=>
      (x29[(Int.toNat (IntKind.wrap .i64 (y4-x20)))]?).bind fun y5=>
      (app 80 x32 ([(⟨2,x14,x16,x17,0,0,y4,y5.Part.Last,y5.Part.Text⟩:ae_)]:List ae_)).bind fun l6=>
      cO_ k x0 (IntKind.wrap .i64 (x1+1)) x2 x3 x4 x5 x6 x7 x8 x9 x10 x11 x12 x13 x14 x15 x16 x17 x18 x19 x20 x21 x22 x23 x24 x25 x26 x27 x28 x29 x30 x31 l6
    else
      dC_ k x2 x3 x4 x5 x6 x7 x8 x9 x10 x11 x12 x13 x14 x15 x16 x17 x18 x19 x20 x21 x22 x23 x25 x26 x27 x28 x29 x30 x31 x32
def dC_:Nat→Int→Int→Bool→Int→Int→Int→Bool→Int→Int→ByteArray→ByteArray→Int→Int→Bool→Int→Int→Int→Bool→Int→Int→ByteArray→ByteArray→List ag_→List aj_→List ByteArray→List ae_→List ag_→List aj_→List ByteArray→List ae_→Option (aw_)
  | 0,_,_,_,_,_,_,_,_,_,_,_,_,_,_,_,_,_,_,_,_,_,_,_,_,_,_,_,_,_,_=>none
  | k+1,x0,x1,x2,x3,x4,x5,x6,x7,x8,x9,x10,x11,x12,x13,x14,x15,x16,x17,x18,x19,x20,x21,x22,x23,x24,x25,x26,x27,x28,x29=>
    bif x17 then
      (et_ k (⟨x19,x27,x20,x28⟩:ai_)).bind fun r7=>
      (app 80 x29 ([(⟨1,x12,x14,x15,r7.1,r7.2,0,false,(⟨#[]⟩:ByteArray)⟩:ae_)]:List ae_)).bind fun l8=>
      cg_ k x0 x1 x2 x3 x4 x5 x6 x7 x8 x9 x10 x11 x12 x13 x14 x15 0 false x18 x19 x20 x21 x22 x23 x24 x25 x26 x27 x28 l8
    else
      bif (decide (x16≥6)) then
        (et_ k (⟨x19,x27,x20,x28⟩:ai_)).bind fun r9=>
        (app 80 x29 ([(⟨1,x12,x14,x15,r9.1,r9.2,0,false,(⟨#[]⟩:ByteArray)⟩:ae_)]:List ae_)).bind fun l10=>
        cg_ k x0 x1 x2 x3 x4 x5 x6 x7 x8 x9 x10 x11 x12 x13 x14 x15 0 false x18 x19 x20 x21 x22 x23 x24 x25 x26 x27 x28 l10
      else
        cg_ k x0 x1 x2 x3 x4 x5 x6 x7 x8 x9 x10 x11 x12 x13 x14 x15 x16 x17 x18 x19 x20 x21 x22 x23 x24 x25 x26 x27 x28 x29
def cg_:Nat→Int→Int→Bool→Int→Int→Int→Bool→Int→Int→ByteArray→ByteArray→Int→Int→Bool→Int→Int→Int→Bool→Int→Int→ByteArray→ByteArray→List ag_→List aj_→List ByteArray→List ae_→List ag_→List aj_→List ByteArray→List ae_→Option (aw_)
  | 0,_,_,_,_,_,_,_,_,_,_,_,_,_,_,_,_,_,_,_,_,_,_,_,_,_,_,_,_,_,_=>none
  | k+1,x0,x1,x2,x3,x4,x5,x6,x7,x8,x9,x10,x11,x12,x13,x14,x15,x16,x17,x18,x19,x20,x21,x22,x23,x24,x25,x26,x27,x28,x29=>
    some (⟨x11,(⟨x12,x13,x14,x15,x16,x17,(⟨x18,x26⟩:ak_),(⟨x19,x27,x20,x28⟩:ai_)⟩:am_),x29,x21⟩:aw_)
end
def hH_ (k:Nat) (a0:am_):Option (aw_):=
  (bY_ k a0).bind fun r1=>
  bif (!r1) then
    some (⟨1,(⟨0,false,0,0,0,false,(⟨0,([]:List ag_)⟩:ak_),(⟨0,([]:List aj_),(⟨#[]⟩:ByteArray),([]:List ByteArray)⟩:ai_)⟩:am_),([]:List ae_),(⟨#[]⟩:ByteArray)⟩:aw_)
  else
    (cW_ k a0).bind fun r2=>
    bif (!r2.Up) then
      some (⟨0,r2,([]:List ae_),(⟨#[]⟩:ByteArray)⟩:aw_)
    else
      bif (decide (r2.Since<1000000)) then
        d8_ k 0 0 false 0 0 0 false 0 0 (⟨#[]⟩:ByteArray) (⟨#[]⟩:ByteArray) 0 r2.Number r2.Up r2.Life r2.Peer (IntKind.wrap .i64 (r2.Since+1)) r2.Owes r2.Send.Base r2.Take.Next r2.Take.Open (⟨#[]⟩:ByteArray) ([]:List ag_) ([]:List aj_) ([]:List ByteArray) ([]:List ae_) r2.Send.Items r2.Take.Held r2.Take.Ready ([]:List ae_)
      else
        d8_ k 0 0 false 0 0 0 false 0 0 (⟨#[]⟩:ByteArray) (⟨#[]⟩:ByteArray) 0 r2.Number r2.Up r2.Life r2.Peer r2.Since r2.Owes r2.Send.Base r2.Take.Next r2.Take.Open (⟨#[]⟩:ByteArray) ([]:List ag_) ([]:List aj_) ([]:List ByteArray) ([]:List ae_) r2.Send.Items r2.Take.Held r2.Take.Ready ([]:List ae_)
def hz_ (k:Nat) (a0:am_):Option (am_):=
  (bY_ k a0).bind fun r1=>
  bif (!r1) then
    some (⟨0,false,0,0,0,false,(⟨0,([]:List ag_)⟩:ak_),(⟨0,([]:List aj_),(⟨#[]⟩:ByteArray),([]:List ByteArray)⟩:ai_)⟩:am_)
  else
    some (⟨a0.Number,false,a0.Life,0,0,false,(⟨0,([]:List ag_)⟩:ak_),(⟨0,([]:List aj_),(⟨#[]⟩:ByteArray),([]:List ByteArray)⟩:ai_)⟩:am_)
def hr_ (k:Nat) (a0:am_):Option (am_):=
  (bY_ k a0).bind fun r1=>
  bif (!r1) then
    some (⟨0,false,0,0,0,false,(⟨0,([]:List ag_)⟩:ak_),(⟨0,([]:List aj_),(⟨#[]⟩:ByteArray),([]:List ByteArray)⟩:ai_)⟩:am_)
  else
    bif a0.Up then
      (cW_ k a0).bind fun r2=>
      some r2
    else
      bif (a0.Life==1000) then
        (cW_ k a0).bind fun r3=>
        some r3
      else
        some (⟨a0.Number,true,(IntKind.wrap .i64 (a0.Life+1)),0,0,false,(⟨0,([]:List ag_)⟩:ak_),(⟨0,([]:List aj_),(⟨#[]⟩:ByteArray),([]:List ByteArray)⟩:ai_)⟩:am_)
def gh_ (k:Nat) (a0:am_) (a1:ByteArray):Option (aw_):=
  (bY_ k a0).bind fun r1=>
  bif (!r1) then
    some (⟨1,(⟨0,false,0,0,0,false,(⟨0,([]:List ag_)⟩:ak_),(⟨0,([]:List aj_),(⟨#[]⟩:ByteArray),([]:List ByteArray)⟩:ai_)⟩:am_),([]:List ae_),(⟨#[]⟩:ByteArray)⟩:aw_)
  else
    bif (!a0.Up) then
      some (⟨2,(⟨0,false,0,0,0,false,(⟨0,([]:List ag_)⟩:ak_),(⟨0,([]:List aj_),(⟨#[]⟩:ByteArray),([]:List ByteArray)⟩:ai_)⟩:am_),([]:List ae_),(⟨#[]⟩:ByteArray)⟩:aw_)
    else
      bif (a0.Peer==0) then
        some (⟨2,(⟨0,false,0,0,0,false,(⟨0,([]:List ag_)⟩:ak_),(⟨0,([]:List aj_),(⟨#[]⟩:ByteArray),([]:List ByteArray)⟩:ai_)⟩:am_),([]:List ae_),(⟨#[]⟩:ByteArray)⟩:aw_)
      else
        (gt_ k a0.Send a1).bind fun r2=>
        bif (r2.2 !=0) then
          some (⟨r2.2,(⟨0,false,0,0,0,false,(⟨0,([]:List ag_)⟩:ak_),(⟨0,([]:List aj_),(⟨#[]⟩:ByteArray),([]:List ByteArray)⟩:ai_)⟩:am_),([]:List ae_),(⟨#[]⟩:ByteArray)⟩:aw_)
        else
          (cW_ k a0).bind fun r3=>
          some (⟨0,(⟨r3.Number,r3.Up,r3.Life,r3.Peer,r3.Since,r3.Owes,r2.1,r3.Take⟩:am_),([]:List ae_),(⟨#[]⟩:ByteArray)⟩:aw_)
def hk_ (k:Nat) (a0:am_):Option (aw_):=
  (bY_ k a0).bind fun r1=>
  bif (!r1) then
    some (⟨1,(⟨0,false,0,0,0,false,(⟨0,([]:List ag_)⟩:ak_),(⟨0,([]:List aj_),(⟨#[]⟩:ByteArray),([]:List ByteArray)⟩:ai_)⟩:am_),([]:List ae_),(⟨#[]⟩:ByteArray)⟩:aw_)
  else
    bif (!a0.Up) then
      some (⟨2,(⟨0,false,0,0,0,false,(⟨0,([]:List ag_)⟩:ak_),(⟨0,([]:List aj_),(⟨#[]⟩:ByteArray),([]:List ByteArray)⟩:ai_)⟩:am_),([]:List ae_),(⟨#[]⟩:ByteArray)⟩:aw_)
    else
      (gF_ k a0.Take).bind fun r2=>
      bif (!r2.2.2) then
        some (⟨4,(⟨0,false,0,0,0,false,(⟨0,([]:List ag_)⟩:ak_),(⟨0,([]:List aj_),(⟨#[]⟩:ByteArray),([]:List ByteArray)⟩:ai_)⟩:am_),([]:List ae_),(⟨#[]⟩:ByteArray)⟩:aw_)
      else
        (cW_ k a0).bind fun r3=>
        some (⟨0,(⟨r3.Number,r3.Up,r3.Life,r3.Peer,r3.Since,true,r3.Send,r2.1⟩:am_),([]:List ae_),r2.2.1⟩:aw_)
end Km.X
namespace Km.X
open Go Km
set_option linter.unusedVariables false
set_option maxRecDepth 100000
noncomputable def gE_ (k:Nat) (a0:ByteArray) (a1:Int):Option (ab_):=
  (ay_ k a1 1 8).bind fun r1=>
  bif (!r1) then
    some (⟨(⟨#[]⟩:ByteArray),0,([]:List am_),([]:List ad_),(⟨#[]⟩:ByteArray),([]:List aa_),([]:List aa_)⟩:ab_)
  else
    bif (decide ((a0.size:Int)>30)) then
      some (⟨(⟨#[]⟩:ByteArray),0,([]:List am_),([]:List ad_),(⟨#[]⟩:ByteArray),([]:List aa_),([]:List aa_)⟩:ab_)
    else
      (g0_ k 1).bind fun r2=>
      (g0_ k 2).bind fun r3=>
      some (⟨a0,a1,([r2,r3]:List am_),([]:List ad_),(⟨#[]⟩:ByteArray),([]:List aa_),([]:List aa_)⟩:ab_)
noncomputable def bP_:Nat→List aa_→Int→Option (Bool)
  | 0,_,_=>none
  | k+1,x0,x1=>
    bif (decide (x1<(x0.length:Int))) then
      (idx x0 x1).bind fun y1=>
      (ay_ k y1.From 1 2).bind fun r2=>
      bif (!r2) then
        some false
      else
        (ay_ k y1.A 1 1000).bind fun r3=>
        bif (!r3) then
          some false
        else
          (ay_ k y1.B 1 1000).bind fun r4=>
          bif (!r4) then
            some false
          else
            bif (decide ((y1.Text.size:Int)>200)) then
              some false
            else
              bP_ k x0 (IntKind.wrap .i64 (x1+1))
    else
      some true
noncomputable def eV_ (k:Nat) (a0:List aa_):Option (Bool):=
  bP_ k a0 0
mutual
noncomputable def cb_:Nat→Int→ByteArray→Int→List am_→List ad_→ByteArray→List aa_→List aa_→Option (Bool)
  | 0,_,_,_,_,_,_,_,_=>none
  | k+1,x0,x1,x2,x3,x4,x5,x6,x7=>
    bif (decide (x0<2)) then
      (idx x3 x0).bind fun y2=>
      (bX_ k y2).bind fun r3=>
      bif (!r3) then
        some false
      else
        (idx x3 x0).bind fun y4=>
        bif (y4.Number !=(IntKind.wrap .i64 (x0+1))) then
          some false
        else
          cb_ k (IntKind.wrap .i64 (x0+1)) x1 x2 x3 x4 x5 x6 x7
    else
      b8_ k 0 x1 x2 x3 x4 x5 x6 x7
noncomputable def b8_:Nat→Int→ByteArray→Int→List am_→List ad_→ByteArray→List aa_→List aa_→Option (Bool)
  | 0,_,_,_,_,_,_,_,_=>none
  | k+1,x0,x1,x2,x3,x4,x5,x6,x7=>
    bif (decide (x0<(x4.length:Int))) then
      (idx x4 x0).bind fun y5=>
      (ay_ k y5.To 1 2).bind fun r6=>
      bif (!r6) then
        some false
      else
        bif (decide ((y5.Sent.size:Int)>100)) then
          some false
        else
          bif (decide ((y5.Bytes.size:Int)>100)) then
            some false
          else
            b8_ k (IntKind.wrap .i64 (x0+1)) x1 x2 x3 x4 x5 x6 x7
    else
      (eV_ k x6).bind fun r7=>
      bif r7 then
        (eV_ k x7).bind fun r8=>
        some r8
      else
        some false
end
noncomputable def bq_ (k:Nat) (a0:ab_):Option (Bool):=
  (ay_ k a0.Width 1 8).bind fun r1=>
  bif (!r1) then
    some false
  else
    bif (decide ((a0.Key.size:Int)>30)) then
      some false
    else
      bif ((a0.Ends.length:Int) !=2) then
        some false
      else
        bif (decide ((a0.Flight.length:Int)>1000)) then
          some false
        else
          bif (decide ((IntKind.wrap .i64 ((a0.Given.length:Int)+(a0.Taken.length:Int)))>400)) then
            some false
          else
            cb_ k 0 a0.Key a0.Width a0.Ends a0.Flight a0.Forged a0.Given a0.Taken
noncomputable def dS_:Nat→Int→ByteArray→Int→List am_→List ad_→ByteArray→List aa_→List aa_→ByteArray→Int→ByteArray→ByteArray→Int→List ad_→ByteArray→List aa_→List aa_→List am_→List ad_→List aa_→List aa_→List am_→Option (ab_)
  | 0,_,_,_,_,_,_,_,_,_,_,_,_,_,_,_,_,_,_,_,_,_,_=>none
  | k+1,x0,x1,x2,x3,x4,x5,x6,x7,x8,x9,x10,x11,x12,x13,x14,x15,x16,x17,x18,x19,x20,x21=>
    bif (decide (x0<(x3.length:Int))) then
      (idx x3 x0).bind fun y1=>
      (c1_ k y1).bind fun r2=>
      (app 152 x21 ([r2]:List am_)).bind fun l3=>
      dS_ k (IntKind.wrap .i64 (x0+1)) x1 x2 x3 x4 x5 x6 x7 x8 x9 x10 x11 x12 x13 x14 x15 x16 x17 x18 x19 x20 l3
    else
      (app 40 ([]:List ad_) x4).bind fun l4=>
      (app 40 ([]:List aa_) x6).bind fun l5=>
      (app 40 ([]:List aa_) x7).bind fun l6=>
      some (⟨x11,x12,x21,l4,x14,l5,l6⟩:ab_)
noncomputable def ei_ (k:Nat) (a0:ab_):Option (ab_):=
  dS_ k 0 a0.Key a0.Width a0.Ends a0.Flight a0.Forged a0.Given a0.Taken (⟨#[]⟩:ByteArray) 0 (⟨#[]⟩:ByteArray) a0.Key a0.Width a0.Flight a0.Forged a0.Given a0.Taken ([]:List am_) ([]:List ad_) ([]:List aa_) ([]:List aa_) ([]:List am_)
mutual
noncomputable def bT_:Nat→Int→ByteArray→Int→ByteArray→ByteArray→Int→ByteArray→List am_→List ad_→List aa_→List aa_→List am_→List ad_→List aa_→List aa_→Option (ab_)
  | 0,_,_,_,_,_,_,_,_,_,_,_,_,_,_,_=>none
  | k+1,x0,x1,x2,x3,x4,x5,x6,x7,x8,x9,x10,x11,x12,x13,x14=>
    bif (decide (x0<2)) then
      (idx x7 x0).bind fun _=>
      (x7[(Int.toNat x0)]?).bind fun y1=>
      (ht_ k y1).bind fun r2=>
      (idx x7 x0).bind fun _=>
      (x7[(Int.toNat x0)]?).bind fun y3=>
      dR_ k x0 0 x1 x2 x3 x4 x5 x6 r2.Code r2.End.Number r2.End.Up r2.End.Life r2.End.Peer r2.End.Since r2.End.Owes r2.End.Send.Base r2.End.Take.Next r2.End.Take.Open r2.Text (x7.set (Int.toNat x0) r2.End) x8 x9 x10 x11 x12 x13 x14 r2.Out
    else
      some (⟨x1,x2,x7,x8,x3,x9,x10⟩:ab_)
noncomputable def dR_:Nat→Int→Int→ByteArray→Int→ByteArray→ByteArray→Int→ByteArray→Int→Int→Bool→Int→Int→Int→Bool→Int→Int→ByteArray→ByteArray→List am_→List ad_→List aa_→List aa_→List am_→List ad_→List aa_→List aa_→List ae_→Option (ab_)
  | 0,_,_,_,_,_,_,_,_,_,_,_,_,_,_,_,_,_,_,_,_,_,_,_,_,_,_,_,_=>none
  | k+1,x0,x1,x2,x3,x4,x5,x6,x7,x8,x9,x10,x11,x12,x13,x14,x15,x16,x17,x18,x19,x20,x21,x22,x23,x24,x25,x26,x27=>
    bif (decide (x1<(x27.length:Int))) then
      bif (decide ((x20.length:Int)<1000)) then
        (idx x27 x1).bind fun _=>
        (x27[(Int.toNat x1)]?).bind fun y4=>
        (dd_ k y4 x2 x3).bind fun r5=>
        (app 40 x20 ([(⟨(IntKind.wrap .i64 (2-x0)),r5,r5⟩:ad_)]:List ad_)).bind fun l6=>
        dR_ k x0 (IntKind.wrap .i64 (x1+1)) x2 x3 x4 x5 x6 x7 x8 x9 x10 x11 x12 x13 x14 x15 x16 x17 x18 x19 l6 x21 x22 x23 x24 x25 x26 x27
      else
        bT_ k (IntKind.wrap .i64 (x0+1)) x2 x3 x4 x5 x6 x7 x19 x20 x21 x22 x23 x24 x25 x26
    else
      bT_ k (IntKind.wrap .i64 (x0+1)) x2 x3 x4 x5 x6 x7 x19 x20 x21 x22 x23 x24 x25 x26
end
noncomputable def fW_ (k:Nat) (a0:ab_):Option (ab_):=
  bT_ k 0 a0.Key a0.Width a0.Forged (⟨#[]⟩:ByteArray) 0 (⟨#[]⟩:ByteArray) a0.Ends a0.Flight a0.Given a0.Taken ([]:List am_) ([]:List ad_) ([]:List aa_) ([]:List aa_)
noncomputable def bI_:Nat→Int→Int→List aJ_→Int→ByteArray→ByteArray→Option (List aJ_×Bool)
  | 0,_,_,_,_,_,_=>none
  | k+1,x0,x1,x2,x3,x4,x5=>
    bif (decide (x1<(x2.length:Int))) then
      (idx x2 x1).bind fun _=>
      (x2[(Int.toNat x1)]?).bind fun y1=>
      bif (y1.to==x3) then
        (idx x2 x1).bind fun _=>
        (x2[(Int.toNat x1)]?).bind fun y2=>
        bif (y2.bytes.toList==x5.toList) then
          (idx x2 x1).bind fun _=>
          (x2[(Int.toNat x1)]?).bind fun y3=>
          (idx x2 x1).bind fun _=>
          (x2[(Int.toNat x1)]?).bind fun y4=>
          (idx (x2.set (Int.toNat x1) (⟨y4.to,y4.bytes,(IntKind.wrap .i64 (y3.n+1))⟩:aJ_)) x1).bind fun _=>
          ((x2.set (Int.toNat x1) (⟨y4.to,y4.bytes,(IntKind.wrap .i64 (y3.n+1))⟩:aJ_))[(Int.toNat x1)]?).bind fun y5=>
          (ql_ y5.n x0).bind fun q6=>
          some ((x2.set (Int.toNat x1) (⟨y4.to,y4.bytes,(IntKind.wrap .i64 (y3.n+1))⟩:aJ_)),(q6==0))
        else
          bI_ k x0 (IntKind.wrap .i64 (x1+1)) x2 x3 x4 x5
      else
        bI_ k x0 (IntKind.wrap .i64 (x1+1)) x2 x3 x4 x5
    else
      (app 32 x2 ([(⟨x3,x5,1⟩:aJ_)]:List aJ_)).bind fun l7=>
      some (l7,(x0==1))
noncomputable def gw_ (k:Nat) (a0:List aJ_) (a1:ad_) (a2:Int):Option (List aJ_×Bool):=
  bI_ k a2 0 a0 a1.To a1.Sent a1.Bytes
noncomputable def dM_ (k:Nat) (a0:List ad_) (a1:Int):Option (List ad_):=
  (wnd a0.length 0 a1).bind fun p1=>
  (app 40 ([]:List ad_) (dT_ a0 p1.1 p1.2)).bind fun l2=>
  (wnd a0.length (IntKind.wrap .i64 (a1+1)) (a0.length:Int)).bind fun p3=>
  (app 40 l2 (dT_ a0 p3.1 p3.2)).bind fun l4=>
  some l4
noncomputable def dc_:Nat→ByteArray→Int→ByteArray→ByteArray→Int→ByteArray→Int→ByteArray→ByteArray→Int→Int→Int→Int→Int→Int→Int→Bool→ByteArray→List am_→List ad_→List aa_→List aa_→List am_→List ad_→List aa_→List aa_→Option (ab_)
  | 0,_,_,_,_,_,_,_,_,_,_,_,_,_,_,_,_,_,_,_,_,_,_,_,_,_,_=>none
  | k+1,x0,x1,x2,x3,x4,x5,x6,x7,x8,x9,x10,x11,x12,x13,x14,x15,x16,x17,x18,x19,x20,x21,x22,x23,x24,x25=>
    (idx x18 (IntKind.wrap .i64 (x6-1))).bind fun _=>
    (x18[(Int.toNat (IntKind.wrap .i64 (x6-1)))]?).bind fun y4=>
    (hn_ k y4 (⟨x9,x10,x11,x12,x13,x14,x15,x16,x17⟩:ae_)).bind fun r5=>
    (idx x18 (IntKind.wrap .i64 (x6-1))).bind fun _=>
    (x18[(Int.toNat (IntKind.wrap .i64 (x6-1)))]?).bind fun y6=>
    some (⟨x0,x1,(x18.set (Int.toNat (IntKind.wrap .i64 (x6-1))) r5.End),x19,x2,x20,x21⟩:ab_)
noncomputable def e6_ (k:Nat) (a0:ab_) (a1:Int):Option (ab_):=
  (idx a0.Flight a1).bind fun _=>
  (a0.Flight[(Int.toNat a1)]?).bind fun y1=>
  (dM_ k a0.Flight a1).bind fun r2=>
  (fA_ k y1.Bytes a0.Key a0.Width).bind fun r3=>
  bif (!r3.2) then
    some (⟨a0.Key,a0.Width,a0.Ends,r2,a0.Forged,a0.Given,a0.Taken⟩:ab_)
  else
    bif (!(y1.Bytes.toList==y1.Sent.toList)) then
      bif (a0.Forged.toList==(⟨#[]⟩:ByteArray).toList) then
        dc_ k a0.Key a0.Width y1.Bytes (⟨#[]⟩:ByteArray) 0 (⟨#[]⟩:ByteArray) y1.To y1.Sent y1.Bytes r3.1.Kind r3.1.From r3.1.Mine r3.1.Yours r3.1.Next r3.1.Mask r3.1.Seq r3.1.Last r3.1.Part a0.Ends r2 a0.Given a0.Taken ([]:List am_) ([]:List ad_) ([]:List aa_) ([]:List aa_)
      else
        dc_ k a0.Key a0.Width a0.Forged (⟨#[]⟩:ByteArray) 0 (⟨#[]⟩:ByteArray) y1.To y1.Sent y1.Bytes r3.1.Kind r3.1.From r3.1.Mine r3.1.Yours r3.1.Next r3.1.Mask r3.1.Seq r3.1.Last r3.1.Part a0.Ends r2 a0.Given a0.Taken ([]:List am_) ([]:List ad_) ([]:List aa_) ([]:List aa_)
    else
      dc_ k a0.Key a0.Width a0.Forged (⟨#[]⟩:ByteArray) 0 (⟨#[]⟩:ByteArray) y1.To y1.Sent y1.Bytes r3.1.Kind r3.1.From r3.1.Mine r3.1.Yours r3.1.Next r3.1.Mask r3.1.Seq r3.1.Last r3.1.Part a0.Ends r2 a0.Given a0.Taken ([]:List am_) ([]:List ad_) ([]:List aa_) ([]:List aa_)
noncomputable def bc_:Nat→ByteArray→Int→ByteArray→ByteArray→Int→ByteArray→List am_→List ad_→List aa_→List aa_→List am_→List ad_→List aa_→List aa_→Option (ab_)
  | 0,_,_,_,_,_,_,_,_,_,_,_,_,_,_=>none
  | k+1,x0,x1,x2,x3,x4,x5,x6,x7,x8,x9,x10,x11,x12,x13=>
    some (⟨x0,x1,x6,x7,x2,x8,x9⟩:ab_)
noncomputable def gJ_ (k:Nat) (a0:ab_) (a1:aT_):Option (ab_):=
  (idx a0.Ends (IntKind.wrap .i64 (a1.A-1))).bind fun _=>
  (a0.Ends[(Int.toNat (IntKind.wrap .i64 (a1.A-1)))]?).bind fun y1=>
  bif (a1.Kind==8) then
    (hi_ k y1).bind fun r2=>
    (idx a0.Ends (IntKind.wrap .i64 (a1.A-1))).bind fun _=>
    (a0.Ends[(Int.toNat (IntKind.wrap .i64 (a1.A-1)))]?).bind fun y3=>
    bc_ k a0.Key a0.Width a0.Forged (⟨#[]⟩:ByteArray) 0 (⟨#[]⟩:ByteArray) (a0.Ends.set (Int.toNat (IntKind.wrap .i64 (a1.A-1))) r2) a0.Flight a0.Given a0.Taken ([]:List am_) ([]:List ad_) ([]:List aa_) ([]:List aa_)
  else
    bif (a1.Kind==9) then
      (hq_ k y1).bind fun r4=>
      (idx a0.Ends (IntKind.wrap .i64 (a1.A-1))).bind fun _=>
      (a0.Ends[(Int.toNat (IntKind.wrap .i64 (a1.A-1)))]?).bind fun y5=>
      bc_ k a0.Key a0.Width a0.Forged (⟨#[]⟩:ByteArray) 0 (⟨#[]⟩:ByteArray) (a0.Ends.set (Int.toNat (IntKind.wrap .i64 (a1.A-1))) r4) a0.Flight a0.Given a0.Taken ([]:List am_) ([]:List ad_) ([]:List aa_) ([]:List aa_)
    else
      bif (a1.Kind==10) then
        (hF_ k y1 a1.Text).bind fun r6=>
        bif (r6.Code==0) then
          bif (decide ((IntKind.wrap .i64 ((a0.Given.length:Int)+(a0.Taken.length:Int)))<400)) then
            (idx a0.Ends (IntKind.wrap .i64 (a1.A-1))).bind fun _=>
            (a0.Ends[(Int.toNat (IntKind.wrap .i64 (a1.A-1)))]?).bind fun y7=>
            (app 40 a0.Given ([(⟨a1.A,y1.Life,y1.Peer,a1.Text⟩:aa_)]:List aa_)).bind fun l8=>
            bc_ k a0.Key a0.Width a0.Forged (⟨#[]⟩:ByteArray) 0 (⟨#[]⟩:ByteArray) (a0.Ends.set (Int.toNat (IntKind.wrap .i64 (a1.A-1))) r6.End) a0.Flight l8 a0.Taken ([]:List am_) ([]:List ad_) ([]:List aa_) ([]:List aa_)
          else
            bc_ k a0.Key a0.Width a0.Forged (⟨#[]⟩:ByteArray) 0 (⟨#[]⟩:ByteArray) a0.Ends a0.Flight a0.Given a0.Taken ([]:List am_) ([]:List ad_) ([]:List aa_) ([]:List aa_)
        else
          bc_ k a0.Key a0.Width a0.Forged (⟨#[]⟩:ByteArray) 0 (⟨#[]⟩:ByteArray) a0.Ends a0.Flight a0.Given a0.Taken ([]:List am_) ([]:List ad_) ([]:List aa_) ([]:List aa_)
      else
        bif (a1.Kind==11) then
          (hl_ k y1).bind fun r9=>
          bif (r9.Code==0) then
            bif (decide ((IntKind.wrap .i64 ((a0.Given.length:Int)+(a0.Taken.length:Int)))<400)) then
              (idx a0.Ends (IntKind.wrap .i64 (a1.A-1))).bind fun _=>
              (a0.Ends[(Int.toNat (IntKind.wrap .i64 (a1.A-1)))]?).bind fun y10=>
              (app 40 a0.Taken ([(⟨(IntKind.wrap .i64 (3-a1.A)),y1.Peer,y1.Life,r9.Text⟩:aa_)]:List aa_)).bind fun l11=>
              bc_ k a0.Key a0.Width a0.Forged (⟨#[]⟩:ByteArray) 0 (⟨#[]⟩:ByteArray) (a0.Ends.set (Int.toNat (IntKind.wrap .i64 (a1.A-1))) r9.End) a0.Flight a0.Given l11 ([]:List am_) ([]:List ad_) ([]:List aa_) ([]:List aa_)
            else
              bc_ k a0.Key a0.Width a0.Forged (⟨#[]⟩:ByteArray) 0 (⟨#[]⟩:ByteArray) a0.Ends a0.Flight a0.Given a0.Taken ([]:List am_) ([]:List ad_) ([]:List aa_) ([]:List aa_)
          else
            bc_ k a0.Key a0.Width a0.Forged (⟨#[]⟩:ByteArray) 0 (⟨#[]⟩:ByteArray) a0.Ends a0.Flight a0.Given a0.Taken ([]:List am_) ([]:List ad_) ([]:List aa_) ([]:List aa_)
        else
          bc_ k a0.Key a0.Width a0.Forged (⟨#[]⟩:ByteArray) 0 (⟨#[]⟩:ByteArray) a0.Ends a0.Flight a0.Given a0.Taken ([]:List am_) ([]:List ad_) ([]:List aa_) ([]:List aa_)
mutual
noncomputable def fa_:Nat→Int→Int→Int→ByteArray→Int→ByteArray→ByteArray→Int→ByteArray→List aJ_→List am_→List ad_→List aa_→List aa_→List am_→List ad_→List aa_→List aa_→Option (ab_)
  | 0,_,_,_,_,_,_,_,_,_,_,_,_,_,_,_,_,_,_=>none
  | k+1,x0,x1,x2,x3,x4,x5,x6,x7,x8,x9,x10,x11,x12,x13,x14,x15,x16,x17=>
    bif (decide (x2<x0)) then
      bif (decide (x2<5000)) then
        (fW_ k (⟨x6,x7,x14,x15,x8,x16,x17⟩:ab_)).bind fun r4=>
        d6_ k x0 x1 x2 x3 x4 x5 r4.Key r4.Width r4.Forged x9 x10 x11 x12 x13 r4.Ends r4.Flight r4.Given r4.Taken
      else
        (ei_ k (⟨x6,x7,x14,x15,x8,x16,x17⟩:ab_)).bind fun r5=>
        some r5
    else
      (ei_ k (⟨x6,x7,x14,x15,x8,x16,x17⟩:ab_)).bind fun r6=>
      some r6
noncomputable def d6_:Nat→Int→Int→Int→ByteArray→Int→ByteArray→ByteArray→Int→ByteArray→List aJ_→List am_→List ad_→List aa_→List aa_→List am_→List ad_→List aa_→List aa_→Option (ab_)
  | 0,_,_,_,_,_,_,_,_,_,_,_,_,_,_,_,_,_,_=>none
  | k+1,x0,x1,x2,x3,x4,x5,x6,x7,x8,x9,x10,x11,x12,x13,x14,x15,x16,x17=>
    bif (decide ((x15.length:Int)>0)) then
      (idx x15 0).bind fun _=>
      (x15[(Int.toNat 0)]?).bind fun y7=>
      (gw_ k x9 y7 x1).bind fun r8=>
      bif r8.2 then
        (e6_ k (⟨x6,x7,x14,x15,x8,x16,x17⟩:ab_) 0).bind fun r9=>
        d6_ k x0 x1 x2 x3 x4 x5 r9.Key r9.Width r9.Forged r8.1 x10 x11 x12 x13 r9.Ends r9.Flight r9.Given r9.Taken
      else
        (dM_ k x15 0).bind fun r10=>
        d6_ k x0 x1 x2 x3 x4 x5 x6 x7 x8 r8.1 x10 x11 x12 x13 x14 r10 x16 x17
    else
      cm_ k x0 x1 x2 1 x3 x4 x5 x6 x7 x8 x9 x10 x11 x12 x13 x14 x15 x16 x17
noncomputable def cm_:Nat→Int→Int→Int→Int→ByteArray→Int→ByteArray→ByteArray→Int→ByteArray→List aJ_→List am_→List ad_→List aa_→List aa_→List am_→List ad_→List aa_→List aa_→Option (ab_)
  | 0,_,_,_,_,_,_,_,_,_,_,_,_,_,_,_,_,_,_,_=>none
  | k+1,x0,x1,x2,x3,x4,x5,x6,x7,x8,x9,x10,x11,x12,x13,x14,x15,x16,x17,x18=>
    bif (decide (x3≤2)) then
      eA_ k x0 x1 x2 x3 0 x4 x5 x6 x7 x8 x9 x10 x11 x12 x13 x14 x15 x16 x17 x18
    else
      fa_ k x0 x1 (IntKind.wrap .i64 (x2+1)) x4 x5 x6 x7 x8 x9 x10 x11 x12 x13 x14 x15 x16 x17 x18
noncomputable def eA_:Nat→Int→Int→Int→Int→Int→ByteArray→Int→ByteArray→ByteArray→Int→ByteArray→List aJ_→List am_→List ad_→List aa_→List aa_→List am_→List ad_→List aa_→List aa_→Option (ab_)
  | 0,_,_,_,_,_,_,_,_,_,_,_,_,_,_,_,_,_,_,_,_=>none
  | k+1,x0,x1,x2,x3,x4,x5,x6,x7,x8,x9,x10,x11,x12,x13,x14,x15,x16,x17,x18,x19=>
    bif (decide (x4<4)) then
      (idx x16 (IntKind.wrap .i64 (x3-1))).bind fun _=>
      (x16[(Int.toNat (IntKind.wrap .i64 (x3-1)))]?).bind fun y11=>
      bif (decide ((y11.Take.Ready.length:Int)>0)) then
        (gJ_ k (⟨x8,x9,x16,x17,x10,x18,x19⟩:ab_) (⟨11,x3,0,0,(⟨#[]⟩:ByteArray)⟩:aT_)).bind fun r12=>
        eA_ k x0 x1 x2 x3 (IntKind.wrap .i64 (x4+1)) x5 x6 x7 r12.Key r12.Width r12.Forged x11 x12 x13 x14 x15 r12.Ends r12.Flight r12.Given r12.Taken
      else
        cm_ k x0 x1 x2 (IntKind.wrap .i64 (x3+1)) x5 x6 x7 x8 x9 x10 x11 x12 x13 x14 x15 x16 x17 x18 x19
    else
      cm_ k x0 x1 x2 (IntKind.wrap .i64 (x3+1)) x5 x6 x7 x8 x9 x10 x11 x12 x13 x14 x15 x16 x17 x18 x19
end
noncomputable def lY_ (k:Nat) (a0:ab_) (a1:Int) (a2:Int):Option (ab_):=
  (bq_ k a0).bind fun r1=>
  bif (!r1) then
    some (⟨(⟨#[]⟩:ByteArray),0,([]:List am_),([]:List ad_),(⟨#[]⟩:ByteArray),([]:List aa_),([]:List aa_)⟩:ab_)
  else
    (ay_ k a2 1 10).bind fun r2=>
    bif (!r2) then
      some (⟨(⟨#[]⟩:ByteArray),0,([]:List am_),([]:List ad_),(⟨#[]⟩:ByteArray),([]:List aa_),([]:List aa_)⟩:ab_)
    else
      (ei_ k a0).bind fun r3=>
      fa_ k a1 a2 0 (⟨#[]⟩:ByteArray) 0 (⟨#[]⟩:ByteArray) r3.Key r3.Width r3.Forged ([]:List aJ_) ([]:List am_) ([]:List ad_) ([]:List aa_) ([]:List aa_) r3.Ends r3.Flight r3.Given r3.Taken
mutual
noncomputable def de_:Nat→ByteArray→Int→ByteArray→ByteArray→Int→ByteArray→List am_→List ad_→List aa_→List aa_→List am_→List ad_→List aa_→List aa_→Option (ab_)
  | 0,_,_,_,_,_,_,_,_,_,_,_,_,_,_=>none
  | k+1,x0,x1,x2,x3,x4,x5,x6,x7,x8,x9,x10,x11,x12,x13=>
    some (⟨x0,x1,x6,x7,x2,x8,x9⟩:ab_)
noncomputable def aL_:Nat→ByteArray→Int→ByteArray→Int→Int→Int→Int→ByteArray→ByteArray→Int→ByteArray→Int→ByteArray→ByteArray→List am_→List ad_→List aa_→List aa_→List am_→List ad_→List aa_→List aa_→Option (ab_)
  | 0,_,_,_,_,_,_,_,_,_,_,_,_,_,_,_,_,_,_,_,_,_,_=>none
  | k+1,x0,x1,x2,x3,x4,x5,x6,x7,x8,x9,x10,x11,x12,x13,x14,x15,x16,x17,x18,x19,x20,x21=>
    (idx x15 x4).bind fun _=>
    (x15[(Int.toNat x4)]?).bind fun y9=>
    some (⟨x0,x1,x14,(x15.set (Int.toNat x4) (⟨x11,x12,x13⟩:ad_)),x2,x16,x17⟩:ab_)
end
noncomputable def gA_ (k:Nat) (a0:ab_) (a1:aT_):Option (ab_):=
  (idx a0.Flight a1.A).bind fun _=>
  (a0.Flight[(Int.toNat a1.A)]?).bind fun y1=>
  bif (a1.Kind==2) then
    (e6_ k a0 a1.A).bind fun r2=>
    some r2
  else
    bif (a1.Kind==4) then
      (dM_ k a0.Flight a1.A).bind fun r3=>
      some (⟨a0.Key,a0.Width,a0.Ends,r3,a0.Forged,a0.Given,a0.Taken⟩:ab_)
    else
      bif (a1.Kind==3) then
        bif (decide ((a0.Flight.length:Int)<1000)) then
          (app 40 a0.Flight ([y1]:List ad_)).bind fun l4=>
          de_ k a0.Key a0.Width a0.Forged (⟨#[]⟩:ByteArray) 0 (⟨#[]⟩:ByteArray) a0.Ends l4 a0.Given a0.Taken ([]:List am_) ([]:List ad_) ([]:List aa_) ([]:List aa_)
        else
          de_ k a0.Key a0.Width a0.Forged (⟨#[]⟩:ByteArray) 0 (⟨#[]⟩:ByteArray) a0.Ends a0.Flight a0.Given a0.Taken ([]:List am_) ([]:List ad_) ([]:List aa_) ([]:List aa_)
      else
        bif (a1.Kind==5) then
          bif (decide (a1.B≥0)) then
            bif (decide (a1.B<(y1.Bytes.size:Int))) then
              bif (decide (a1.C≥0)) then
                (idx (b0_ y1.Bytes) a1.B).bind fun _=>
                ((b0_ y1.Bytes)[(Int.toNat a1.B)]?).bind fun y5=>
                (ql_ a1.C 256).bind fun q6=>
                (idx (b0_ y1.Bytes) a1.B).bind fun _=>
                ((b0_ y1.Bytes)[(Int.toNat a1.B)]?).bind fun y7=>
                aL_ k a0.Key a0.Width a0.Forged a1.Kind a1.A a1.B a1.C a1.Text (⟨#[]⟩:ByteArray) 0 (⟨#[]⟩:ByteArray) y1.To y1.Sent (jb_ ((b0_ y1.Bytes).set (Int.toNat a1.B) (iP_ .u8 y5 (IntKind.wrap .u8 q6)))) a0.Ends a0.Flight a0.Given a0.Taken ([]:List am_) ([]:List ad_) ([]:List aa_) ([]:List aa_)
              else
                aL_ k a0.Key a0.Width a0.Forged a1.Kind a1.A a1.B a1.C a1.Text (⟨#[]⟩:ByteArray) 0 (⟨#[]⟩:ByteArray) y1.To y1.Sent y1.Bytes a0.Ends a0.Flight a0.Given a0.Taken ([]:List am_) ([]:List ad_) ([]:List aa_) ([]:List aa_)
            else
              aL_ k a0.Key a0.Width a0.Forged a1.Kind a1.A a1.B a1.C a1.Text (⟨#[]⟩:ByteArray) 0 (⟨#[]⟩:ByteArray) y1.To y1.Sent y1.Bytes a0.Ends a0.Flight a0.Given a0.Taken ([]:List am_) ([]:List ad_) ([]:List aa_) ([]:List aa_)
          else
            aL_ k a0.Key a0.Width a0.Forged a1.Kind a1.A a1.B a1.C a1.Text (⟨#[]⟩:ByteArray) 0 (⟨#[]⟩:ByteArray) y1.To y1.Sent y1.Bytes a0.Ends a0.Flight a0.Given a0.Taken ([]:List am_) ([]:List ad_) ([]:List aa_) ([]:List aa_)
        else
          bif (a1.Kind==6) then
            bif (decide (a1.B≥0)) then
              bif (decide (a1.B≤(y1.Bytes.size:Int))) then
                (wnd y1.Bytes.size 0 a1.B).bind fun p8=>
                aL_ k a0.Key a0.Width a0.Forged a1.Kind a1.A a1.B a1.C a1.Text (⟨#[]⟩:ByteArray) 0 (⟨#[]⟩:ByteArray) y1.To y1.Sent (y1.Bytes.extract p8.1 p8.2) a0.Ends a0.Flight a0.Given a0.Taken ([]:List am_) ([]:List ad_) ([]:List aa_) ([]:List aa_)
              else
                aL_ k a0.Key a0.Width a0.Forged a1.Kind a1.A a1.B a1.C a1.Text (⟨#[]⟩:ByteArray) 0 (⟨#[]⟩:ByteArray) y1.To y1.Sent y1.Bytes a0.Ends a0.Flight a0.Given a0.Taken ([]:List am_) ([]:List ad_) ([]:List aa_) ([]:List aa_)
            else
              aL_ k a0.Key a0.Width a0.Forged a1.Kind a1.A a1.B a1.C a1.Text (⟨#[]⟩:ByteArray) 0 (⟨#[]⟩:ByteArray) y1.To y1.Sent y1.Bytes a0.Ends a0.Flight a0.Given a0.Taken ([]:List am_) ([]:List ad_) ([]:List aa_) ([]:List aa_)
          else
            bif (a1.Kind==7) then
              aL_ k a0.Key a0.Width a0.Forged a1.Kind a1.A a1.B a1.C a1.Text (⟨#[]⟩:ByteArray) 0 (⟨#[]⟩:ByteArray) (IntKind.wrap .i64 (3-y1.To)) y1.Sent y1.Bytes a0.Ends a0.Flight a0.Given a0.Taken ([]:List am_) ([]:List ad_) ([]:List aa_) ([]:List aa_)
            else
              aL_ k a0.Key a0.Width a0.Forged a1.Kind a1.A a1.B a1.C a1.Text (⟨#[]⟩:ByteArray) 0 (⟨#[]⟩:ByteArray) y1.To y1.Sent y1.Bytes a0.Ends a0.Flight a0.Given a0.Taken ([]:List am_) ([]:List ad_) ([]:List aa_) ([]:List aa_)
noncomputable def hV_ (k:Nat) (a0:ab_) (a1:aT_):Option (ab_):=
  bif (a1.Kind==1) then
    (fW_ k a0).bind fun r1=>
    some r1
  else
    (ay_ k a1.Kind 2 7).bind fun r2=>
    bif r2 then
      (ay_ k a1.A 0 (IntKind.wrap .i64 ((a0.Flight.length:Int)-1))).bind fun r3=>
      bif r3 then
        (gA_ k a0 a1).bind fun r4=>
        some r4
      else
        (ay_ k a1.Kind 8 11).bind fun r5=>
        bif r5 then
          (ay_ k a1.A 1 2).bind fun r6=>
          bif r6 then
            (gJ_ k a0 a1).bind fun r7=>
            some r7
          else
            some a0
        else
          some a0
    else
      (ay_ k a1.Kind 8 11).bind fun r8=>
      bif r8 then
        (ay_ k a1.A 1 2).bind fun r9=>
        bif r9 then
          (gJ_ k a0 a1).bind fun r10=>
          some r10
        else
          some a0
      else
        some a0
mutual
noncomputable def ca_:Nat→List am_→Int→Int→ByteArray→Int→List am_→List ad_→ByteArray→List aa_→List aa_→Option (Bool)
  | 0,_,_,_,_,_,_,_,_,_,_=>none
  | k+1,x0,x1,x2,x3,x4,x5,x6,x7,x8,x9=>
    bif (decide (x2<x1)) then
      (idx x0 x2).bind fun y1=>
      (bY_ k y1).bind fun r2=>
      bif (!r2) then
        some false
      else
        bif (y1.Number !=(IntKind.wrap .i64 (x2+1))) then
          some false
        else
          ca_ k x0 x1 (IntKind.wrap .i64 (x2+1)) x3 x4 x5 x6 x7 x8 x9
    else
      ba_ k x6 (x6.length:Int) 0 x3 x4 x5 x6 x7 x8 x9
noncomputable def ba_:Nat→List ad_→Int→Int→ByteArray→Int→List am_→List ad_→ByteArray→List aa_→List aa_→Option (Bool)
  | 0,_,_,_,_,_,_,_,_,_,_=>none
  | k+1,x0,x1,x2,x3,x4,x5,x6,x7,x8,x9=>
    bif (decide (x2<x1)) then
      (idx x0 x2).bind fun y3=>
      bif (y3.To !=1) then
        bif (y3.To !=2) then
          some false
        else
          bif (decide ((y3.Sent.size:Int)>100)) then
            some false
          else
            bif (decide ((y3.Bytes.size:Int)>100)) then
              some false
            else
              ba_ k x0 x1 (IntKind.wrap .i64 (x2+1)) x3 x4 x5 x6 x7 x8 x9
      else
        bif (decide ((y3.Sent.size:Int)>100)) then
          some false
        else
          bif (decide ((y3.Bytes.size:Int)>100)) then
            some false
          else
            ba_ k x0 x1 (IntKind.wrap .i64 (x2+1)) x3 x4 x5 x6 x7 x8 x9
    else
      bb_ k (([x8,x9]:List (List aa_)).length:Int) 0 ([x8,x9]:List (List aa_))
noncomputable def bb_:Nat→Int→Int→List (List aa_)→Option (Bool)
  | 0,_,_,_=>none
  | k+1,x0,x1,x2=>
    bif (decide (x1<x0)) then
      (idx x2 x1).bind fun _=>
      (x2[(Int.toNat x1)]?).bind fun y4=>
      a9_ k x0 x1 y4 (y4.length:Int) 0 x2
    else
      some true
noncomputable def a9_:Nat→Int→Int→List aa_→Int→Int→List (List aa_)→Option (Bool)
  | 0,_,_,_,_,_,_=>none
  | k+1,x0,x1,x2,x3,x4,x5=>
    bif (decide (x4<x3)) then
      (idx x2 x4).bind fun y5=>
      bif (y5.From !=1) then
        bif (y5.From !=2) then
          some false
        else
          (aP_ k y5.A 1 1000).bind fun r6=>
          bif (!r6) then
            some false
          else
            (aP_ k y5.B 1 1000).bind fun r7=>
            bif (!r7) then
              some false
            else
              bif (decide ((y5.Text.size:Int)>200)) then
                some false
              else
                a9_ k x0 x1 x2 x3 (IntKind.wrap .i64 (x4+1)) x5
      else
        (aP_ k y5.A 1 1000).bind fun r8=>
        bif (!r8) then
          some false
        else
          (aP_ k y5.B 1 1000).bind fun r9=>
          bif (!r9) then
            some false
          else
            bif (decide ((y5.Text.size:Int)>200)) then
              some false
            else
              a9_ k x0 x1 x2 x3 (IntKind.wrap .i64 (x4+1)) x5
    else
      bb_ k x0 (IntKind.wrap .i64 (x1+1)) x5
end
noncomputable def bo_ (k:Nat) (a0:ab_):Option (Bool):=
  bif (decide (a0.Width<1)) then
    some false
  else
    bif (decide (a0.Width>8)) then
      some false
    else
      bif (decide ((a0.Key.size:Int)>30)) then
        some false
      else
        bif ((a0.Ends.length:Int) !=2) then
          some false
        else
          bif (decide ((a0.Flight.length:Int)>1000)) then
            some false
          else
            bif (decide ((IntKind.wrap .i64 ((a0.Given.length:Int)+(a0.Taken.length:Int)))>400)) then
              some false
            else
              ca_ k a0.Ends (a0.Ends.length:Int) 0 a0.Key a0.Width a0.Ends a0.Flight a0.Forged a0.Given a0.Taken
mutual
noncomputable def cU_:Nat→List aa_→Int→Int→ByteArray→Int→List am_→List ad_→ByteArray→List aa_→List aa_→List (DPair×List ByteArray)→Option (Bool)
  | 0,_,_,_,_,_,_,_,_,_,_,_=>none
  | k+1,x0,x1,x2,x3,x4,x5,x6,x7,x8,x9,x10=>
    bif (decide (x2<x1)) then
      (idx x0 x2).bind fun y2=>
      optK (a4_ (a7_ (⟨y2.From,y2.A,y2.B⟩:DPair)) x10 0) (
        (app 16 ([]:List ByteArray) ([y2.Text]:List ByteArray)).bind fun l4=>
        (idx (x10++[((⟨y2.From,y2.A,y2.B⟩:DPair),([]:List ByteArray))]) (x10.length:Int)).bind fun e5=>
        cU_ k x0 x1 (IntKind.wrap .i64 (x2+1)) x3 x4 x5 x6 x7 x8 x9 ((x10++[((⟨y2.From,y2.A,y2.B⟩:DPair),([]:List ByteArray))]).set (Int.toNat (x10.length:Int)) (e5.1,l4))
      ) (fun p3=>
        (app 16 p3.2 ([y2.Text]:List ByteArray)).bind fun l6=>
        bif Nat.beq p3.1 (Int.toNat (p3.1:Int)) then
          (idx x10 (p3.1:Int)).bind fun e7=>
          cU_ k x0 x1 (IntKind.wrap .i64 (x2+1)) x3 x4 x5 x6 x7 x8 x9 (x10.set (Int.toNat (p3.1:Int)) (e7.1,l6))
        else
          none
      )
    else
      aQ_ k x9 (x9.length:Int) 0 x10 ([]:List (DPair×Int))
noncomputable def aQ_:Nat→List aa_→Int→Int→List (DPair×List ByteArray)→List (DPair×Int)→Option (Bool)
  | 0,_,_,_,_,_=>none
  | k+1,x0,x1,x2,x3,x4=>
    bif (decide (x2<x1)) then
      (idx x0 x2).bind fun y8=>
      optK (a4_ (a7_ (⟨y8.From,y8.A,y8.B⟩:DPair)) x4 0) (
        optK (a4_ (a7_ (⟨y8.From,y8.A,y8.B⟩:DPair)) x3 0) (
          bif (decide ((0:Int)≥(([]:List ByteArray).length:Int))) then
            some false
          else
            optK (a4_ (a7_ (⟨y8.From,y8.A,y8.B⟩:DPair)) x3 0) (
              optK (a4_ (a7_ (⟨y8.From,y8.A,y8.B⟩:DPair)) x4 0) (
                none
              ) (fun p12=>
                none
              )
            ) (fun p11=>
              optK (a4_ (a7_ (⟨y8.From,y8.A,y8.B⟩:DPair)) x4 0) (
                (idx p11.2 0).bind fun _=>
                (p11.2[(Int.toNat 0)]?).bind fun y14=>
                bif (!(y14.toList==y8.Text.toList)) then
                  some false
                else
                  a1_ k x0 x1 x2 (x3.modify p11.1 fun e=>(e.1,p11.2)) x4 y8.From y8.A y8.B
              ) (fun p13=>
                (idx p11.2 p13.2).bind fun _=>
                (p11.2[(Int.toNat p13.2)]?).bind fun y15=>
                bif (!(y15.toList==y8.Text.toList)) then
                  some false
                else
                  a1_ k x0 x1 x2 (x3.modify p11.1 fun e=>(e.1,p11.2)) x4 y8.From y8.A y8.B
              )
            )
        ) (fun p10=>
          bif (decide ((0:Int)≥(p10.2.length:Int))) then
            some false
          else
            optK (a4_ (a7_ (⟨y8.From,y8.A,y8.B⟩:DPair)) (x3.modify p10.1 fun e=>(e.1,p10.2)) 0) (
              optK (a4_ (a7_ (⟨y8.From,y8.A,y8.B⟩:DPair)) x4 0) (
                none
              ) (fun p17=>
                none
              )
            ) (fun p16=>
              optK (a4_ (a7_ (⟨y8.From,y8.A,y8.B⟩:DPair)) x4 0) (
                (idx p16.2 0).bind fun _=>
                (p16.2[(Int.toNat 0)]?).bind fun y19=>
                bif (!(y19.toList==y8.Text.toList)) then
                  some false
                else
                  a1_ k x0 x1 x2 ((x3.modify p10.1 fun e=>(e.1,p10.2)).modify p16.1 fun e=>(e.1,p16.2)) x4 y8.From y8.A y8.B
              ) (fun p18=>
                (idx p16.2 p18.2).bind fun _=>
                (p16.2[(Int.toNat p18.2)]?).bind fun y20=>
                bif (!(y20.toList==y8.Text.toList)) then
                  some false
                else
                  a1_ k x0 x1 x2 ((x3.modify p10.1 fun e=>(e.1,p10.2)).modify p16.1 fun e=>(e.1,p16.2)) x4 y8.From y8.A y8.B
              )
            )
        )
      ) (fun p9=>
        optK (a4_ (a7_ (⟨y8.From,y8.A,y8.B⟩:DPair)) x3 0) (
          bif (decide (p9.2≥(([]:List ByteArray).length:Int))) then
            some false
          else
            optK (a4_ (a7_ (⟨y8.From,y8.A,y8.B⟩:DPair)) x3 0) (
              optK (a4_ (a7_ (⟨y8.From,y8.A,y8.B⟩:DPair)) x4 0) (
                none
              ) (fun p23=>
                none
              )
            ) (fun p22=>
              optK (a4_ (a7_ (⟨y8.From,y8.A,y8.B⟩:DPair)) x4 0) (
                (idx p22.2 0).bind fun _=>
                (p22.2[(Int.toNat 0)]?).bind fun y25=>
                bif (!(y25.toList==y8.Text.toList)) then
                  some false
                else
                  a1_ k x0 x1 x2 (x3.modify p22.1 fun e=>(e.1,p22.2)) x4 y8.From y8.A y8.B
              ) (fun p24=>
                (idx p22.2 p24.2).bind fun _=>
                (p22.2[(Int.toNat p24.2)]?).bind fun y26=>
                bif (!(y26.toList==y8.Text.toList)) then
                  some false
                else
                  a1_ k x0 x1 x2 (x3.modify p22.1 fun e=>(e.1,p22.2)) x4 y8.From y8.A y8.B
              )
            )
        ) (fun p21=>
          bif (decide (p9.2≥(p21.2.length:Int))) then
            some false
          else
            optK (a4_ (a7_ (⟨y8.From,y8.A,y8.B⟩:DPair)) (x3.modify p21.1 fun e=>(e.1,p21.2)) 0) (
              optK (a4_ (a7_ (⟨y8.From,y8.A,y8.B⟩:DPair)) x4 0) (
                none
              ) (fun p28=>
                none
              )
            ) (fun p27=>
              optK (a4_ (a7_ (⟨y8.From,y8.A,y8.B⟩:DPair)) x4 0) (
                (idx p27.2 0).bind fun _=>
                (p27.2[(Int.toNat 0)]?).bind fun y30=>
                bif (!(y30.toList==y8.Text.toList)) then
                  some false
                else
                  a1_ k x0 x1 x2 ((x3.modify p21.1 fun e=>(e.1,p21.2)).modify p27.1 fun e=>(e.1,p27.2)) x4 y8.From y8.A y8.B
              ) (fun p29=>
                (idx p27.2 p29.2).bind fun _=>
                (p27.2[(Int.toNat p29.2)]?).bind fun y31=>
                bif (!(y31.toList==y8.Text.toList)) then
                  some false
                else
                  a1_ k x0 x1 x2 ((x3.modify p21.1 fun e=>(e.1,p21.2)).modify p27.1 fun e=>(e.1,p27.2)) x4 y8.From y8.A y8.B
              )
            )
        )
      )
    else
      some true
noncomputable def a1_:Nat→List aa_→Int→Int→List (DPair×List ByteArray)→List (DPair×Int)→Int→Int→Int→Option (Bool)
  | 0,_,_,_,_,_,_,_,_=>none
  | k+1,x0,x1,x2,x3,x4,x5,x6,x7=>
    both (
      optK (a4_ (a7_ (⟨x5,x6,x7⟩:DPair)) x4 0) (
        optK (a4_ (a7_ (⟨x5,x6,x7⟩:DPair)) x4 0) (
          (idx (x4++[((⟨x5,x6,x7⟩:DPair),0)]) (x4.length:Int)).bind fun e34=>
          aQ_ k x0 x1 (IntKind.wrap .i64 (x2+1)) x3 ((x4++[((⟨x5,x6,x7⟩:DPair),0)]).set (Int.toNat (x4.length:Int)) (e34.1,(IntKind.wrap .i64 (0+1))))
        ) (fun p33=>
          (idx x4 (p33.1:Int)).bind fun e35=>
          aQ_ k x0 x1 (IntKind.wrap .i64 (x2+1)) x3 (x4.set (Int.toNat (p33.1:Int)) (e35.1,(IntKind.wrap .i64 (0+1))))
        )
      ) (fun p32=>
        optK (a4_ (a7_ (⟨x5,x6,x7⟩:DPair)) x4 0) (
          (idx (x4++[((⟨x5,x6,x7⟩:DPair),0)]) (x4.length:Int)).bind fun e37=>
          aQ_ k x0 x1 (IntKind.wrap .i64 (x2+1)) x3 ((x4++[((⟨x5,x6,x7⟩:DPair),0)]).set (Int.toNat (x4.length:Int)) (e37.1,(IntKind.wrap .i64 (p32.2+1))))
        ) (fun p36=>
          (idx x4 (p36.1:Int)).bind fun e38=>
          aQ_ k x0 x1 (IntKind.wrap .i64 (x2+1)) x3 (x4.set (Int.toNat (p36.1:Int)) (e38.1,(IntKind.wrap .i64 (p32.2+1))))
        )
      )
    ) (
      optK (a4_ (a7_ (⟨x5,x6,x7⟩:DPair)) x4 0) (
        optK (a4_ (a7_ (⟨x5,x6,x7⟩:DPair)) (x4++[((⟨x5,x6,x7⟩:DPair),0)]) 0) (
          (idx (x4++[((⟨x5,x6,x7⟩:DPair),0)]) (x4.length:Int)).bind fun e41=>
          aQ_ k x0 x1 (IntKind.wrap .i64 (x2+1)) x3 ((x4++[((⟨x5,x6,x7⟩:DPair),0)]).set (Int.toNat (x4.length:Int)) (e41.1,(IntKind.wrap .i64 (0+1))))
        ) (fun p40=>
          (idx (x4++[((⟨x5,x6,x7⟩:DPair),0)]) (x4.length:Int)).bind fun e42=>
          aQ_ k x0 x1 (IntKind.wrap .i64 (x2+1)) x3 ((x4++[((⟨x5,x6,x7⟩:DPair),0)]).set (Int.toNat (x4.length:Int)) (e42.1,(IntKind.wrap .i64 (p40.2+1))))
        )
      ) (fun p39=>
        optK (a4_ (a7_ (⟨x5,x6,x7⟩:DPair)) x4 0) (
          (idx x4 (p39.1:Int)).bind fun e44=>
          aQ_ k x0 x1 (IntKind.wrap .i64 (x2+1)) x3 (x4.set (Int.toNat (p39.1:Int)) (e44.1,(IntKind.wrap .i64 (0+1))))
        ) (fun p43=>
          (idx x4 (p39.1:Int)).bind fun e45=>
          aQ_ k x0 x1 (IntKind.wrap .i64 (x2+1)) x3 (x4.set (Int.toNat (p39.1:Int)) (e45.1,(IntKind.wrap .i64 (p43.2+1))))
        )
      )
    )
end
noncomputable def hZ_ (k:Nat) (a0:ab_):Option (Bool):=
  (bo_ k a0).bind fun r1=>
  bif (!r1) then
    some false
  else
    cU_ k a0.Given (a0.Given.length:Int) 0 a0.Key a0.Width a0.Ends a0.Flight a0.Forged a0.Given a0.Taken ([]:List (DPair×List ByteArray))
mutual
noncomputable def ds_:Nat→Int→ByteArray→Int→List am_→List ad_→ByteArray→List aa_→List aa_→Option (Bool)
  | 0,_,_,_,_,_,_,_,_=>none
  | k+1,x0,x1,x2,x3,x4,x5,x6,x7=>
    bif (decide (x0<(x7.length:Int))) then
      (idx x7 x0).bind fun y2=>
      eu_ k x0 0 0 x1 x2 x3 x4 x5 x6 x7 y2.From y2.A y2.B y2.Text
    else
      some true
noncomputable def eu_:Nat→Int→Int→Int→ByteArray→Int→List am_→List ad_→ByteArray→List aa_→List aa_→Int→Int→Int→ByteArray→Option (Bool)
  | 0,_,_,_,_,_,_,_,_,_,_,_,_,_,_=>none
  | k+1,x0,x1,x2,x3,x4,x5,x6,x7,x8,x9,x10,x11,x12,x13=>
    bif (decide (x2<x0)) then
      (idx x9 x2).bind fun y3=>
      bif (y3.From==x10) then
        (idx x9 x2).bind fun y4=>
        bif (y4.A==x11) then
          (idx x9 x2).bind fun y5=>
          bif (y5.B==x12) then
            cp_ k x0 (IntKind.wrap .i64 (x1+1)) x2 x3 x4 x5 x6 x7 x8 x9 x10 x11 x12 x13
          else
            cp_ k x0 x1 x2 x3 x4 x5 x6 x7 x8 x9 x10 x11 x12 x13
        else
          cp_ k x0 x1 x2 x3 x4 x5 x6 x7 x8 x9 x10 x11 x12 x13
      else
        cp_ k x0 x1 x2 x3 x4 x5 x6 x7 x8 x9 x10 x11 x12 x13
    else
      c4_ k x0 x1 false 0 x3 x4 x5 x6 x7 x8 x9 x10 x11 x12 x13
noncomputable def cp_:Nat→Int→Int→Int→ByteArray→Int→List am_→List ad_→ByteArray→List aa_→List aa_→Int→Int→Int→ByteArray→Option (Bool)
  | 0,_,_,_,_,_,_,_,_,_,_,_,_,_,_=>none
  | k+1,x0,x1,x2,x3,x4,x5,x6,x7,x8,x9,x10,x11,x12,x13=>
    eu_ k x0 x1 (IntKind.wrap .i64 (x2+1)) x3 x4 x5 x6 x7 x8 x9 x10 x11 x12 x13
noncomputable def c4_:Nat→Int→Int→Bool→Int→ByteArray→Int→List am_→List ad_→ByteArray→List aa_→List aa_→Int→Int→Int→ByteArray→Option (Bool)
  | 0,_,_,_,_,_,_,_,_,_,_,_,_,_,_,_=>none
  | k+1,x0,x1,x2,x3,x4,x5,x6,x7,x8,x9,x10,x11,x12,x13,x14=>
    bif (decide (x3<(x9.length:Int))) then
      (idx x9 x3).bind fun y6=>
      bif (y6.From==x11) then
        bif (y6.A==x12) then
          bif (y6.B==x13) then
            bif x2 then
              bE_ k x0 (IntKind.wrap .i64 (x1-1)) true x3 x4 x5 x6 x7 x8 x9 x10 x11 x12 x13 x14
            else
              bif (x1==0) then
                bE_ k x0 (IntKind.wrap .i64 (x1-1)) (y6.Text.toList==x14.toList) x3 x4 x5 x6 x7 x8 x9 x10 x11 x12 x13 x14
              else
                bE_ k x0 (IntKind.wrap .i64 (x1-1)) false x3 x4 x5 x6 x7 x8 x9 x10 x11 x12 x13 x14
          else
            bE_ k x0 x1 x2 x3 x4 x5 x6 x7 x8 x9 x10 x11 x12 x13 x14
        else
          bE_ k x0 x1 x2 x3 x4 x5 x6 x7 x8 x9 x10 x11 x12 x13 x14
      else
        bE_ k x0 x1 x2 x3 x4 x5 x6 x7 x8 x9 x10 x11 x12 x13 x14
    else
      bif (!x2) then
        some false
      else
        ds_ k (IntKind.wrap .i64 (x0+1)) x4 x5 x6 x7 x8 x9 x10
noncomputable def bE_:Nat→Int→Int→Bool→Int→ByteArray→Int→List am_→List ad_→ByteArray→List aa_→List aa_→Int→Int→Int→ByteArray→Option (Bool)
  | 0,_,_,_,_,_,_,_,_,_,_,_,_,_,_,_=>none
  | k+1,x0,x1,x2,x3,x4,x5,x6,x7,x8,x9,x10,x11,x12,x13,x14=>
    c4_ k x0 x1 x2 (IntKind.wrap .i64 (x3+1)) x4 x5 x6 x7 x8 x9 x10 x11 x12 x13 x14
end
noncomputable def jZ_ (k:Nat) (a0:ab_):Option (Bool):=
  (bq_ k a0).bind fun r1=>
  bif (!r1) then
    some false
  else
    ds_ k 0 a0.Key a0.Width a0.Ends a0.Flight a0.Forged a0.Given a0.Taken
noncomputable def e9_:Nat→List am_→Int→Int→ByteArray→Int→List am_→List ad_→ByteArray→List aa_→List aa_→Option (Bool)
  | 0,_,_,_,_,_,_,_,_,_,_=>none
  | k+1,x0,x1,x2,x3,x4,x5,x6,x7,x8,x9=>
    bif (decide (x2<x1)) then
      (idx x0 x2).bind fun y2=>
      bif (!y2.Up) then
        some false
      else
        (idx x5 (IntKind.wrap .i64 (1-x2))).bind fun y3=>
        bif (y2.Peer !=y3.Life) then
          some false
        else
          bif (decide ((y2.Send.Items.length:Int)>0)) then
            some false
          else
            bif (decide ((y2.Take.Held.length:Int)>0)) then
              some false
            else
              bif (!(y2.Take.Open.toList==(⟨#[]⟩:ByteArray).toList)) then
                some false
              else
                bif (decide ((y2.Take.Ready.length:Int)>0)) then
                  some false
                else
                  e9_ k x0 x1 (IntKind.wrap .i64 (x2+1)) x3 x4 x5 x6 x7 x8 x9
    else
      some true
noncomputable def lE_ (k:Nat) (a0:ab_):Option (Bool):=
  (bo_ k a0).bind fun r1=>
  bif (!r1) then
    some false
  else
    e9_ k a0.Ends (a0.Ends.length:Int) 0 a0.Key a0.Width a0.Ends a0.Flight a0.Forged a0.Given a0.Taken
noncomputable def cu_:Nat→Int→Int→ByteArray→Int→List ad_→ByteArray→List aa_→List aa_→ByteArray→Int→ByteArray→List am_→List am_→List ad_→List aa_→List aa_→Option (ab_)
  | 0,_,_,_,_,_,_,_,_,_,_,_,_,_,_,_,_=>none
  | k+1,x0,x1,x2,x3,x4,x5,x6,x7,x8,x9,x10,x11,x12,x13,x14,x15=>
    bif (decide (x1<x0)) then
      (idx x11 x1).bind fun _=>
      (x11[(Int.toNat x1)]?).bind fun y2=>
      (cW_ k y2).bind fun r3=>
      (idx x11 x1).bind fun _=>
      (x11[(Int.toNat x1)]?).bind fun y4=>
      cu_ k x0 (IntKind.wrap .i64 (x1+1)) x2 x3 x4 x5 x6 x7 x8 x9 x10 (x11.set (Int.toNat x1) r3) x12 x13 x14 x15
    else
      (app 40 ([]:List ad_) x4).bind fun l5=>
      (app 40 ([]:List aa_) x6).bind fun l6=>
      (app 40 ([]:List aa_) x7).bind fun l7=>
      some (⟨x2,x3,x11,l5,x5,l6,l7⟩:ab_)
noncomputable def eG_ (k:Nat) (a0:ab_):Option (ab_):=
  (app 152 ([]:List am_) a0.Ends).bind fun l1=>
  cu_ k (l1.length:Int) 0 a0.Key a0.Width a0.Flight a0.Forged a0.Given a0.Taken (⟨#[]⟩:ByteArray) 0 (⟨#[]⟩:ByteArray) l1 ([]:List am_) ([]:List ad_) ([]:List aa_) ([]:List aa_)
mutual
noncomputable def bk_:Nat→Int→Int→ByteArray→Int→ByteArray→List am_→List ad_→List aa_→List aa_→Option (ab_)
  | 0,_,_,_,_,_,_,_,_,_=>none
  | k+1,x0,x1,x2,x3,x4,x5,x6,x7,x8=>
    bif (decide (x1<x0)) then
      (idx x5 x1).bind fun _=>
      (x5[(Int.toNat x1)]?).bind fun y1=>
      (hH_ k y1).bind fun r2=>
      (idx x5 x1).bind fun _=>
      (x5[(Int.toNat x1)]?).bind fun y3=>
      cd_ k x1 x0 x1 (r2.Out.length:Int) 0 x2 x3 x4 r2.Out (x5.set (Int.toNat x1) r2.End) x6 x7 x8
    else
      some (⟨x2,x3,x5,x6,x4,x7,x8⟩:ab_)
noncomputable def cd_:Nat→Int→Int→Int→Int→Int→ByteArray→Int→ByteArray→List ae_→List am_→List ad_→List aa_→List aa_→Option (ab_)
  | 0,_,_,_,_,_,_,_,_,_,_,_,_,_=>none
  | k+1,x0,x1,x2,x3,x4,x5,x6,x7,x8,x9,x10,x11,x12=>
    bif (decide (x4<x3)) then
      (idx x8 x4).bind fun _=>
      (x8[(Int.toNat x4)]?).bind fun y4=>
      bif (decide ((x10.length:Int)<1000)) then
        (c9_ k y4 x5 x6).bind fun r5=>
        (app 40 x10 ([(⟨(IntKind.wrap .i64 (2-x0)),r5,r5⟩:ad_)]:List ad_)).bind fun l6=>
        cy_ k x0 x1 x2 x3 x4 x5 x6 x7 x8 x9 l6 x11 x12
      else
        cy_ k x0 x1 x2 x3 x4 x5 x6 x7 x8 x9 x10 x11 x12
    else
      bk_ k x1 (IntKind.wrap .i64 (x2+1)) x5 x6 x7 x9 x10 x11 x12
noncomputable def cy_:Nat→Int→Int→Int→Int→Int→ByteArray→Int→ByteArray→List ae_→List am_→List ad_→List aa_→List aa_→Option (ab_)
  | 0,_,_,_,_,_,_,_,_,_,_,_,_,_=>none
  | k+1,x0,x1,x2,x3,x4,x5,x6,x7,x8,x9,x10,x11,x12=>
    cd_ k x0 x1 x2 x3 (IntKind.wrap .i64 (x4+1)) x5 x6 x7 x8 x9 x10 x11 x12
end
noncomputable def eg_ (k:Nat) (a0:ab_):Option (ab_):=
  bk_ k (a0.Ends.length:Int) 0 a0.Key a0.Width a0.Forged a0.Ends a0.Flight a0.Given a0.Taken
noncomputable def bR_:Nat→ByteArray→Int→ByteArray→Int→ByteArray→ByteArray→Int→Int→Int→Int→Int→Int→Int→Bool→ByteArray→List am_→List ad_→List aa_→List aa_→Option (ab_)
  | 0,_,_,_,_,_,_,_,_,_,_,_,_,_,_,_,_,_,_,_=>none
  | k+1,x0,x1,x2,x3,x4,x5,x6,x7,x8,x9,x10,x11,x12,x13,x14,x15,x16,x17,x18=>
    (idx x15 (IntKind.wrap .i64 (x3-1))).bind fun _=>
    (x15[(Int.toNat (IntKind.wrap .i64 (x3-1)))]?).bind fun y2=>
    (hA_ k y2 (⟨x6,x7,x8,x9,x10,x11,x12,x13,x14⟩:ae_)).bind fun r3=>
    (idx x15 (IntKind.wrap .i64 (x3-1))).bind fun _=>
    (x15[(Int.toNat (IntKind.wrap .i64 (x3-1)))]?).bind fun y4=>
    some (⟨x0,x1,(x15.set (Int.toNat (IntKind.wrap .i64 (x3-1))) r3.End),x16,x2,x17,x18⟩:ab_)
noncomputable def cH_ (k:Nat) (a0:ab_) (a1:ad_):Option (ab_):=
  (fv_ k a1.Bytes a0.Key a0.Width).bind fun r1=>
  bif (!r1.2) then
    some a0
  else
    bif (!(a1.Bytes.toList==a1.Sent.toList)) then
      bif (a0.Forged.toList==(⟨#[]⟩:ByteArray).toList) then
        bR_ k a0.Key a0.Width a1.Bytes a1.To a1.Sent a1.Bytes r1.1.Kind r1.1.From r1.1.Mine r1.1.Yours r1.1.Next r1.1.Mask r1.1.Seq r1.1.Last r1.1.Part a0.Ends a0.Flight a0.Given a0.Taken
      else
        bR_ k a0.Key a0.Width a0.Forged a1.To a1.Sent a1.Bytes r1.1.Kind r1.1.From r1.1.Mine r1.1.Yours r1.1.Next r1.1.Mask r1.1.Seq r1.1.Last r1.1.Part a0.Ends a0.Flight a0.Given a0.Taken
    else
      bR_ k a0.Key a0.Width a0.Forged a1.To a1.Sent a1.Bytes r1.1.Kind r1.1.From r1.1.Mine r1.1.Yours r1.1.Next r1.1.Mask r1.1.Seq r1.1.Last r1.1.Part a0.Ends a0.Flight a0.Given a0.Taken
noncomputable def ek_ (k:Nat) (a0:ab_):Option (Bool×ab_):=
  some ((decide ((IntKind.wrap .i64 ((a0.Given.length:Int)+(a0.Taken.length:Int)))≥400)),a0)
noncomputable def em_ (k:Nat) (a0:ab_) (a1:Int):Option (ab_):=
  (ek_ k a0).bind fun r1=>
  bif r1.1 then
    some r1.2
  else
    (idx r1.2.Ends (IntKind.wrap .i64 (a1-1))).bind fun _=>
    (r1.2.Ends[(Int.toNat (IntKind.wrap .i64 (a1-1)))]?).bind fun y2=>
    (hk_ k y2).bind fun r3=>
    bif (r3.Code==0) then
      (idx r1.2.Ends (IntKind.wrap .i64 (a1-1))).bind fun _=>
      (r1.2.Ends[(Int.toNat (IntKind.wrap .i64 (a1-1)))]?).bind fun y4=>
      (idx r1.2.Ends (IntKind.wrap .i64 (a1-1))).bind fun _=>
      (r1.2.Ends[(Int.toNat (IntKind.wrap .i64 (a1-1)))]?).bind fun y5=>
      (app 40 r1.2.Taken ([(⟨(IntKind.wrap .i64 (3-a1)),y4.Peer,y4.Life,r3.Text⟩:aa_)]:List aa_)).bind fun l6=>
      some (⟨r1.2.Key,r1.2.Width,(r1.2.Ends.set (Int.toNat (IntKind.wrap .i64 (a1-1))) r3.End),r1.2.Flight,r1.2.Forged,r1.2.Given,l6⟩:ab_)
    else
      some r1.2
mutual
noncomputable def h7_:Nat→Bool→Int→Int→Int→Int→ByteArray→ByteArray→Int→ByteArray→ByteArray→Int→ByteArray→List am_→List ad_→List aa_→List aa_→List am_→List ad_→List aa_→List aa_→Option (ab_)
  | 0,_,_,_,_,_,_,_,_,_,_,_,_,_,_,_,_,_,_,_,_=>none
  | k+1,x0,x1,x2,x3,x4,x5,x6,x7,x8,x9,x10,x11,x12,x13,x14,x15,x16,x17,x18,x19=>
    bif (decide (x2≥0)) then
      h6_ k x0 (decide (x2<(x17.length:Int))) x1 x2 x3 x4 x5 x6 x7 x8 x9 x10 x11 x12 x13 x14 x15 x16 x17 x18 x19
    else
      h6_ k x0 false x1 x2 x3 x4 x5 x6 x7 x8 x9 x10 x11 x12 x13 x14 x15 x16 x17 x18 x19
noncomputable def h6_:Nat→Bool→Bool→Int→Int→Int→Int→ByteArray→ByteArray→Int→ByteArray→ByteArray→Int→ByteArray→List am_→List ad_→List aa_→List aa_→List am_→List ad_→List aa_→List aa_→Option (ab_)
  | 0,_,_,_,_,_,_,_,_,_,_,_,_,_,_,_,_,_,_,_,_,_=>none
  | k+1,x0,x1,x2,x3,x4,x5,x6,x7,x8,x9,x10,x11,x12,x13,x14,x15,x16,x17,x18,x19,x20=>
    bif (x2==1) then
      (eg_ k (⟨x10,x11,x17,x18,x12,x19,x20⟩:ab_)).bind fun r3=>
      ar_ k x7 x8 x9 r3.Key r3.Width r3.Forged x13 x14 x15 x16 r3.Ends r3.Flight r3.Given r3.Taken
    else
      bif (x2==2) then
        gN_ k x1 x2 x3 x4 x5 x6 x7 x8 x9 x10 x11 x12 x13 x14 x15 x16 x17 x18 x19 x20
      else
        bif (x2==4) then
          gN_ k x1 x2 x3 x4 x5 x6 x7 x8 x9 x10 x11 x12 x13 x14 x15 x16 x17 x18 x19 x20
        else
          is_ k x0 x1 x2 x2 x3 x4 x5 x6 x7 x8 x9 x10 x11 x12 x13 x14 x15 x16 x17 x18 x19 x20
noncomputable def ar_:Nat→ByteArray→Int→ByteArray→ByteArray→Int→ByteArray→List am_→List ad_→List aa_→List aa_→List am_→List ad_→List aa_→List aa_→Option (ab_)
  | 0,_,_,_,_,_,_,_,_,_,_,_,_,_,_=>none
  | k+1,x0,x1,x2,x3,x4,x5,x6,x7,x8,x9,x10,x11,x12,x13=>
    some (⟨x3,x4,x10,x11,x5,x12,x13⟩:ab_)
noncomputable def gN_:Nat→Bool→Int→Int→Int→Int→ByteArray→ByteArray→Int→ByteArray→ByteArray→Int→ByteArray→List am_→List ad_→List aa_→List aa_→List am_→List ad_→List aa_→List aa_→Option (ab_)
  | 0,_,_,_,_,_,_,_,_,_,_,_,_,_,_,_,_,_,_,_,_=>none
  | k+1,x0,x1,x2,x3,x4,x5,x6,x7,x8,x9,x10,x11,x12,x13,x14,x15,x16,x17,x18,x19=>
    bif x0 then
      (idx x17 x2).bind fun _=>
      (x17[(Int.toNat x2)]?).bind fun y4=>
      (if (x2:Int)=x2 then wnd x17.length 0 x2 else none).bind fun p5=>
      (wnd x17.length (IntKind.wrap .i64 (x2+1)) (x17.length:Int)).bind fun p6=>
      (app 40 (dT_ x17 p5.1 p5.2) (dT_ x17 p6.1 p6.2)).bind fun l7=>
      bif (x1==2) then
        (cH_ k (⟨x9,x10,x16,l7,x11,x18,x19⟩:ab_) y4).bind fun r8=>
        ar_ k x6 x7 x8 r8.Key r8.Width r8.Forged x12 x13 x14 x15 r8.Ends r8.Flight r8.Given r8.Taken
      else
        ar_ k x6 x7 x8 x9 x10 x11 x12 x13 x14 x15 x16 l7 x18 x19
    else
      ar_ k x6 x7 x8 x9 x10 x11 x12 x13 x14 x15 x16 x17 x18 x19
noncomputable def is_:Nat→Bool→Bool→Int→Int→Int→Int→Int→ByteArray→ByteArray→Int→ByteArray→ByteArray→Int→ByteArray→List am_→List ad_→List aa_→List aa_→List am_→List ad_→List aa_→List aa_→Option (ab_)
  | 0,_,_,_,_,_,_,_,_,_,_,_,_,_,_,_,_,_,_,_,_,_,_=>none
  | k+1,x0,x1,x2,x3,x4,x5,x6,x7,x8,x9,x10,x11,x12,x13,x14,x15,x16,x17,x18,x19,x20,x21=>
    bif (x2==3) then
      bif x1 then
        bif (decide ((x19.length:Int)<1000)) then
          (idx x19 x4).bind fun _=>
          (x19[(Int.toNat x4)]?).bind fun y9=>
          (app 40 x19 ([y9]:List ad_)).bind fun l10=>
          ar_ k x8 x9 x10 x11 x12 x13 x14 x15 x16 x17 x18 l10 x20 x21
        else
          ar_ k x8 x9 x10 x11 x12 x13 x14 x15 x16 x17 x18 x19 x20 x21
      else
        ar_ k x8 x9 x10 x11 x12 x13 x14 x15 x16 x17 x18 x19 x20 x21
    else
      bif (x2==5) then
        bif x1 then
          bif (decide (x6≥0)) then
            bif (decide (x5≥0)) then
              (idx x19 x4).bind fun _=>
              (x19[(Int.toNat x4)]?).bind fun y11=>
              bif (decide (x5<(y11.Bytes.size:Int))) then
                (idx x19 x4).bind fun _=>
                (x19[(Int.toNat x4)]?).bind fun y12=>
                (idx (b0_ y12.Bytes) x5).bind fun _=>
                ((b0_ y12.Bytes)[(Int.toNat x5)]?).bind fun y13=>
                (ql_ x6 256).bind fun q14=>
                (idx (b0_ y12.Bytes) x5).bind fun _=>
                ((b0_ y12.Bytes)[(Int.toNat x5)]?).bind fun y15=>
                (idx x19 x4).bind fun _=>
                (x19[(Int.toNat x4)]?).bind fun y16=>
                ar_ k x8 x9 x10 x11 x12 x13 x14 x15 x16 x17 x18 (x19.set (Int.toNat x4) (⟨y16.To,y16.Sent,(jb_ ((b0_ y12.Bytes).set (Int.toNat x5) (iP_ .u8 y13 (IntKind.wrap .u8 q14))))⟩:ad_)) x20 x21
              else
                ar_ k x8 x9 x10 x11 x12 x13 x14 x15 x16 x17 x18 x19 x20 x21
            else
              ar_ k x8 x9 x10 x11 x12 x13 x14 x15 x16 x17 x18 x19 x20 x21
          else
            ar_ k x8 x9 x10 x11 x12 x13 x14 x15 x16 x17 x18 x19 x20 x21
        else
          ar_ k x8 x9 x10 x11 x12 x13 x14 x15 x16 x17 x18 x19 x20 x21
      else
        bif (x2==6) then
          bif x1 then
            bif (decide (x5≥0)) then
              (idx x19 x4).bind fun _=>
              (x19[(Int.toNat x4)]?).bind fun y17=>
              bif (decide (x5≤(y17.Bytes.size:Int))) then
                (idx x19 x4).bind fun _=>
                (x19[(Int.toNat x4)]?).bind fun y18=>
                (wnd y18.Bytes.size 0 x5).bind fun p19=>
                (idx x19 x4).bind fun _=>
                (x19[(Int.toNat x4)]?).bind fun y20=>
                ar_ k x8 x9 x10 x11 x12 x13 x14 x15 x16 x17 x18 (x19.set (Int.toNat x4) (⟨y20.To,y20.Sent,(y18.Bytes.extract p19.1 p19.2)⟩:ad_)) x20 x21
              else
                ar_ k x8 x9 x10 x11 x12 x13 x14 x15 x16 x17 x18 x19 x20 x21
            else
              ar_ k x8 x9 x10 x11 x12 x13 x14 x15 x16 x17 x18 x19 x20 x21
          else
            ar_ k x8 x9 x10 x11 x12 x13 x14 x15 x16 x17 x18 x19 x20 x21
        else
          bif (x2==7) then
            bif x1 then
              (idx x19 x4).bind fun _=>
              (x19[(Int.toNat x4)]?).bind fun y21=>
              (idx x19 x4).bind fun _=>
              (x19[(Int.toNat x4)]?).bind fun y22=>
              ar_ k x8 x9 x10 x11 x12 x13 x14 x15 x16 x17 x18 (x19.set (Int.toNat x4) (⟨(IntKind.wrap .i64 (3-y21.To)),y22.Sent,y22.Bytes⟩:ad_)) x20 x21
            else
              ar_ k x8 x9 x10 x11 x12 x13 x14 x15 x16 x17 x18 x19 x20 x21
          else
            bif (x2==8) then
              bif x0 then
                (idx x18 (IntKind.wrap .i64 (x4-1))).bind fun _=>
                (x18[(Int.toNat (IntKind.wrap .i64 (x4-1)))]?).bind fun y23=>
                (hz_ k y23).bind fun r24=>
                (idx x18 (IntKind.wrap .i64 (x4-1))).bind fun _=>
                (x18[(Int.toNat (IntKind.wrap .i64 (x4-1)))]?).bind fun y25=>
                ar_ k x8 x9 x10 x11 x12 x13 x14 x15 x16 x17 (x18.set (Int.toNat (IntKind.wrap .i64 (x4-1))) r24) x19 x20 x21
              else
                ar_ k x8 x9 x10 x11 x12 x13 x14 x15 x16 x17 x18 x19 x20 x21
            else
              bif (x2==9) then
                bif x0 then
                  (idx x18 (IntKind.wrap .i64 (x4-1))).bind fun _=>
                  (x18[(Int.toNat (IntKind.wrap .i64 (x4-1)))]?).bind fun y26=>
                  (hr_ k y26).bind fun r27=>
                  (idx x18 (IntKind.wrap .i64 (x4-1))).bind fun _=>
                  (x18[(Int.toNat (IntKind.wrap .i64 (x4-1)))]?).bind fun y28=>
                  ar_ k x8 x9 x10 x11 x12 x13 x14 x15 x16 x17 (x18.set (Int.toNat (IntKind.wrap .i64 (x4-1))) r27) x19 x20 x21
                else
                  ar_ k x8 x9 x10 x11 x12 x13 x14 x15 x16 x17 x18 x19 x20 x21
              else
                bif (x2==10) then
                  bif x0 then
                    (ek_ k (⟨x11,x12,x18,x19,x13,x20,x21⟩:ab_)).bind fun r29=>
                    bif (!r29.1) then
                      both (
                        (idx r29.2.Ends (IntKind.wrap .i64 (x4-1))).bind fun _=>
                        (r29.2.Ends[(Int.toNat (IntKind.wrap .i64 (x4-1)))]?).bind fun y30=>
                        (gh_ k y30 x7).bind fun r31=>
                        bif (r31.Code==0) then
                          (idx r29.2.Ends (IntKind.wrap .i64 (x4-1))).bind fun _=>
                          (r29.2.Ends[(Int.toNat (IntKind.wrap .i64 (x4-1)))]?).bind fun y32=>
                          (app 40 r29.2.Given ([(⟨x4,r31.End.Life,r31.End.Peer,x7⟩:aa_)]:List aa_)).bind fun l33=>
                          ar_ k x8 x9 x10 r29.2.Key r29.2.Width r29.2.Forged x14 x15 x16 x17 (r29.2.Ends.set (Int.toNat (IntKind.wrap .i64 (x4-1))) r31.End) r29.2.Flight l33 r29.2.Taken
                        else
                          ar_ k x8 x9 x10 r29.2.Key r29.2.Width r29.2.Forged x14 x15 x16 x17 r29.2.Ends r29.2.Flight r29.2.Given r29.2.Taken
                      ) (
                        (idx r29.2.Ends (IntKind.wrap .i64 (x4-1))).bind fun _=>
                        (r29.2.Ends[(Int.toNat (IntKind.wrap .i64 (x4-1)))]?).bind fun y34=>
                        (gh_ k y34 x7).bind fun r35=>
                        bif (r35.Code==0) then
                          (idx r29.2.Ends (IntKind.wrap .i64 (x4-1))).bind fun _=>
                          (r29.2.Ends[(Int.toNat (IntKind.wrap .i64 (x4-1)))]?).bind fun y36=>
                          (app 40 r29.2.Given ([(⟨x4,r35.End.Life,r35.End.Peer,x7⟩:aa_)]:List aa_)).bind fun l37=>
                          ar_ k x8 x9 x10 r29.2.Key r29.2.Width r29.2.Forged x14 x15 x16 x17 (r29.2.Ends.set (Int.toNat (IntKind.wrap .i64 (x4-1))) r35.End) r29.2.Flight l37 r29.2.Taken
                        else
                          ar_ k x8 x9 x10 r29.2.Key r29.2.Width r29.2.Forged x14 x15 x16 x17 r29.2.Ends r29.2.Flight r29.2.Given r29.2.Taken
                      )
                    else
                      ar_ k x8 x9 x10 r29.2.Key r29.2.Width r29.2.Forged x14 x15 x16 x17 r29.2.Ends r29.2.Flight r29.2.Given r29.2.Taken
                  else
                    ar_ k x8 x9 x10 x11 x12 x13 x14 x15 x16 x17 x18 x19 x20 x21
                else
                  bif (x2==11) then
                    bif x0 then
                      (em_ k (⟨x11,x12,x18,x19,x13,x20,x21⟩:ab_) x4).bind fun r38=>
                      ar_ k x8 x9 x10 r38.Key r38.Width r38.Forged x14 x15 x16 x17 r38.Ends r38.Flight r38.Given r38.Taken
                    else
                      ar_ k x8 x9 x10 x11 x12 x13 x14 x15 x16 x17 x18 x19 x20 x21
                  else
                    ar_ k x8 x9 x10 x11 x12 x13 x14 x15 x16 x17 x18 x19 x20 x21
end
noncomputable def k5_ (k:Nat) (a0:ab_) (a1:aT_):Option (ab_):=
  (bo_ k a0).bind fun r1=>
  bif (!r1) then
    some (⟨(⟨#[]⟩:ByteArray),0,([]:List am_),([]:List ad_),(⟨#[]⟩:ByteArray),([]:List aa_),([]:List aa_)⟩:ab_)
  else
    (eG_ k a0).bind fun r2=>
    bif (a1.A==1) then
      h7_ k true a1.Kind a1.A a1.B a1.C a1.Text (⟨#[]⟩:ByteArray) 0 (⟨#[]⟩:ByteArray) r2.Key r2.Width r2.Forged ([]:List am_) ([]:List ad_) ([]:List aa_) ([]:List aa_) r2.Ends r2.Flight r2.Given r2.Taken
    else
      h7_ k (a1.A==2) a1.Kind a1.A a1.B a1.C a1.Text (⟨#[]⟩:ByteArray) 0 (⟨#[]⟩:ByteArray) r2.Key r2.Width r2.Forged ([]:List am_) ([]:List ad_) ([]:List aa_) ([]:List aa_) r2.Ends r2.Flight r2.Given r2.Taken
mutual
noncomputable def dn_:Nat→Int→Int→ByteArray→Int→ByteArray→ByteArray→Int→ByteArray→List (DKey×Int)→List am_→List ad_→List aa_→List aa_→List am_→List ad_→List aa_→List aa_→Option (ab_)
  | 0,_,_,_,_,_,_,_,_,_,_,_,_,_,_,_,_,_=>none
  | k+1,x0,x1,x2,x3,x4,x5,x6,x7,x8,x9,x10,x11,x12,x13,x14,x15,x16=>
    bif (decide (x0>0)) then
      (eg_ k (⟨x5,x6,x13,x14,x7,x15,x16⟩:ab_)).bind fun r3=>
      dq_ k x0 x1 (r3.Flight.length:Int) 0 x2 x3 x4 r3.Key r3.Width r3.Forged x8 r3.Flight x9 x10 x11 x12 r3.Ends ([]:List ad_) r3.Given r3.Taken
    else
      some (⟨x5,x6,x13,x14,x7,x15,x16⟩:ab_)
noncomputable def dq_:Nat→Int→Int→Int→Int→ByteArray→Int→ByteArray→ByteArray→Int→ByteArray→List (DKey×Int)→List ad_→List am_→List ad_→List aa_→List aa_→List am_→List ad_→List aa_→List aa_→Option (ab_)
  | 0,_,_,_,_,_,_,_,_,_,_,_,_,_,_,_,_,_,_,_,_=>none
  | k+1,x0,x1,x2,x3,x4,x5,x6,x7,x8,x9,x10,x11,x12,x13,x14,x15,x16,x17,x18,x19=>
    bif (decide (x3<x2)) then
      (idx x11 x3).bind fun _=>
      (x11[(Int.toNat x3)]?).bind fun y4=>
      both (
        optK (a4_ (eM_ (⟨y4.To,y4.Bytes⟩:DKey)) x10 0) (
          optK (a4_ (eM_ (⟨y4.To,y4.Bytes⟩:DKey)) x10 0) (
            (idx (x10++[((⟨y4.To,y4.Bytes⟩:DKey),0)]) (x10.length:Int)).bind fun e7=>
            bu_ k x0 x1 x2 x3 x4 x5 x6 x7 x8 x9 ((x10++[((⟨y4.To,y4.Bytes⟩:DKey),0)]).set (Int.toNat (x10.length:Int)) (e7.1,(IntKind.wrap .i64 (0+1)))) y4.To y4.Sent y4.Bytes y4.To y4.Bytes x11 x12 x13 x14 x15 x16 x17 x18 x19
          ) (fun p6=>
            (idx x10 (p6.1:Int)).bind fun e8=>
            bu_ k x0 x1 x2 x3 x4 x5 x6 x7 x8 x9 (x10.set (Int.toNat (p6.1:Int)) (e8.1,(IntKind.wrap .i64 (0+1)))) y4.To y4.Sent y4.Bytes y4.To y4.Bytes x11 x12 x13 x14 x15 x16 x17 x18 x19
          )
        ) (fun p5=>
          optK (a4_ (eM_ (⟨y4.To,y4.Bytes⟩:DKey)) x10 0) (
            (idx (x10++[((⟨y4.To,y4.Bytes⟩:DKey),0)]) (x10.length:Int)).bind fun e10=>
            bu_ k x0 x1 x2 x3 x4 x5 x6 x7 x8 x9 ((x10++[((⟨y4.To,y4.Bytes⟩:DKey),0)]).set (Int.toNat (x10.length:Int)) (e10.1,(IntKind.wrap .i64 (p5.2+1)))) y4.To y4.Sent y4.Bytes y4.To y4.Bytes x11 x12 x13 x14 x15 x16 x17 x18 x19
          ) (fun p9=>
            (idx x10 (p9.1:Int)).bind fun e11=>
            bu_ k x0 x1 x2 x3 x4 x5 x6 x7 x8 x9 (x10.set (Int.toNat (p9.1:Int)) (e11.1,(IntKind.wrap .i64 (p5.2+1)))) y4.To y4.Sent y4.Bytes y4.To y4.Bytes x11 x12 x13 x14 x15 x16 x17 x18 x19
          )
        )
      ) (
        optK (a4_ (eM_ (⟨y4.To,y4.Bytes⟩:DKey)) x10 0) (
          optK (a4_ (eM_ (⟨y4.To,y4.Bytes⟩:DKey)) (x10++[((⟨y4.To,y4.Bytes⟩:DKey),0)]) 0) (
            (idx (x10++[((⟨y4.To,y4.Bytes⟩:DKey),0)]) (x10.length:Int)).bind fun e14=>
            bu_ k x0 x1 x2 x3 x4 x5 x6 x7 x8 x9 ((x10++[((⟨y4.To,y4.Bytes⟩:DKey),0)]).set (Int.toNat (x10.length:Int)) (e14.1,(IntKind.wrap .i64 (0+1)))) y4.To y4.Sent y4.Bytes y4.To y4.Bytes x11 x12 x13 x14 x15 x16 x17 x18 x19
          ) (fun p13=>
            (idx (x10++[((⟨y4.To,y4.Bytes⟩:DKey),0)]) (x10.length:Int)).bind fun e15=>
            bu_ k x0 x1 x2 x3 x4 x5 x6 x7 x8 x9 ((x10++[((⟨y4.To,y4.Bytes⟩:DKey),0)]).set (Int.toNat (x10.length:Int)) (e15.1,(IntKind.wrap .i64 (p13.2+1)))) y4.To y4.Sent y4.Bytes y4.To y4.Bytes x11 x12 x13 x14 x15 x16 x17 x18 x19
          )
        ) (fun p12=>
          optK (a4_ (eM_ (⟨y4.To,y4.Bytes⟩:DKey)) x10 0) (
            (idx x10 (p12.1:Int)).bind fun e17=>
            bu_ k x0 x1 x2 x3 x4 x5 x6 x7 x8 x9 (x10.set (Int.toNat (p12.1:Int)) (e17.1,(IntKind.wrap .i64 (0+1)))) y4.To y4.Sent y4.Bytes y4.To y4.Bytes x11 x12 x13 x14 x15 x16 x17 x18 x19
          ) (fun p16=>
            (idx x10 (p12.1:Int)).bind fun e18=>
            bu_ k x0 x1 x2 x3 x4 x5 x6 x7 x8 x9 (x10.set (Int.toNat (p12.1:Int)) (e18.1,(IntKind.wrap .i64 (p16.2+1)))) y4.To y4.Sent y4.Bytes y4.To y4.Bytes x11 x12 x13 x14 x15 x16 x17 x18 x19
          )
        )
      )
    else
      co_ k x0 x1 1 x4 x5 x6 x7 x8 x9 x10 x12 x13 x14 x15 x16 x17 x18 x19
noncomputable def bu_:Nat→Int→Int→Int→Int→ByteArray→Int→ByteArray→ByteArray→Int→ByteArray→List (DKey×Int)→Int→ByteArray→ByteArray→Int→ByteArray→List ad_→List am_→List ad_→List aa_→List aa_→List am_→List ad_→List aa_→List aa_→Option (ab_)
  | 0,_,_,_,_,_,_,_,_,_,_,_,_,_,_,_,_,_,_,_,_,_,_,_,_,_=>none
  | k+1,x0,x1,x2,x3,x4,x5,x6,x7,x8,x9,x10,x11,x12,x13,x14,x15,x16,x17,x18,x19,x20,x21,x22,x23,x24=>
    optK (a4_ (eM_ (⟨x14,x15⟩:DKey)) x10 0) (
      (ql_ 0 x1).bind fun q20=>
      bif (q20==0) then
        (cH_ k (⟨x7,x8,x21,x22,x9,x23,x24⟩:ab_) (⟨x11,x12,x13⟩:ad_)).bind fun r21=>
        dw_ k x0 x1 x2 x3 x4 x5 x6 r21.Key r21.Width r21.Forged x10 x16 x17 x18 x19 x20 r21.Ends r21.Flight r21.Given r21.Taken
      else
        dw_ k x0 x1 x2 x3 x4 x5 x6 x7 x8 x9 x10 x16 x17 x18 x19 x20 x21 x22 x23 x24
    ) (fun p19=>
      (ql_ p19.2 x1).bind fun q22=>
      bif (q22==0) then
        (cH_ k (⟨x7,x8,x21,x22,x9,x23,x24⟩:ab_) (⟨x11,x12,x13⟩:ad_)).bind fun r23=>
        dw_ k x0 x1 x2 x3 x4 x5 x6 r23.Key r23.Width r23.Forged x10 x16 x17 x18 x19 x20 r23.Ends r23.Flight r23.Given r23.Taken
      else
        dw_ k x0 x1 x2 x3 x4 x5 x6 x7 x8 x9 x10 x16 x17 x18 x19 x20 x21 x22 x23 x24
    )
noncomputable def co_:Nat→Int→Int→Int→ByteArray→Int→ByteArray→ByteArray→Int→ByteArray→List (DKey×Int)→List am_→List ad_→List aa_→List aa_→List am_→List ad_→List aa_→List aa_→Option (ab_)
  | 0,_,_,_,_,_,_,_,_,_,_,_,_,_,_,_,_,_,_=>none
  | k+1,x0,x1,x2,x3,x4,x5,x6,x7,x8,x9,x10,x11,x12,x13,x14,x15,x16,x17=>
    bif (decide (x2≤2)) then
      es_ k x0 x1 x2 0 x3 x4 x5 x6 x7 x8 x9 x10 x11 x12 x13 x14 x15 x16 x17
    else
      dn_ k (IntKind.wrap .i64 (x0-1)) x1 x3 x4 x5 x6 x7 x8 x9 x10 x11 x12 x13 x14 x15 x16 x17
noncomputable def dw_:Nat→Int→Int→Int→Int→ByteArray→Int→ByteArray→ByteArray→Int→ByteArray→List (DKey×Int)→List ad_→List am_→List ad_→List aa_→List aa_→List am_→List ad_→List aa_→List aa_→Option (ab_)
  | 0,_,_,_,_,_,_,_,_,_,_,_,_,_,_,_,_,_,_,_,_=>none
  | k+1,x0,x1,x2,x3,x4,x5,x6,x7,x8,x9,x10,x11,x12,x13,x14,x15,x16,x17,x18,x19=>
    dq_ k x0 x1 x2 (IntKind.wrap .i64 (x3+1)) x4 x5 x6 x7 x8 x9 x10 x11 x12 x13 x14 x15 x16 x17 x18 x19
noncomputable def es_:Nat→Int→Int→Int→Int→ByteArray→Int→ByteArray→ByteArray→Int→ByteArray→List (DKey×Int)→List am_→List ad_→List aa_→List aa_→List am_→List ad_→List aa_→List aa_→Option (ab_)
  | 0,_,_,_,_,_,_,_,_,_,_,_,_,_,_,_,_,_,_,_=>none
  | k+1,x0,x1,x2,x3,x4,x5,x6,x7,x8,x9,x10,x11,x12,x13,x14,x15,x16,x17,x18=>
    bif (decide (x3<4)) then
      (idx x15 (IntKind.wrap .i64 (x2-1))).bind fun _=>
      (x15[(Int.toNat (IntKind.wrap .i64 (x2-1)))]?).bind fun y24=>
      bif (decide ((y24.Take.Ready.length:Int)>0)) then
        (em_ k (⟨x7,x8,x15,x16,x9,x17,x18⟩:ab_) x2).bind fun r25=>
        es_ k x0 x1 x2 (IntKind.wrap .i64 (x3+1)) x4 x5 x6 r25.Key r25.Width r25.Forged x10 x11 x12 x13 x14 r25.Ends r25.Flight r25.Given r25.Taken
      else
        co_ k x0 x1 (IntKind.wrap .i64 (x2+1)) x4 x5 x6 x7 x8 x9 x10 x11 x12 x13 x14 x15 x16 x17 x18
    else
      co_ k x0 x1 (IntKind.wrap .i64 (x2+1)) x4 x5 x6 x7 x8 x9 x10 x11 x12 x13 x14 x15 x16 x17 x18
end
noncomputable def i1_ (k:Nat) (a0:ab_) (a1:Int) (a2:Int):Option (ab_):=
  (bo_ k a0).bind fun r1=>
  bif (!r1) then
    some (⟨(⟨#[]⟩:ByteArray),0,([]:List am_),([]:List ad_),(⟨#[]⟩:ByteArray),([]:List aa_),([]:List aa_)⟩:ab_)
  else
    bif (decide (a2<1)) then
      some (⟨(⟨#[]⟩:ByteArray),0,([]:List am_),([]:List ad_),(⟨#[]⟩:ByteArray),([]:List aa_),([]:List aa_)⟩:ab_)
    else
      bif (decide (a2>10)) then
        some (⟨(⟨#[]⟩:ByteArray),0,([]:List am_),([]:List ad_),(⟨#[]⟩:ByteArray),([]:List aa_),([]:List aa_)⟩:ab_)
      else
        (eG_ k a0).bind fun r2=>
        bif (decide (a1>5000)) then
          dn_ k 5000 a2 (⟨#[]⟩:ByteArray) 0 (⟨#[]⟩:ByteArray) r2.Key r2.Width r2.Forged ([]:List (DKey×Int)) ([]:List am_) ([]:List ad_) ([]:List aa_) ([]:List aa_) r2.Ends r2.Flight r2.Given r2.Taken
        else
          dn_ k a1 a2 (⟨#[]⟩:ByteArray) 0 (⟨#[]⟩:ByteArray) r2.Key r2.Width r2.Forged ([]:List (DKey×Int)) ([]:List am_) ([]:List ad_) ([]:List aa_) ([]:List aa_) r2.Ends r2.Flight r2.Given r2.Taken
end Km.X
namespace Km.X
open Go Km
set_option linter.unusedVariables false
set_option maxRecDepth 100000
end Km.X
namespace Km.X
open Go Km
set_option linter.unusedVariables false
set_option maxRecDepth 100000
end Km.X
