/- A part of the proof of FnSafe: the functions that it reads off the program. There is no condition. -/
import Derived.Test.YtnhnpggoknepfaaKmAm3
namespace Km.X
open Go Km
set_option linter.unusedVariables false
set_option maxRecDepth 100000
structure DPart where
  Text : ByteArray
  Last : Bool
structure DItem where
  Part : DPart
  Has : Bool
  Since : Int
structure DSend where
  Base : Int
  Items : List DItem
structure DHeld where
  Seq : Int
  Part : DPart
structure DTake where
  Next : Int
  Held : List DHeld
  Open : ByteArray
  Ready : List ByteArray
structure DEnd where
  Number : Int
  Up : Bool
  Life : Int
  Peer : Int
  Since : Int
  Owes : Bool
  Send : DSend
  Take : DTake
structure DPacket where
  Kind : Int
  From : Int
  Mine : Int
  Yours : Int
  Next : Int
  Mask : Int
  Seq : Int
  Last : Bool
  Part : ByteArray
structure DActed where
  Code : Int
  End : DEnd
  Out : List DPacket
  Text : ByteArray
structure DEvent where
  Kind : Int
  A : Int
  B : Int
  C : Int
  Text : ByteArray
structure DKey where
  to : Int
  bytes : ByteArray
structure DL1Rd where
  b : List Int
  p : Int
structure DL7Count where
  to : Int
  bytes : ByteArray
  n : Int
structure DPair where
  f : Int
  a : Int
  b : Int
structure DParcel where
  To : Int
  Sent : ByteArray
  Bytes : ByteArray
structure DRecord where
  From : Int
  A : Int
  B : Int
  Text : ByteArray
structure DWorld where
  Key : ByteArray
  Width : Int
  Ends : List DEnd
  Flight : List DParcel
  Forged : ByteArray
  Given : List DRecord
  Taken : List DRecord
def eq_key (x y : DKey) : Bool := ((x.to == y.to) && ((x.bytes.toList == y.bytes.toList) && true))
theorem eq_key_eq {x y : DKey} (h : eq_key x y = true) : x = y := by
  obtain ⟨x0, x1⟩ := x
  obtain ⟨y0, y1⟩ := y
  simp only [eq_key, Bool.and_eq_true, Bool.and_true, beq_iff_eq] at h
  obtain ⟨h0, h1⟩ := h
  subst h0; have h1 := Km.toList_inj h1; subst h1; rfl
def eq_pair (x y : DPair) : Bool := ((x.f == y.f) && ((x.a == y.a) && ((x.b == y.b) && true)))
theorem eq_pair_eq {x y : DPair} (h : eq_pair x y = true) : x = y := by
  obtain ⟨x0, x1, x2⟩ := x
  obtain ⟨y0, y1, y2⟩ := y
  simp only [eq_pair, Bool.and_eq_true, Bool.and_true, beq_iff_eq] at h
  obtain ⟨h0, h1, h2⟩ := h
  subst h0; subst h1; subst h2; rfl
def wf_byte (x : Int) : Prop := (Lit.int .u8 x).wf = true
def wf_str (x : ByteArray) : Prop := x.size ≤ maxLen
def wfDPart (x : DPart) : Prop := x.Text.size ≤ maxLen ∧ True
def wfDItem (x : DItem) : Prop := wfDPart x.Part ∧ True ∧ (Lit.int .i64 x.Since).wf = true
def wf_item (x : DItem) : Prop := wfDItem x
def wfDSend (x : DSend) : Prop := (Lit.int .i64 x.Base).wf = true ∧ (x.Items.length ≤ maxLen ∧ ∀ y ∈ x.Items, wf_item y)
def wfDHeld (x : DHeld) : Prop := (Lit.int .i64 x.Seq).wf = true ∧ wfDPart x.Part
def wf_held (x : DHeld) : Prop := wfDHeld x
def wfDTake (x : DTake) : Prop := (Lit.int .i64 x.Next).wf = true ∧ (x.Held.length ≤ maxLen ∧ ∀ y ∈ x.Held, wf_held y) ∧ x.Open.size ≤ maxLen ∧ (x.Ready.length ≤ maxLen ∧ ∀ y ∈ x.Ready, wf_str y)
def wfDEnd (x : DEnd) : Prop := (Lit.int .i64 x.Number).wf = true ∧ True ∧ (Lit.int .i64 x.Life).wf = true ∧ (Lit.int .i64 x.Peer).wf = true ∧ (Lit.int .i64 x.Since).wf = true ∧ True ∧ wfDSend x.Send ∧ wfDTake x.Take
def wfDPacket (x : DPacket) : Prop := (Lit.int .i64 x.Kind).wf = true ∧ (Lit.int .i64 x.From).wf = true ∧ (Lit.int .i64 x.Mine).wf = true ∧ (Lit.int .i64 x.Yours).wf = true ∧ (Lit.int .i64 x.Next).wf = true ∧ (Lit.int .i64 x.Mask).wf = true ∧ (Lit.int .i64 x.Seq).wf = true ∧ True ∧ x.Part.size ≤ maxLen
def wfDEvent (x : DEvent) : Prop := (Lit.int .i64 x.Kind).wf = true ∧ (Lit.int .i64 x.A).wf = true ∧ (Lit.int .i64 x.B).wf = true ∧ (Lit.int .i64 x.C).wf = true ∧ x.Text.size ≤ maxLen
def wfDL7Count (x : DL7Count) : Prop := (Lit.int .i64 x.to).wf = true ∧ x.bytes.size ≤ maxLen ∧ (Lit.int .i64 x.n).wf = true
def wfDParcel (x : DParcel) : Prop := (Lit.int .i64 x.To).wf = true ∧ x.Sent.size ≤ maxLen ∧ x.Bytes.size ≤ maxLen
def wfDRecord (x : DRecord) : Prop := (Lit.int .i64 x.From).wf = true ∧ (Lit.int .i64 x.A).wf = true ∧ (Lit.int .i64 x.B).wf = true ∧ x.Text.size ≤ maxLen
end Km.X
namespace Km.X
open Go Km
set_option linter.unusedVariables false
set_option maxRecDepth 100000
def impl_Cut_l4 : Nat → ByteArray → List DPart → Option (List DPart)
  | 0, _, _ => none
  | k + 1, x0, x1 =>
    bif (decide ((x0.size : Int) > 20)) then
      (wnd x0.size 0 20).bind fun p1 =>
      (app 24 x1 ([(⟨(x0.extract p1.1 p1.2), false⟩ : DPart)] : List DPart)).bind fun l2 =>
      (wnd x0.size 20 (x0.size : Int)).bind fun p3 =>
      impl_Cut_l4 k (x0.extract p3.1 p3.2) l2
    else
      (app 24 x1 ([(⟨x0, true⟩ : DPart)] : List DPart)).bind fun l4 =>
      some l4
def impl_Cut (k : Nat) (a0 : ByteArray) : Option (List DPart) :=
  bif (decide ((a0.size : Int) > 200)) then
    some ([] : List DPart)
  else
    impl_Cut_l4 k a0 ([] : List DPart)
def spec_Cut_l4 : Nat → ByteArray → List DPart → Option (List DPart)
  | 0, _, _ => none
  | k + 1, x0, x1 =>
    bif (decide ((x0.size : Int) > 20)) then
      (wnd x0.size 0 20).bind fun p1 =>
      (app 24 x1 ([(⟨(x0.extract p1.1 p1.2), false⟩ : DPart)] : List DPart)).bind fun l2 =>
      (wnd x0.size 20 (x0.size : Int)).bind fun p3 =>
      spec_Cut_l4 k (x0.extract p3.1 p3.2) l2
    else
      (app 24 x1 ([(⟨x0, true⟩ : DPart)] : List DPart)).bind fun l4 =>
      some l4
def spec_Cut (k : Nat) (a0 : ByteArray) : Option (List DPart) :=
  bif (decide ((a0.size : Int) > 200)) then
    some ([] : List DPart)
  else
    spec_Cut_l4 k a0 ([] : List DPart)
def spec_l1In (k : Nat) (a0 : Int) (a1 : Int) (a2 : Int) : Option (Bool) :=
  bif (decide (a0 ≥ a1)) then
    some (decide (a0 ≤ a2))
  else
    some false
def spec_l1Read_l3 : Nat → ByteArray → Int → Int → Option (Int)
  | 0, _, _, _ => none
  | k + 1, x0, x1, x2 =>
    bif (decide (x2 < (x0.size : Int))) then
      (bidx x0 x2).bind fun c1 =>
      spec_l1Read_l3 k x0 (IntKind.wrap .i64 ((IntKind.wrap .i64 (x1 * 256)) + (IntKind.wrap .i64 (c1.toNat : Int)))) (IntKind.wrap .i64 (x2 + 1))
    else
      some x1
def spec_l1Read (k : Nat) (a0 : ByteArray) : Option (Int) :=
  spec_l1Read_l3 k a0 0 0
def spec_l2Ok (k : Nat) (a0 : DPacket) : Option (Bool) :=
  (spec_l1In k a0.From 1 2).bind fun r1 =>
  bif (!r1) then
    some false
  else
    (spec_l1In k a0.Mine 1 1000).bind fun r2 =>
    bif (!r2) then
      some false
    else
      (spec_l1In k a0.Yours 0 1000).bind fun r3 =>
      bif (!r3) then
        some false
      else
        bif (a0.Kind == 1) then
          (spec_l1In k a0.Next 0 1000000).bind fun r4 =>
          bif r4 then
            (spec_l1In k a0.Mask 0 255).bind fun r5 =>
            bif r5 then
              bif (a0.Seq == 0) then
                bif (!a0.Last) then
                  some (a0.Part.toList == (⟨#[]⟩ : ByteArray).toList)
                else
                  some false
              else
                some false
            else
              some false
          else
            some false
        else
          bif (a0.Kind == 2) then
            bif (a0.Next == 0) then
              bif (a0.Mask == 0) then
                (spec_l1In k a0.Seq 0 999999).bind fun r6 =>
                bif r6 then
                  some (decide ((a0.Part.size : Int) ≤ 20))
                else
                  some false
              else
                some false
            else
              some false
          else
            some false
def spec_l1Number_l3 : Nat → Int → Int → ByteArray → Int → Option (ByteArray)
  | 0, _, _, _, _ => none
  | k + 1, x0, x1, x2, x3 =>
    bif (decide (x3 < x1)) then
      (qrem x0 256).bind fun q1 =>
      (sadd (bstr ([(IntKind.wrap .u8 q1)] : List Int)) x2).bind fun t2 =>
      (qdiv x0 256).bind fun q3 =>
      spec_l1Number_l3 k (IntKind.wrap .i64 (q3)) x1 t2 (IntKind.wrap .i64 (x3 + 1))
    else
      some x2
def spec_l1Number (k : Nat) (a0 : Int) (a1 : Int) : Option (ByteArray) :=
  spec_l1Number_l3 k a0 a1 (⟨#[]⟩ : ByteArray) 0
def spec_l2Body_l7 : Nat → ByteArray → Int → Int → Int → Int → Int → Int → Int → Int → Bool → ByteArray → Option (ByteArray)
  | 0, _, _, _, _, _, _, _, _, _, _, _ => none
  | k + 1, x0, x1, x2, x3, x4, x5, x6, x7, x8, x9, x10 =>
    (spec_l1Number k x8 4).bind fun r12 =>
    (sadd x0 r12).bind fun t13 =>
    (spec_l1Number k x1 1).bind fun r14 =>
    (sadd t13 r14).bind fun t15 =>
    (sadd t15 x10).bind fun t16 =>
    some t16
def spec_l2Body (k : Nat) (a0 : DPacket) : Option (ByteArray) :=
  (spec_l1Number k a0.Kind 1).bind fun r1 =>
  (spec_l1Number k a0.From 1).bind fun r2 =>
  (sadd r1 r2).bind fun t3 =>
  (spec_l1Number k a0.Mine 2).bind fun r4 =>
  (sadd t3 r4).bind fun t5 =>
  (spec_l1Number k a0.Yours 2).bind fun r6 =>
  (sadd t5 r6).bind fun t7 =>
  bif (a0.Kind == 1) then
    (spec_l1Number k a0.Next 4).bind fun r8 =>
    (sadd t7 r8).bind fun t9 =>
    (spec_l1Number k a0.Mask 1).bind fun r10 =>
    (sadd t9 r10).bind fun t11 =>
    some t11
  else
    bif a0.Last then
      spec_l2Body_l7 k t7 1 a0.Kind a0.From a0.Mine a0.Yours a0.Next a0.Mask a0.Seq a0.Last a0.Part
    else
      spec_l2Body_l7 k t7 0 a0.Kind a0.From a0.Mine a0.Yours a0.Next a0.Mask a0.Seq a0.Last a0.Part
mutual
def spec_Tag_l6 : Nat → Int → ByteArray → Int → Int → Option (ByteArray)
  | 0, _, _, _, _ => none
  | k + 1, x0, x1, x2, x3 =>
    bif (decide (x3 < (x1.size : Int))) then
      (bidx x1 x3).bind fun c4 =>
      spec_Tag_l6 k x0 x1 (IntKind.wrap .u64 ((bitsXor .u64 x2 (IntKind.wrap .u64 (c4.toNat : Int))) * 1099511628211)) (IntKind.wrap .i64 (x3 + 1))
    else
      spec_Tag_l11 k x0 x2 (⟨#[]⟩ : ByteArray) 0
def spec_Tag_l11 : Nat → Int → Int → ByteArray → Int → Option (ByteArray)
  | 0, _, _, _, _ => none
  | k + 1, x0, x1, x2, x3 =>
    bif (decide (x3 < x0)) then
      (qrem x1 256).bind fun q5 =>
      (sadd (bstr ([(IntKind.wrap .u8 q5)] : List Int)) x2).bind fun t6 =>
      (qdiv x1 256).bind fun q7 =>
      spec_Tag_l11 k x0 (IntKind.wrap .u64 (q7)) t6 (IntKind.wrap .i64 (x3 + 1))
    else
      some x2
end
def spec_Tag (k : Nat) (a0 : ByteArray) (a1 : ByteArray) (a2 : Int) : Option (ByteArray) :=
  (spec_l1In k a2 1 8).bind fun r1 =>
  bif (!r1) then
    some (⟨#[]⟩ : ByteArray)
  else
    bif (decide ((a1.size : Int) > 30)) then
      some (⟨#[]⟩ : ByteArray)
    else
      (sadd a1 (⟨#[0]⟩ : ByteArray)).bind fun t2 =>
      (sadd t2 a0).bind fun t3 =>
      spec_Tag_l6 k a2 t3 14695981039346656037 0
def spec_FormPacket (k : Nat) (a0 : DPacket) (a1 : ByteArray) (a2 : Int) : Option (ByteArray) :=
  (spec_l2Ok k a0).bind fun r1 =>
  bif (!r1) then
    some (⟨#[]⟩ : ByteArray)
  else
    (spec_l1In k a2 1 8).bind fun r2 =>
    bif (!r2) then
      some (⟨#[]⟩ : ByteArray)
    else
      bif (decide ((a1.size : Int) > 30)) then
        some (⟨#[]⟩ : ByteArray)
      else
        (spec_l2Body k a0).bind fun r3 =>
        (spec_Tag k r3 a1 a2).bind fun r4 =>
        (spec_l2Body k a0).bind fun r5 =>
        (sadd r4 r5).bind fun t6 =>
        some t6
def spec_ReadPacket_l11 : Nat → ByteArray → ByteArray → Int → Int → Int → Int → Int → Int → Int → Int → Bool → ByteArray → Int → Int → Int → Int → Int → Int → Int → Bool → ByteArray → Option (DPacket × Bool)
  | 0, _, _, _, _, _, _, _, _, _, _, _, _, _, _, _, _, _, _, _, _, _ => none
  | k + 1, x0, x1, x2, x3, x4, x5, x6, x7, x8, x9, x10, x11, x12, x13, x14, x15, x16, x17, x18, x19, x20 =>
    (spec_FormPacket k (⟨x12, x13, x14, x15, x16, x17, x18, x19, x20⟩ : DPacket) x1 x2).bind fun r16 =>
    bif (!(r16.toList == x0.toList)) then
      some ((⟨0, 0, 0, 0, 0, 0, 0, false, (⟨#[]⟩ : ByteArray)⟩ : DPacket), false)
    else
      some ((⟨x12, x13, x14, x15, x16, x17, x18, x19, x20⟩ : DPacket), true)
def spec_ReadPacket (k : Nat) (a0 : ByteArray) (a1 : ByteArray) (a2 : Int) : Option (DPacket × Bool) :=
  (spec_l1In k a2 1 8).bind fun r1 =>
  bif (!r1) then
    some ((⟨0, 0, 0, 0, 0, 0, 0, false, (⟨#[]⟩ : ByteArray)⟩ : DPacket), false)
  else
    bif (decide ((a0.size : Int) < (IntKind.wrap .i64 (a2 + 11)))) then
      some ((⟨0, 0, 0, 0, 0, 0, 0, false, (⟨#[]⟩ : ByteArray)⟩ : DPacket), false)
    else
      (wnd a0.size a2 (a0.size : Int)).bind fun p2 =>
      (bidx (a0.extract p2.1 p2.2) 0).bind fun c3 =>
      (bidx (a0.extract p2.1 p2.2) 1).bind fun c4 =>
      (wnd (a0.extract p2.1 p2.2).size 2 4).bind fun p5 =>
      (spec_l1Read k ((a0.extract p2.1 p2.2).extract p5.1 p5.2)).bind fun r6 =>
      (wnd (a0.extract p2.1 p2.2).size 4 6).bind fun p7 =>
      (spec_l1Read k ((a0.extract p2.1 p2.2).extract p7.1 p7.2)).bind fun r8 =>
      bif ((IntKind.wrap .i64 (c3.toNat : Int)) == 1) then
        (wnd (a0.extract p2.1 p2.2).size 6 10).bind fun p9 =>
        (spec_l1Read k ((a0.extract p2.1 p2.2).extract p9.1 p9.2)).bind fun r10 =>
        (bidx (a0.extract p2.1 p2.2) 10).bind fun c11 =>
        spec_ReadPacket_l11 k a0 a1 a2 0 0 0 0 0 0 0 false (⟨#[]⟩ : ByteArray) (IntKind.wrap .i64 (c3.toNat : Int)) (IntKind.wrap .i64 (c4.toNat : Int)) r6 r8 r10 (IntKind.wrap .i64 (c11.toNat : Int)) 0 false (⟨#[]⟩ : ByteArray)
      else
        (wnd (a0.extract p2.1 p2.2).size 6 10).bind fun p12 =>
        (spec_l1Read k ((a0.extract p2.1 p2.2).extract p12.1 p12.2)).bind fun r13 =>
        (bidx (a0.extract p2.1 p2.2) 10).bind fun c14 =>
        (wnd (a0.extract p2.1 p2.2).size 11 ((a0.extract p2.1 p2.2).size : Int)).bind fun p15 =>
        spec_ReadPacket_l11 k a0 a1 a2 0 0 0 0 0 0 0 false (⟨#[]⟩ : ByteArray) (IntKind.wrap .i64 (c3.toNat : Int)) (IntKind.wrap .i64 (c4.toNat : Int)) r6 r8 0 0 r13 ((c14.toNat : Int) == 1) ((a0.extract p2.1 p2.2).extract p15.1 p15.2)
def impl_num_l3 : Nat → ByteArray → Int → Int → Option (Int)
  | 0, _, _, _ => none
  | k + 1, x0, x1, x2 =>
    bif (decide (x2 < (x0.size : Int))) then
      (shift .shl .i64 x1 8).bind fun s1 =>
      (bidx x0 x2).bind fun c2 =>
      impl_num_l3 k x0 (bitsOr .i64 s1 (IntKind.wrap .i64 (c2.toNat : Int))) (IntKind.wrap .i64 (x2 + 1))
    else
      some x1
def impl_num (k : Nat) (a0 : ByteArray) : Option (Int) :=
  impl_num_l3 k a0 0 0
def impl_in (k : Nat) (a0 : Int) (a1 : Int) (a2 : Int) : Option (Bool) :=
  bif (decide (a0 ≥ a1)) then
    some (decide (a0 ≤ a2))
  else
    some false
def impl_validPacket (k : Nat) (a0 : DPacket) : Option (Bool) :=
  bif (a0.From != 1) then
    bif (a0.From != 2) then
      some false
    else
      (impl_in k a0.Mine 1 1000).bind fun r1 =>
      bif (!r1) then
        some false
      else
        (impl_in k a0.Yours 0 1000).bind fun r2 =>
        bif (!r2) then
          some false
        else
          bif (a0.Kind == 1) then
            (impl_in k a0.Next 0 1000000).bind fun r3 =>
            bif r3 then
              (impl_in k a0.Mask 0 255).bind fun r4 =>
              bif r4 then
                bif (a0.Seq == 0) then
                  bif (!a0.Last) then
                    some (a0.Part.toList == (⟨#[]⟩ : ByteArray).toList)
                  else
                    some false
                else
                  some false
              else
                some false
            else
              some false
          else
            bif (a0.Kind == 2) then
              bif (a0.Next == 0) then
                bif (a0.Mask == 0) then
                  (impl_in k a0.Seq 0 999999).bind fun r5 =>
                  bif r5 then
                    some (decide ((a0.Part.size : Int) ≤ 20))
                  else
                    some false
                else
                  some false
              else
                some false
            else
              some false
  else
    (impl_in k a0.Mine 1 1000).bind fun r6 =>
    bif (!r6) then
      some false
    else
      (impl_in k a0.Yours 0 1000).bind fun r7 =>
      bif (!r7) then
        some false
      else
        bif (a0.Kind == 1) then
          (impl_in k a0.Next 0 1000000).bind fun r8 =>
          bif r8 then
            (impl_in k a0.Mask 0 255).bind fun r9 =>
            bif r9 then
              bif (a0.Seq == 0) then
                bif (!a0.Last) then
                  some (a0.Part.toList == (⟨#[]⟩ : ByteArray).toList)
                else
                  some false
              else
                some false
            else
              some false
          else
            some false
        else
          bif (a0.Kind == 2) then
            bif (a0.Next == 0) then
              bif (a0.Mask == 0) then
                (impl_in k a0.Seq 0 999999).bind fun r10 =>
                bif r10 then
                  some (decide ((a0.Part.size : Int) ≤ 20))
                else
                  some false
              else
                some false
            else
              some false
          else
            some false
def impl_be_l3 : Nat → Int → Int → List Int → Option (ByteArray)
  | 0, _, _, _ => none
  | k + 1, x0, x1, x2 =>
    bif (decide (x1 ≥ 0)) then
      (idx x2 x1).bind fun _ =>
      (x2[(Int.toNat x1)]?).bind fun y2 =>
      (shift .shr .i64 x0 8).bind fun s3 =>
      impl_be_l3 k s3 (IntKind.wrap .i64 (x1 - 1)) (x2.set (Int.toNat x1) (IntKind.wrap .u8 x0))
    else
      some (bstr x2)
def impl_be (k : Nat) (a0 : Int) (a1 : Int) : Option (ByteArray) :=
  (if (a1 : Int) = a1 then room 1 a1 else none).bind fun n1 =>
  impl_be_l3 k a0 (IntKind.wrap .i64 (a1 - 1)) (List.replicate n1 0)
mutual
def impl_Tag_l6 : Nat → Int → Int → ByteArray → Int → Option (ByteArray)
  | 0, _, _, _, _ => none
  | k + 1, x0, x1, x2, x3 =>
    bif (decide (x3 < (x2.size : Int))) then
      (bidx x2 x3).bind fun c3 =>
      impl_Tag_l6 k x0 (IntKind.wrap .u64 ((bitsXor .u64 x1 (IntKind.wrap .u64 (c3.toNat : Int))) * 1099511628211)) x2 (IntKind.wrap .i64 (x3 + 1))
    else
      impl_Tag_l11 k x0 x1 7 (List.replicate 8 0)
def impl_Tag_l11 : Nat → Int → Int → Int → List Int → Option (ByteArray)
  | 0, _, _, _, _ => none
  | k + 1, x0, x1, x2, x3 =>
    bif (decide (x2 ≥ 0)) then
      (if x3.length = 8 then idx x3 x2 else none).bind fun _ =>
      (x3[(Int.toNat x2)]?).bind fun y4 =>
      (shift .shr .u64 x1 8).bind fun s5 =>
      impl_Tag_l11 k x0 s5 (IntKind.wrap .i64 (x2 - 1)) (x3.set (Int.toNat x2) (IntKind.wrap .u8 x1))
    else
      (if x3.length = 8 then wnd 8 (IntKind.wrap .i64 (8 - x0)) (8 : Int) else none).bind fun p6 =>
      some (bstr (dcut x3 p6.1 p6.2))
end
def impl_Tag (k : Nat) (a0 : ByteArray) (a1 : ByteArray) (a2 : Int) : Option (ByteArray) :=
  bif (decide (a2 < 1)) then
    some (⟨#[]⟩ : ByteArray)
  else
    bif (decide (a2 > 8)) then
      some (⟨#[]⟩ : ByteArray)
    else
      bif (decide ((a1.size : Int) > 30)) then
        some (⟨#[]⟩ : ByteArray)
      else
        (sadd a1 (⟨#[0]⟩ : ByteArray)).bind fun t1 =>
        (sadd t1 a0).bind fun t2 =>
        impl_Tag_l6 k a2 14695981039346656037 t2 0
mutual
def impl_FormPacket_l10 : Nat → ByteArray → Int → ByteArray → Option (ByteArray)
  | 0, _, _, _ => none
  | k + 1, x0, x1, x2 =>
    (impl_Tag k x2 x0 x1).bind fun r13 =>
    (sadd r13 x2).bind fun t14 =>
    some t14
def impl_FormPacket_l9 : Nat → ByteArray → Int → ByteArray → Int → Int → Int → Int → Int → Int → Int → Int → Bool → ByteArray → Option (ByteArray)
  | 0, _, _, _, _, _, _, _, _, _, _, _, _, _ => none
  | k + 1, x0, x1, x2, x3, x4, x5, x6, x7, x8, x9, x10, x11, x12 =>
    (impl_be k x10 4).bind fun r15 =>
    (impl_be k x3 1).bind fun r16 =>
    (sadd r15 r16).bind fun t17 =>
    (sadd t17 x12).bind fun t18 =>
    (sadd x2 t18).bind fun t19 =>
    impl_FormPacket_l10 k x0 x1 t19
end
def impl_FormPacket (k : Nat) (a0 : DPacket) (a1 : ByteArray) (a2 : Int) : Option (ByteArray) :=
  (impl_validPacket k a0).bind fun r1 =>
  bif (!r1) then
    some (⟨#[]⟩ : ByteArray)
  else
    bif (decide (a2 < 1)) then
      some (⟨#[]⟩ : ByteArray)
    else
      bif (decide (a2 > 8)) then
        some (⟨#[]⟩ : ByteArray)
      else
        bif (decide ((a1.size : Int) > 30)) then
          some (⟨#[]⟩ : ByteArray)
        else
          (impl_be k a0.Kind 1).bind fun r2 =>
          (impl_be k a0.From 1).bind fun r3 =>
          (sadd r2 r3).bind fun t4 =>
          (impl_be k a0.Mine 2).bind fun r5 =>
          (sadd t4 r5).bind fun t6 =>
          (impl_be k a0.Yours 2).bind fun r7 =>
          (sadd t6 r7).bind fun t8 =>
          bif (a0.Kind == 1) then
            (impl_be k a0.Next 4).bind fun r9 =>
            (impl_be k a0.Mask 1).bind fun r10 =>
            (sadd r9 r10).bind fun t11 =>
            (sadd t8 t11).bind fun t12 =>
            impl_FormPacket_l10 k a1 a2 t12
          else
            bif a0.Last then
              impl_FormPacket_l9 k a1 a2 t8 1 a0.Kind a0.From a0.Mine a0.Yours a0.Next a0.Mask a0.Seq a0.Last a0.Part
            else
              impl_FormPacket_l9 k a1 a2 t8 0 a0.Kind a0.From a0.Mine a0.Yours a0.Next a0.Mask a0.Seq a0.Last a0.Part
def impl_ReadPacket_l10 : Nat → ByteArray → ByteArray → Int → Int → Int → Int → Int → Int → Int → Int → Bool → ByteArray → Int → Int → Int → Int → Int → Int → Int → Bool → ByteArray → Option (DPacket × Bool)
  | 0, _, _, _, _, _, _, _, _, _, _, _, _, _, _, _, _, _, _, _, _, _ => none
  | k + 1, x0, x1, x2, x3, x4, x5, x6, x7, x8, x9, x10, x11, x12, x13, x14, x15, x16, x17, x18, x19, x20 =>
    (impl_validPacket k (⟨x12, x13, x14, x15, x16, x17, x18, x19, x20⟩ : DPacket)).bind fun r15 =>
    bif (!r15) then
      some ((⟨0, 0, 0, 0, 0, 0, 0, false, (⟨#[]⟩ : ByteArray)⟩ : DPacket), false)
    else
      (impl_FormPacket k (⟨x12, x13, x14, x15, x16, x17, x18, x19, x20⟩ : DPacket) x1 x2).bind fun r16 =>
      bif (!(r16.toList == x0.toList)) then
        some ((⟨0, 0, 0, 0, 0, 0, 0, false, (⟨#[]⟩ : ByteArray)⟩ : DPacket), false)
      else
        some ((⟨x12, x13, x14, x15, x16, x17, x18, x19, x20⟩ : DPacket), true)
def impl_ReadPacket (k : Nat) (a0 : ByteArray) (a1 : ByteArray) (a2 : Int) : Option (DPacket × Bool) :=
  bif (decide (a2 < 1)) then
    some ((⟨0, 0, 0, 0, 0, 0, 0, false, (⟨#[]⟩ : ByteArray)⟩ : DPacket), false)
  else
    bif (decide (a2 > 8)) then
      some ((⟨0, 0, 0, 0, 0, 0, 0, false, (⟨#[]⟩ : ByteArray)⟩ : DPacket), false)
    else
      bif (decide ((a1.size : Int) > 30)) then
        some ((⟨0, 0, 0, 0, 0, 0, 0, false, (⟨#[]⟩ : ByteArray)⟩ : DPacket), false)
      else
        bif (decide ((a0.size : Int) < (IntKind.wrap .i64 (a2 + 11)))) then
          some ((⟨0, 0, 0, 0, 0, 0, 0, false, (⟨#[]⟩ : ByteArray)⟩ : DPacket), false)
        else
          (wnd a0.size a2 (a0.size : Int)).bind fun p1 =>
          (bidx (a0.extract p1.1 p1.2) 0).bind fun c2 =>
          (bidx (a0.extract p1.1 p1.2) 1).bind fun c3 =>
          (wnd (a0.extract p1.1 p1.2).size 2 4).bind fun p4 =>
          (impl_num k ((a0.extract p1.1 p1.2).extract p4.1 p4.2)).bind fun r5 =>
          (wnd (a0.extract p1.1 p1.2).size 4 6).bind fun p6 =>
          (impl_num k ((a0.extract p1.1 p1.2).extract p6.1 p6.2)).bind fun r7 =>
          bif ((IntKind.wrap .i64 (c2.toNat : Int)) == 1) then
            (wnd (a0.extract p1.1 p1.2).size 6 10).bind fun p8 =>
            (impl_num k ((a0.extract p1.1 p1.2).extract p8.1 p8.2)).bind fun r9 =>
            (bidx (a0.extract p1.1 p1.2) 10).bind fun c10 =>
            impl_ReadPacket_l10 k a0 a1 a2 0 0 0 0 0 0 0 false (⟨#[]⟩ : ByteArray) (IntKind.wrap .i64 (c2.toNat : Int)) (IntKind.wrap .i64 (c3.toNat : Int)) r5 r7 r9 (IntKind.wrap .i64 (c10.toNat : Int)) 0 false (⟨#[]⟩ : ByteArray)
          else
            bif ((IntKind.wrap .i64 (c2.toNat : Int)) == 2) then
              (wnd (a0.extract p1.1 p1.2).size 6 10).bind fun p11 =>
              (impl_num k ((a0.extract p1.1 p1.2).extract p11.1 p11.2)).bind fun r12 =>
              (bidx (a0.extract p1.1 p1.2) 10).bind fun c13 =>
              (wnd (a0.extract p1.1 p1.2).size 11 ((a0.extract p1.1 p1.2).size : Int)).bind fun p14 =>
              impl_ReadPacket_l10 k a0 a1 a2 0 0 0 0 0 0 0 false (⟨#[]⟩ : ByteArray) (IntKind.wrap .i64 (c2.toNat : Int)) (IntKind.wrap .i64 (c3.toNat : Int)) r5 r7 0 0 r12 ((c13.toNat : Int) == 1) ((a0.extract p1.1 p1.2).extract p14.1 p14.2)
            else
              impl_ReadPacket_l10 k a0 a1 a2 0 0 0 0 0 0 0 false (⟨#[]⟩ : ByteArray) (IntKind.wrap .i64 (c2.toNat : Int)) (IntKind.wrap .i64 (c3.toNat : Int)) r5 r7 0 0 0 false (⟨#[]⟩ : ByteArray)
def spec_l5Near (k : Nat) (a0 : DTake) (a1 : Int) : Option (Bool) :=
  (spec_l1In k a1 a0.Next (IntKind.wrap .i64 ((IntKind.wrap .i64 (a0.Next + 8)) - 1))).bind fun r1 =>
  bif r1 then
    some (decide (a1 ≤ 999999))
  else
    some false
def spec_l5Can (k : Nat) (a0 : DTake) (a1 : DPart) : Option (Bool) :=
  bif (decide ((IntKind.wrap .i64 ((a0.Open.size : Int) + (a1.Text.size : Int))) ≤ 200)) then
    bif (!a1.Last) then
      some true
    else
      some (decide ((a0.Ready.length : Int) < 4))
  else
    some false
mutual
def spec_ValidTake_l4 : Nat → Int → Int → List DHeld → ByteArray → List ByteArray → Option (Bool)
  | 0, _, _, _, _, _ => none
  | k + 1, x0, x1, x2, x3, x4 =>
    bif (decide (x0 < (x4.length : Int))) then
      (idx x4 x0).bind fun y2 =>
      bif (decide ((y2.size : Int) > 200)) then
        some false
      else
        spec_ValidTake_l4 k (IntKind.wrap .i64 (x0 + 1)) x1 x2 x3 x4
    else
      spec_ValidTake_l9 k 0 x1 x2 x3 x4
def spec_ValidTake_l9 : Nat → Int → Int → List DHeld → ByteArray → List ByteArray → Option (Bool)
  | 0, _, _, _, _, _ => none
  | k + 1, x0, x1, x2, x3, x4 =>
    bif (decide (x0 < (x2.length : Int))) then
      (idx x2 x0).bind fun y3 =>
      (spec_l5Near k (⟨x1, x2, x3, x4⟩ : DTake) y3.Seq).bind fun r4 =>
      bif (!r4) then
        some false
      else
        bif (decide ((y3.Part.Text.size : Int) > 20)) then
          some false
        else
          bif (decide (x0 > 0)) then
            (idx x2 (IntKind.wrap .i64 (x0 - 1))).bind fun y5 =>
            bif (decide (y5.Seq ≥ y3.Seq)) then
              some false
            else
              bif (y3.Seq == x1) then
                (spec_l5Can k (⟨x1, x2, x3, x4⟩ : DTake) y3.Part).bind fun r6 =>
                bif r6 then
                  some false
                else
                  spec_ValidTake_l9 k (IntKind.wrap .i64 (x0 + 1)) x1 x2 x3 x4
              else
                spec_ValidTake_l9 k (IntKind.wrap .i64 (x0 + 1)) x1 x2 x3 x4
          else
            bif (y3.Seq == x1) then
              (spec_l5Can k (⟨x1, x2, x3, x4⟩ : DTake) y3.Part).bind fun r7 =>
              bif r7 then
                some false
              else
                spec_ValidTake_l9 k (IntKind.wrap .i64 (x0 + 1)) x1 x2 x3 x4
            else
              spec_ValidTake_l9 k (IntKind.wrap .i64 (x0 + 1)) x1 x2 x3 x4
    else
      some true
end
def spec_ValidTake (k : Nat) (a0 : DTake) : Option (Bool) :=
  (spec_l1In k a0.Next 0 1000000).bind fun r1 =>
  bif (!r1) then
    some false
  else
    bif (decide ((a0.Held.length : Int) > 8)) then
      some false
    else
      bif (decide ((a0.Open.size : Int) > 200)) then
        some false
      else
        bif (decide ((a0.Ready.length : Int) > 4)) then
          some false
        else
          spec_ValidTake_l4 k 0 a0.Next a0.Held a0.Open a0.Ready
def impl_goes (k : Nat) (a0 : DTake) (a1 : DPart) : Option (Bool) :=
  bif (decide ((IntKind.wrap .i64 ((a0.Open.size : Int) + (a1.Text.size : Int))) ≤ 200)) then
    bif (!a1.Last) then
      some true
    else
      some (decide ((a0.Ready.length : Int) < 4))
  else
    some false
mutual
def impl_ValidTake_l4 : Nat → List DHeld → Int → Int → Int → List DHeld → ByteArray → List ByteArray → Option (Bool)
  | 0, _, _, _, _, _, _, _ => none
  | k + 1, x0, x1, x2, x3, x4, x5, x6 =>
    bif (decide (x2 < x1)) then
      (idx x0 x2).bind fun y2 =>
      (impl_in k y2.Seq x3 (IntKind.wrap .i64 ((IntKind.wrap .i64 (x3 + 8)) - 1))).bind fun r3 =>
      bif (!r3) then
        some false
      else
        bif (decide (y2.Seq > 999999)) then
          some false
        else
          bif (decide ((y2.Part.Text.size : Int) > 20)) then
            some false
          else
            bif (decide (x2 > 0)) then
              (idx x4 (IntKind.wrap .i64 (x2 - 1))).bind fun y4 =>
              bif (decide (y4.Seq ≥ y2.Seq)) then
                some false
              else
                bif (y2.Seq == x3) then
                  (impl_goes k (⟨x3, x4, x5, x6⟩ : DTake) y2.Part).bind fun r5 =>
                  bif r5 then
                    some false
                  else
                    impl_ValidTake_l4 k x0 x1 (IntKind.wrap .i64 (x2 + 1)) x3 x4 x5 x6
                else
                  impl_ValidTake_l4 k x0 x1 (IntKind.wrap .i64 (x2 + 1)) x3 x4 x5 x6
            else
              bif (y2.Seq == x3) then
                (impl_goes k (⟨x3, x4, x5, x6⟩ : DTake) y2.Part).bind fun r6 =>
                bif r6 then
                  some false
                else
                  impl_ValidTake_l4 k x0 x1 (IntKind.wrap .i64 (x2 + 1)) x3 x4 x5 x6
              else
                impl_ValidTake_l4 k x0 x1 (IntKind.wrap .i64 (x2 + 1)) x3 x4 x5 x6
    else
      impl_ValidTake_l12 k x6 (x6.length : Int) 0
def impl_ValidTake_l12 : Nat → List ByteArray → Int → Int → Option (Bool)
  | 0, _, _, _ => none
  | k + 1, x0, x1, x2 =>
    bif (decide (x2 < x1)) then
      (idx x0 x2).bind fun y7 =>
      bif (decide ((y7.size : Int) > 200)) then
        some false
      else
        impl_ValidTake_l12 k x0 x1 (IntKind.wrap .i64 (x2 + 1))
    else
      some true
end
def impl_ValidTake (k : Nat) (a0 : DTake) : Option (Bool) :=
  (impl_in k a0.Next 0 1000000).bind fun r1 =>
  bif (!r1) then
    some false
  else
    bif (decide ((a0.Held.length : Int) > 8)) then
      some false
    else
      bif (decide ((a0.Open.size : Int) > 200)) then
        some false
      else
        bif (decide ((a0.Ready.length : Int) > 4)) then
          some false
        else
          impl_ValidTake_l4 k a0.Held (a0.Held.length : Int) 0 a0.Next a0.Held a0.Open a0.Ready
def impl_copyTake (k : Nat) (a0 : DTake) : Option (DTake) :=
  (app 32 ([] : List DHeld) a0.Held).bind fun l1 =>
  (app 16 ([] : List ByteArray) a0.Ready).bind fun l2 =>
  some (⟨a0.Next, l1, a0.Open, l2⟩ : DTake)
def impl_flow_l1 : Nat → Int → ByteArray → Int → ByteArray → List DHeld → List ByteArray → List DHeld → List ByteArray → Option (DTake)
  | 0, _, _, _, _, _, _, _, _ => none
  | k + 1, x0, x1, x2, x3, x4, x5, x6, x7 =>
    bif (decide ((x4.length : Int) > 0)) then
      (idx x4 0).bind fun _ =>
      (x4[(Int.toNat 0)]?).bind fun y1 =>
      bif (y1.Seq == x0) then
        (idx x4 0).bind fun _ =>
        (x4[(Int.toNat 0)]?).bind fun y2 =>
        (impl_goes k (⟨x0, x4, x1, x5⟩ : DTake) y2.Part).bind fun r3 =>
        bif r3 then
          (idx x4 0).bind fun _ =>
          (x4[(Int.toNat 0)]?).bind fun y4 =>
          (wnd x4.length 1 (x4.length : Int)).bind fun p5 =>
          (app 32 ([] : List DHeld) (dcut x4 p5.1 p5.2)).bind fun l6 =>
          (sadd x1 y4.Part.Text).bind fun t7 =>
          bif y4.Part.Last then
            (app 16 x5 ([t7] : List ByteArray)).bind fun l8 =>
            impl_flow_l1 k (IntKind.wrap .i64 (x0 + 1)) (⟨#[]⟩ : ByteArray) x2 x3 l6 l8 x6 x7
          else
            impl_flow_l1 k (IntKind.wrap .i64 (x0 + 1)) t7 x2 x3 l6 x5 x6 x7
        else
          some (⟨x0, x4, x1, x5⟩ : DTake)
      else
        some (⟨x0, x4, x1, x5⟩ : DTake)
    else
      some (⟨x0, x4, x1, x5⟩ : DTake)
def impl_flow (k : Nat) (a0 : DTake) : Option (DTake) :=
  impl_flow_l1 k a0.Next a0.Open 0 (⟨#[]⟩ : ByteArray) a0.Held a0.Ready ([] : List DHeld) ([] : List ByteArray)
def impl_TakePull (k : Nat) (a0 : DTake) : Option (DTake × ByteArray × Bool) :=
  (impl_ValidTake k a0).bind fun r1 =>
  bif (!r1) then
    some ((⟨0, ([] : List DHeld), (⟨#[]⟩ : ByteArray), ([] : List ByteArray)⟩ : DTake), (⟨#[]⟩ : ByteArray), false)
  else
    (impl_copyTake k a0).bind fun r2 =>
    bif ((r2.Ready.length : Int) == 0) then
      some (r2, (⟨#[]⟩ : ByteArray), false)
    else
      (idx r2.Ready 0).bind fun _ =>
      (r2.Ready[(Int.toNat 0)]?).bind fun y3 =>
      (wnd r2.Ready.length 1 (r2.Ready.length : Int)).bind fun p4 =>
      (app 16 ([] : List ByteArray) (dcut r2.Ready p4.1 p4.2)).bind fun l5 =>
      (impl_flow k (⟨r2.Next, r2.Held, r2.Open, l5⟩ : DTake)).bind fun r6 =>
      some (r6, y3, true)
def impl_TakePart_l7 : Nat → Int → Int → ByteArray → Bool → Int → ByteArray → Int → ByteArray → List DHeld → List ByteArray → List DHeld → List ByteArray → Option (DTake)
  | 0, _, _, _, _, _, _, _, _, _, _, _, _ => none
  | k + 1, x0, x1, x2, x3, x4, x5, x6, x7, x8, x9, x10, x11 =>
    bif (decide (x1 < (x10.length : Int))) then
      (idx x10 x1).bind fun _ =>
      (x10[(Int.toNat x1)]?).bind fun y4 =>
      bif (decide (y4.Seq < x0)) then
        impl_TakePart_l7 k x0 (IntKind.wrap .i64 (x1 + 1)) x2 x3 x4 x5 x6 x7 x8 x9 x10 x11
      else
        bif (decide (x1 < (x10.length : Int))) then
          (idx x10 x1).bind fun _ =>
          (x10[(Int.toNat x1)]?).bind fun y5 =>
          bif (y5.Seq == x0) then
            some (⟨x6, x10, x7, x11⟩ : DTake)
          else
            (app 32 x10 ([(⟨0, (⟨(⟨#[]⟩ : ByteArray), false⟩ : DPart)⟩ : DHeld)] : List DHeld)).bind fun l6 =>
            (wnd l6.length (IntKind.wrap .i64 (x1 + 1)) (l6.length : Int)).bind fun p7 =>
            (wnd l6.length x1 (l6.length : Int)).bind fun p8 =>
            (idx (cpy l6 p7.1 p7.2 (dcut l6 p8.1 p8.2)) x1).bind fun _ =>
            ((cpy l6 p7.1 p7.2 (dcut l6 p8.1 p8.2))[(Int.toNat x1)]?).bind fun y9 =>
            (impl_flow k (⟨x6, ((cpy l6 p7.1 p7.2 (dcut l6 p8.1 p8.2)).set (Int.toNat x1) (⟨x0, (⟨x2, x3⟩ : DPart)⟩ : DHeld)), x7, x11⟩ : DTake)).bind fun r10 =>
            some r10
        else
          (app 32 x10 ([(⟨0, (⟨(⟨#[]⟩ : ByteArray), false⟩ : DPart)⟩ : DHeld)] : List DHeld)).bind fun l11 =>
          (wnd l11.length (IntKind.wrap .i64 (x1 + 1)) (l11.length : Int)).bind fun p12 =>
          (wnd l11.length x1 (l11.length : Int)).bind fun p13 =>
          (idx (cpy l11 p12.1 p12.2 (dcut l11 p13.1 p13.2)) x1).bind fun _ =>
          ((cpy l11 p12.1 p12.2 (dcut l11 p13.1 p13.2))[(Int.toNat x1)]?).bind fun y14 =>
          (impl_flow k (⟨x6, ((cpy l11 p12.1 p12.2 (dcut l11 p13.1 p13.2)).set (Int.toNat x1) (⟨x0, (⟨x2, x3⟩ : DPart)⟩ : DHeld)), x7, x11⟩ : DTake)).bind fun r15 =>
          some r15
    else
      bif (decide (x1 < (x10.length : Int))) then
        (idx x10 x1).bind fun _ =>
        (x10[(Int.toNat x1)]?).bind fun y16 =>
        bif (y16.Seq == x0) then
          some (⟨x6, x10, x7, x11⟩ : DTake)
        else
          (app 32 x10 ([(⟨0, (⟨(⟨#[]⟩ : ByteArray), false⟩ : DPart)⟩ : DHeld)] : List DHeld)).bind fun l17 =>
          (wnd l17.length (IntKind.wrap .i64 (x1 + 1)) (l17.length : Int)).bind fun p18 =>
          (wnd l17.length x1 (l17.length : Int)).bind fun p19 =>
          (idx (cpy l17 p18.1 p18.2 (dcut l17 p19.1 p19.2)) x1).bind fun _ =>
          ((cpy l17 p18.1 p18.2 (dcut l17 p19.1 p19.2))[(Int.toNat x1)]?).bind fun y20 =>
          (impl_flow k (⟨x6, ((cpy l17 p18.1 p18.2 (dcut l17 p19.1 p19.2)).set (Int.toNat x1) (⟨x0, (⟨x2, x3⟩ : DPart)⟩ : DHeld)), x7, x11⟩ : DTake)).bind fun r21 =>
          some r21
      else
        (app 32 x10 ([(⟨0, (⟨(⟨#[]⟩ : ByteArray), false⟩ : DPart)⟩ : DHeld)] : List DHeld)).bind fun l22 =>
        (wnd l22.length (IntKind.wrap .i64 (x1 + 1)) (l22.length : Int)).bind fun p23 =>
        (wnd l22.length x1 (l22.length : Int)).bind fun p24 =>
        (idx (cpy l22 p23.1 p23.2 (dcut l22 p24.1 p24.2)) x1).bind fun _ =>
        ((cpy l22 p23.1 p23.2 (dcut l22 p24.1 p24.2))[(Int.toNat x1)]?).bind fun y25 =>
        (impl_flow k (⟨x6, ((cpy l22 p23.1 p23.2 (dcut l22 p24.1 p24.2)).set (Int.toNat x1) (⟨x0, (⟨x2, x3⟩ : DPart)⟩ : DHeld)), x7, x11⟩ : DTake)).bind fun r26 =>
        some r26
def impl_TakePart (k : Nat) (a0 : DTake) (a1 : Int) (a2 : DPart) : Option (DTake) :=
  (impl_ValidTake k a0).bind fun r1 =>
  bif (!r1) then
    some (⟨0, ([] : List DHeld), (⟨#[]⟩ : ByteArray), ([] : List ByteArray)⟩ : DTake)
  else
    (impl_copyTake k a0).bind fun r2 =>
    (impl_in k a1 a0.Next (IntKind.wrap .i64 ((IntKind.wrap .i64 (a0.Next + 8)) - 1))).bind fun r3 =>
    bif (!r3) then
      some r2
    else
      bif (decide (a1 > 999999)) then
        some r2
      else
        bif (decide ((a2.Text.size : Int) > 20)) then
          some r2
        else
          impl_TakePart_l7 k a1 0 a2.Text a2.Last 0 (⟨#[]⟩ : ByteArray) r2.Next r2.Open ([] : List DHeld) ([] : List ByteArray) r2.Held r2.Ready
mutual
def spec_TakeWord_l5 : Nat → Int → Int → Int → List DHeld → ByteArray → List ByteArray → Option (Int × Int)
  | 0, _, _, _, _, _, _ => none
  | k + 1, x0, x1, x2, x3, x4, x5 =>
    bif (decide (x1 < (x3.length : Int))) then
      spec_TakeWord_l9 k x0 x1 1 x2 x2 x3 x4 x5
    else
      some (x2, x0)
def spec_TakeWord_l9 : Nat → Int → Int → Int → Int → Int → List DHeld → ByteArray → List ByteArray → Option (Int × Int)
  | 0, _, _, _, _, _, _, _, _ => none
  | k + 1, x0, x1, x2, x3, x4, x5, x6, x7 =>
    (idx x5 x1).bind fun y2 =>
    bif (decide (x3 < y2.Seq)) then
      spec_TakeWord_l9 k x0 x1 (IntKind.wrap .i64 (x2 * 2)) (IntKind.wrap .i64 (x3 + 1)) x4 x5 x6 x7
    else
      spec_TakeWord_l5 k (IntKind.wrap .i64 (x0 + x2)) (IntKind.wrap .i64 (x1 + 1)) x4 x5 x6 x7
end
def spec_TakeWord (k : Nat) (a0 : DTake) : Option (Int × Int) :=
  (spec_ValidTake k a0).bind fun r1 =>
  bif (!r1) then
    some (0, 0)
  else
    spec_TakeWord_l5 k 0 0 a0.Next a0.Held a0.Open a0.Ready
def impl_TakeWord_l5 : Nat → Int → List DHeld → Int → Int → Int → List DHeld → ByteArray → List ByteArray → Option (Int × Int)
  | 0, _, _, _, _, _, _, _, _ => none
  | k + 1, x0, x1, x2, x3, x4, x5, x6, x7 =>
    bif (decide (x3 < x2)) then
      (idx x1 x3).bind fun y2 =>
      (shift .shl .i64 1 (IntKind.wrap .i64 (y2.Seq - x4))).bind fun s3 =>
      impl_TakeWord_l5 k (bitsOr .i64 x0 s3) x1 x2 (IntKind.wrap .i64 (x3 + 1)) x4 x5 x6 x7
    else
      some (x4, x0)
def impl_TakeWord (k : Nat) (a0 : DTake) : Option (Int × Int) :=
  (impl_ValidTake k a0).bind fun r1 =>
  bif (!r1) then
    some (0, 0)
  else
    impl_TakeWord_l5 k 0 a0.Held (a0.Held.length : Int) 0 a0.Next a0.Held a0.Open a0.Ready
def spec_ValidSend_l4 : Nat → Int → Int → List DItem → Option (Bool)
  | 0, _, _, _ => none
  | k + 1, x0, x1, x2 =>
    bif (decide (x0 < (x2.length : Int))) then
      (idx x2 x0).bind fun y2 =>
      bif (decide ((y2.Part.Text.size : Int) > 20)) then
        some false
      else
        (spec_l1In k y2.Since (-1) 3).bind fun r3 =>
        bif (!r3) then
          some false
        else
          bif (decide (x0 ≥ 8)) then
            bif (y2.Since != (-1)) then
              some false
            else
              bif y2.Has then
                bif (decide (y2.Since < 0)) then
                  some false
                else
                  spec_ValidSend_l4 k (IntKind.wrap .i64 (x0 + 1)) x1 x2
              else
                spec_ValidSend_l4 k (IntKind.wrap .i64 (x0 + 1)) x1 x2
          else
            bif y2.Has then
              bif (decide (y2.Since < 0)) then
                some false
              else
                spec_ValidSend_l4 k (IntKind.wrap .i64 (x0 + 1)) x1 x2
            else
              spec_ValidSend_l4 k (IntKind.wrap .i64 (x0 + 1)) x1 x2
    else
      some true
def spec_ValidSend (k : Nat) (a0 : DSend) : Option (Bool) :=
  bif (decide ((a0.Items.length : Int) > 60)) then
    some false
  else
    (spec_l1In k a0.Base 0 1000000).bind fun r1 =>
    bif (!r1) then
      some false
    else
      bif (decide ((IntKind.wrap .i64 (a0.Base + (a0.Items.length : Int))) > 1000000)) then
        some false
      else
        spec_ValidSend_l4 k 0 a0.Base a0.Items
def spec_l4Copy (k : Nat) (a0 : DSend) : Option (DSend) :=
  (app 40 ([] : List DItem) a0.Items).bind fun l1 =>
  some (⟨a0.Base, l1⟩ : DSend)
def spec_l4Front_l2 : Nat → Int → Int → List DItem → Option (Int)
  | 0, _, _, _ => none
  | k + 1, x0, x1, x2 =>
    bif (decide (x0 < (x2.length : Int))) then
      (idx x2 x0).bind fun y1 =>
      bif (decide (y1.Since ≥ 0)) then
        spec_l4Front_l2 k (IntKind.wrap .i64 (x0 + 1)) x1 x2
      else
        some x0
    else
      some x0
def spec_l4Front (k : Nat) (a0 : DSend) : Option (Int) :=
  spec_l4Front_l2 k 0 a0.Base a0.Items
mutual
def spec_SendWord_l9 : Nat → Int → Int → Int → Int → List DItem → List DItem → Option (DSend)
  | 0, _, _, _, _, _, _ => none
  | k + 1, x0, x1, x2, x3, x4, x5 =>
    bif (decide (x1 < 8)) then
      (qrem x0 2).bind fun q7 =>
      bif (q7 == 1) then
        bif (decide (x1 < (x5.length : Int))) then
          (idx x5 x1).bind fun _ =>
          (x5[(Int.toNat x1)]?).bind fun y8 =>
          bif (decide (y8.Since ≥ 0)) then
            (idx x5 x1).bind fun _ =>
            (x5[(Int.toNat x1)]?).bind fun y9 =>
            spec_SendWord_l13 k x0 x1 x2 x3 x4 (x5.set (Int.toNat x1) (⟨y9.Part, true, y9.Since⟩ : DItem))
          else
            spec_SendWord_l13 k x0 x1 x2 x3 x4 x5
        else
          spec_SendWord_l13 k x0 x1 x2 x3 x4 x5
      else
        spec_SendWord_l13 k x0 x1 x2 x3 x4 x5
    else
      some (⟨x3, x5⟩ : DSend)
def spec_SendWord_l13 : Nat → Int → Int → Int → Int → List DItem → List DItem → Option (DSend)
  | 0, _, _, _, _, _, _ => none
  | k + 1, x0, x1, x2, x3, x4, x5 =>
    (qdiv x0 2).bind fun q10 =>
    spec_SendWord_l9 k (IntKind.wrap .i64 (q10)) (IntKind.wrap .i64 (x1 + 1)) x2 x3 x4 x5
end
def spec_SendWord (k : Nat) (a0 : DSend) (a1 : Int) (a2 : Int) : Option (DSend) :=
  (spec_ValidSend k a0).bind fun r1 =>
  bif (!r1) then
    some (⟨0, ([] : List DItem)⟩ : DSend)
  else
    (spec_l4Copy k a0).bind fun r2 =>
    bif (decide (a1 < a0.Base)) then
      some r2
    else
      (spec_l4Front k a0).bind fun r3 =>
      bif (decide (a1 > (IntKind.wrap .i64 (a0.Base + r3)))) then
        some r2
      else
        (spec_l1In k a2 0 255).bind fun r4 =>
        bif (!r4) then
          some r2
        else
          (wnd r2.Items.length (IntKind.wrap .i64 (a1 - a0.Base)) (r2.Items.length : Int)).bind fun p5 =>
          (app 40 ([] : List DItem) (dcut r2.Items p5.1 p5.2)).bind fun l6 =>
          spec_SendWord_l9 k a2 0 0 a1 ([] : List DItem) l6
def impl_ValidSend_l4 : Nat → List DItem → Int → Int → Option (Bool)
  | 0, _, _, _ => none
  | k + 1, x0, x1, x2 =>
    bif (decide (x2 < x1)) then
      (idx x0 x2).bind fun y2 =>
      bif (decide ((y2.Part.Text.size : Int) > 20)) then
        some false
      else
        (impl_in k y2.Since (-1) 3).bind fun r3 =>
        bif (!r3) then
          some false
        else
          bif (decide (x2 ≥ 8)) then
            bif (y2.Since != (-1)) then
              some false
            else
              bif y2.Has then
                bif (decide (y2.Since < 0)) then
                  some false
                else
                  impl_ValidSend_l4 k x0 x1 (IntKind.wrap .i64 (x2 + 1))
              else
                impl_ValidSend_l4 k x0 x1 (IntKind.wrap .i64 (x2 + 1))
          else
            bif y2.Has then
              bif (decide (y2.Since < 0)) then
                some false
              else
                impl_ValidSend_l4 k x0 x1 (IntKind.wrap .i64 (x2 + 1))
            else
              impl_ValidSend_l4 k x0 x1 (IntKind.wrap .i64 (x2 + 1))
    else
      some true
def impl_ValidSend (k : Nat) (a0 : DSend) : Option (Bool) :=
  bif (decide ((a0.Items.length : Int) > 60)) then
    some false
  else
    (impl_in k a0.Base 0 1000000).bind fun r1 =>
    bif (!r1) then
      some false
    else
      bif (decide ((IntKind.wrap .i64 (a0.Base + (a0.Items.length : Int))) > 1000000)) then
        some false
      else
        impl_ValidSend_l4 k a0.Items (a0.Items.length : Int) 0
def impl_copySend (k : Nat) (a0 : DSend) : Option (DSend) :=
  (app 40 ([] : List DItem) a0.Items).bind fun l1 =>
  some (⟨a0.Base, l1⟩ : DSend)
mutual
def impl_SendWord_l5 : Nat → Int → Int → Int → Int → Int → List DItem → List DItem → Option (DSend)
  | 0, _, _, _, _, _, _, _ => none
  | k + 1, x0, x1, x2, x3, x4, x5, x6 =>
    bif (decide (x2 < (x6.length : Int))) then
      (idx x6 x2).bind fun _ =>
      (x6[(Int.toNat x2)]?).bind fun y3 =>
      bif (decide (y3.Since ≥ 0)) then
        impl_SendWord_l5 k x0 x1 (IntKind.wrap .i64 (x2 + 1)) x3 x4 x5 x6
      else
        bif (decide (x0 < x4)) then
          some (⟨x4, x6⟩ : DSend)
        else
          bif (decide (x0 > (IntKind.wrap .i64 (x4 + x2)))) then
            some (⟨x4, x6⟩ : DSend)
          else
            (impl_in k x1 0 255).bind fun r4 =>
            bif (!r4) then
              some (⟨x4, x6⟩ : DSend)
            else
              (wnd x6.length (IntKind.wrap .i64 (x0 - x4)) (x6.length : Int)).bind fun p5 =>
              (app 40 ([] : List DItem) (dcut x6 p5.1 p5.2)).bind fun l6 =>
              impl_SendWord_l12 k x1 0 x3 x0 x5 l6
    else
      bif (decide (x0 < x4)) then
        some (⟨x4, x6⟩ : DSend)
      else
        bif (decide (x0 > (IntKind.wrap .i64 (x4 + x2)))) then
          some (⟨x4, x6⟩ : DSend)
        else
          (impl_in k x1 0 255).bind fun r7 =>
          bif (!r7) then
            some (⟨x4, x6⟩ : DSend)
          else
            (wnd x6.length (IntKind.wrap .i64 (x0 - x4)) (x6.length : Int)).bind fun p8 =>
            (app 40 ([] : List DItem) (dcut x6 p8.1 p8.2)).bind fun l9 =>
            impl_SendWord_l12 k x1 0 x3 x0 x5 l9
def impl_SendWord_l12 : Nat → Int → Int → Int → Int → List DItem → List DItem → Option (DSend)
  | 0, _, _, _, _, _, _ => none
  | k + 1, x0, x1, x2, x3, x4, x5 =>
    bif (decide (x1 < 8)) then
      bif (decide (x1 < (x5.length : Int))) then
        (shift .shr .i64 x0 x1).bind fun s10 =>
        bif ((bitsAnd .i64 s10 1) == 1) then
          (idx x5 x1).bind fun _ =>
          (x5[(Int.toNat x1)]?).bind fun y11 =>
          bif (decide (y11.Since ≥ 0)) then
            (idx x5 x1).bind fun _ =>
            (x5[(Int.toNat x1)]?).bind fun y12 =>
            impl_SendWord_l13 k x0 x1 x2 x3 x4 (x5.set (Int.toNat x1) (⟨y12.Part, true, y12.Since⟩ : DItem))
          else
            impl_SendWord_l13 k x0 x1 x2 x3 x4 x5
        else
          impl_SendWord_l13 k x0 x1 x2 x3 x4 x5
      else
        some (⟨x3, x5⟩ : DSend)
    else
      some (⟨x3, x5⟩ : DSend)
def impl_SendWord_l13 : Nat → Int → Int → Int → Int → List DItem → List DItem → Option (DSend)
  | 0, _, _, _, _, _, _ => none
  | k + 1, x0, x1, x2, x3, x4, x5 =>
    impl_SendWord_l12 k x0 (IntKind.wrap .i64 (x1 + 1)) x2 x3 x4 x5
end
def impl_SendWord (k : Nat) (a0 : DSend) (a1 : Int) (a2 : Int) : Option (DSend) :=
  (impl_ValidSend k a0).bind fun r1 =>
  bif (!r1) then
    some (⟨0, ([] : List DItem)⟩ : DSend)
  else
    (impl_copySend k a0).bind fun r2 =>
    impl_SendWord_l5 k a1 a2 0 0 r2.Base ([] : List DItem) r2.Items
def spec_SendPush_l9 : Nat → Int → Int → List DPart → Int → List DItem → List DItem → Option (DSend × Int)
  | 0, _, _, _, _, _, _ => none
  | k + 1, x0, x1, x2, x3, x4, x5 =>
    bif (decide (x0 < (x2.length : Int))) then
      (idx x2 x0).bind fun _ =>
      (x2[(Int.toNat x0)]?).bind fun y4 =>
      (app 40 x5 ([(⟨y4, false, (-1)⟩ : DItem)] : List DItem)).bind fun l5 =>
      spec_SendPush_l9 k (IntKind.wrap .i64 (x0 + 1)) x1 x2 x3 x4 l5
    else
      some ((⟨x3, x5⟩ : DSend), 0)
def spec_SendPush (k : Nat) (a0 : DSend) (a1 : ByteArray) : Option (DSend × Int) :=
  (spec_ValidSend k a0).bind fun r1 =>
  bif (!r1) then
    some ((⟨0, ([] : List DItem)⟩ : DSend), 1)
  else
    bif (decide ((a1.size : Int) > 200)) then
      some ((⟨0, ([] : List DItem)⟩ : DSend), 1)
    else
      (spec_Cut k a1).bind fun r2 =>
      bif (decide ((IntKind.wrap .i64 ((a0.Items.length : Int) + (r2.length : Int))) > 60)) then
        some ((⟨0, ([] : List DItem)⟩ : DSend), 3)
      else
        bif (decide ((IntKind.wrap .i64 (a0.Base + (IntKind.wrap .i64 ((a0.Items.length : Int) + (r2.length : Int))))) > 1000000)) then
          some ((⟨0, ([] : List DItem)⟩ : DSend), 3)
        else
          (spec_l4Copy k a0).bind fun r3 =>
          spec_SendPush_l9 k 0 0 r2 r3.Base ([] : List DItem) r3.Items
def impl_SendPush_l9 : Nat → Int → Int → Int → Int → List DPart → List DItem → List DItem → Option (DSend × Int)
  | 0, _, _, _, _, _, _, _ => none
  | k + 1, x0, x1, x2, x3, x4, x5, x6 =>
    bif (decide (x1 < x0)) then
      (idx x4 x1).bind fun _ =>
      (x4[(Int.toNat x1)]?).bind fun y4 =>
      (app 40 x6 ([(⟨y4, false, (-1)⟩ : DItem)] : List DItem)).bind fun l5 =>
      impl_SendPush_l9 k x0 (IntKind.wrap .i64 (x1 + 1)) x2 x3 x4 x5 l5
    else
      some ((⟨x3, x6⟩ : DSend), 0)
def impl_SendPush (k : Nat) (a0 : DSend) (a1 : ByteArray) : Option (DSend × Int) :=
  (impl_ValidSend k a0).bind fun r1 =>
  bif (!r1) then
    some ((⟨0, ([] : List DItem)⟩ : DSend), 1)
  else
    bif (decide ((a1.size : Int) > 200)) then
      some ((⟨0, ([] : List DItem)⟩ : DSend), 1)
    else
      (impl_Cut k a1).bind fun r2 =>
      bif (decide ((IntKind.wrap .i64 ((a0.Items.length : Int) + (r2.length : Int))) > 60)) then
        some ((⟨0, ([] : List DItem)⟩ : DSend), 3)
      else
        bif (decide ((IntKind.wrap .i64 (a0.Base + (IntKind.wrap .i64 ((a0.Items.length : Int) + (r2.length : Int))))) > 1000000)) then
          some ((⟨0, ([] : List DItem)⟩ : DSend), 3)
        else
          (impl_copySend k a0).bind fun r3 =>
          impl_SendPush_l9 k (r2.length : Int) 0 0 r3.Base r2 ([] : List DItem) r3.Items
mutual
def spec_SendTick_l6 : Nat → Int → Int → List DItem → Int → List Int → Int → List DItem → List DItem → Option (DSend × List Int)
  | 0, _, _, _, _, _, _, _, _ => none
  | k + 1, x0, x1, x2, x3, x4, x5, x6, x7 =>
    bif (decide (x0 < (x7.length : Int))) then
      bif (decide (x0 < 8)) then
        (idx x7 x0).bind fun _ =>
        (x7[(Int.toNat x0)]?).bind fun y3 =>
        bif y3.Has then
          spec_SendTick_l7 k x0 x1 x2 x3 x4 x5 x6 x7
        else
          bif (y3.Since == (-1)) then
            (app 8 x4 ([(IntKind.wrap .i64 (x1 + x0))] : List Int)).bind fun l4 =>
            (idx x7 x0).bind fun _ =>
            (x7[(Int.toNat x0)]?).bind fun y5 =>
            spec_SendTick_l7 k x0 x1 x2 x3 l4 x5 x6 (x7.set (Int.toNat x0) (⟨y5.Part, y5.Has, 0⟩ : DItem))
          else
            bif (y3.Since == 3) then
              (app 8 x4 ([(IntKind.wrap .i64 (x1 + x0))] : List Int)).bind fun l6 =>
              (idx x7 x0).bind fun _ =>
              (x7[(Int.toNat x0)]?).bind fun y7 =>
              spec_SendTick_l7 k x0 x1 x2 x3 l6 x5 x6 (x7.set (Int.toNat x0) (⟨y7.Part, y7.Has, 0⟩ : DItem))
            else
              (idx x7 x0).bind fun _ =>
              (x7[(Int.toNat x0)]?).bind fun y8 =>
              spec_SendTick_l7 k x0 x1 x2 x3 x4 x5 x6 (x7.set (Int.toNat x0) (⟨y8.Part, y8.Has, (IntKind.wrap .i64 (y3.Since + 1))⟩ : DItem))
      else
        some ((⟨x5, x7⟩ : DSend), x4)
    else
      some ((⟨x5, x7⟩ : DSend), x4)
def spec_SendTick_l7 : Nat → Int → Int → List DItem → Int → List Int → Int → List DItem → List DItem → Option (DSend × List Int)
  | 0, _, _, _, _, _, _, _, _ => none
  | k + 1, x0, x1, x2, x3, x4, x5, x6, x7 =>
    spec_SendTick_l6 k (IntKind.wrap .i64 (x0 + 1)) x1 x2 x3 x4 x5 x6 x7
end
def spec_SendTick (k : Nat) (a0 : DSend) : Option (DSend × List Int) :=
  (spec_ValidSend k a0).bind fun r1 =>
  bif (!r1) then
    some ((⟨0, ([] : List DItem)⟩ : DSend), ([] : List Int))
  else
    (spec_l4Copy k a0).bind fun r2 =>
    spec_SendTick_l6 k 0 a0.Base a0.Items 0 ([] : List Int) r2.Base ([] : List DItem) r2.Items
mutual
def impl_SendTick_l6 : Nat → Int → Int → Int → List Int → List DItem → List DItem → Option (DSend × List Int)
  | 0, _, _, _, _, _, _ => none
  | k + 1, x0, x1, x2, x3, x4, x5 =>
    bif (decide (x0 < (x5.length : Int))) then
      bif (decide (x0 < 8)) then
        (idx x5 x0).bind fun _ =>
        (x5[(Int.toNat x0)]?).bind fun y3 =>
        bif y3.Has then
          impl_SendTick_l7 k x0 x1 x2 x3 x4 x5
        else
          (x5[(Int.toNat x0)]?).bind fun y4 =>
          bif (y4.Since == (-1)) then
            (x5[(Int.toNat x0)]?).bind fun y5 =>
            (app 8 x3 ([(IntKind.wrap .i64 (x2 + x0))] : List Int)).bind fun l6 =>
            impl_SendTick_l7 k x0 x1 x2 l6 x4 (x5.set (Int.toNat x0) (⟨y5.Part, y5.Has, 0⟩ : DItem))
          else
            (x5[(Int.toNat x0)]?).bind fun y7 =>
            bif (y7.Since == 3) then
              (x5[(Int.toNat x0)]?).bind fun y8 =>
              (app 8 x3 ([(IntKind.wrap .i64 (x2 + x0))] : List Int)).bind fun l9 =>
              impl_SendTick_l7 k x0 x1 x2 l9 x4 (x5.set (Int.toNat x0) (⟨y8.Part, y8.Has, 0⟩ : DItem))
            else
              (x5[(Int.toNat x0)]?).bind fun y10 =>
              (x5[(Int.toNat x0)]?).bind fun y11 =>
              impl_SendTick_l7 k x0 x1 x2 x3 x4 (x5.set (Int.toNat x0) (⟨y11.Part, y11.Has, (IntKind.wrap .i64 (y10.Since + 1))⟩ : DItem))
      else
        some ((⟨x2, x5⟩ : DSend), x3)
    else
      some ((⟨x2, x5⟩ : DSend), x3)
def impl_SendTick_l7 : Nat → Int → Int → Int → List Int → List DItem → List DItem → Option (DSend × List Int)
  | 0, _, _, _, _, _, _ => none
  | k + 1, x0, x1, x2, x3, x4, x5 =>
    impl_SendTick_l6 k (IntKind.wrap .i64 (x0 + 1)) x1 x2 x3 x4 x5
end
def impl_SendTick (k : Nat) (a0 : DSend) : Option (DSend × List Int) :=
  (impl_ValidSend k a0).bind fun r1 =>
  bif (!r1) then
    some ((⟨0, ([] : List DItem)⟩ : DSend), ([] : List Int))
  else
    (impl_copySend k a0).bind fun r2 =>
    impl_SendTick_l6 k 0 0 r2.Base ([] : List Int) ([] : List DItem) r2.Items
def spec_l5Copy (k : Nat) (a0 : DTake) : Option (DTake) :=
  (app 32 ([] : List DHeld) a0.Held).bind fun l1 =>
  (app 16 ([] : List ByteArray) a0.Ready).bind fun l2 =>
  some (⟨a0.Next, l1, a0.Open, l2⟩ : DTake)
def spec_l5In_l1 : Nat → Int → ByteArray → Int → ByteArray → List DHeld → List ByteArray → List DHeld → List ByteArray → Option (DTake)
  | 0, _, _, _, _, _, _, _, _ => none
  | k + 1, x0, x1, x2, x3, x4, x5, x6, x7 =>
    bif (decide ((x4.length : Int) > 0)) then
      (idx x4 0).bind fun _ =>
      (x4[(Int.toNat 0)]?).bind fun y1 =>
      bif (y1.Seq == x0) then
        (idx x4 0).bind fun _ =>
        (x4[(Int.toNat 0)]?).bind fun y2 =>
        (spec_l5Can k (⟨x0, x4, x1, x5⟩ : DTake) y2.Part).bind fun r3 =>
        bif r3 then
          (idx x4 0).bind fun _ =>
          (x4[(Int.toNat 0)]?).bind fun y4 =>
          (wnd x4.length 1 (x4.length : Int)).bind fun p5 =>
          (app 32 ([] : List DHeld) (dcut x4 p5.1 p5.2)).bind fun l6 =>
          (sadd x1 y4.Part.Text).bind fun t7 =>
          bif y4.Part.Last then
            (app 16 x5 ([t7] : List ByteArray)).bind fun l8 =>
            spec_l5In_l1 k (IntKind.wrap .i64 (x0 + 1)) (⟨#[]⟩ : ByteArray) x2 x3 l6 l8 x6 x7
          else
            spec_l5In_l1 k (IntKind.wrap .i64 (x0 + 1)) t7 x2 x3 l6 x5 x6 x7
        else
          some (⟨x0, x4, x1, x5⟩ : DTake)
      else
        some (⟨x0, x4, x1, x5⟩ : DTake)
    else
      some (⟨x0, x4, x1, x5⟩ : DTake)
def spec_l5In (k : Nat) (a0 : DTake) : Option (DTake) :=
  spec_l5In_l1 k a0.Next a0.Open 0 (⟨#[]⟩ : ByteArray) a0.Held a0.Ready ([] : List DHeld) ([] : List ByteArray)
mutual
def spec_TakePart_l9 : Nat → Int → Bool → Int → Int → List DHeld → ByteArray → List ByteArray → ByteArray → Bool → Int → ByteArray → Int → ByteArray → List DHeld → List DHeld → List ByteArray → List DHeld → List ByteArray → Option (DTake)
  | 0, _, _, _, _, _, _, _, _, _, _, _, _, _, _, _, _, _, _ => none
  | k + 1, x0, x1, x2, x3, x4, x5, x6, x7, x8, x9, x10, x11, x12, x13, x14, x15, x16, x17 =>
    bif (decide (x2 < (x4.length : Int))) then
      (idx x4 x2).bind fun y4 =>
      bif (y4.Seq == x0) then
        some (⟨x11, x16, x12, x17⟩ : DTake)
      else
        bif (!x1) then
          (idx x4 x2).bind fun y5 =>
          bif (decide (y5.Seq > x0)) then
            (app 32 x13 ([(⟨x0, (⟨x7, x8⟩ : DPart)⟩ : DHeld)] : List DHeld)).bind fun l6 =>
            spec_TakePart_l16 k x0 true x2 x3 x4 x5 x6 x7 x8 x9 x10 x11 x12 l6 x14 x15 x16 x17
          else
            spec_TakePart_l16 k x0 x1 x2 x3 x4 x5 x6 x7 x8 x9 x10 x11 x12 x13 x14 x15 x16 x17
        else
          spec_TakePart_l16 k x0 x1 x2 x3 x4 x5 x6 x7 x8 x9 x10 x11 x12 x13 x14 x15 x16 x17
    else
      bif (!x1) then
        (app 32 x13 ([(⟨x0, (⟨x7, x8⟩ : DPart)⟩ : DHeld)] : List DHeld)).bind fun l7 =>
        spec_TakePart_l19 k x9 x10 x11 x12 l7 x14 x15 x16 x17
      else
        spec_TakePart_l19 k x9 x10 x11 x12 x13 x14 x15 x16 x17
def spec_TakePart_l16 : Nat → Int → Bool → Int → Int → List DHeld → ByteArray → List ByteArray → ByteArray → Bool → Int → ByteArray → Int → ByteArray → List DHeld → List DHeld → List ByteArray → List DHeld → List ByteArray → Option (DTake)
  | 0, _, _, _, _, _, _, _, _, _, _, _, _, _, _, _, _, _, _ => none
  | k + 1, x0, x1, x2, x3, x4, x5, x6, x7, x8, x9, x10, x11, x12, x13, x14, x15, x16, x17 =>
    (idx x4 x2).bind fun y8 =>
    (app 32 x13 ([y8] : List DHeld)).bind fun l9 =>
    spec_TakePart_l9 k x0 x1 (IntKind.wrap .i64 (x2 + 1)) x3 x4 x5 x6 x7 x8 x9 x10 x11 x12 l9 x14 x15 x16 x17
def spec_TakePart_l19 : Nat → Int → ByteArray → Int → ByteArray → List DHeld → List DHeld → List ByteArray → List DHeld → List ByteArray → Option (DTake)
  | 0, _, _, _, _, _, _, _, _, _ => none
  | k + 1, x0, x1, x2, x3, x4, x5, x6, x7, x8 =>
    (spec_l5In k (⟨x2, x4, x3, x8⟩ : DTake)).bind fun r10 =>
    some r10
end
def spec_TakePart (k : Nat) (a0 : DTake) (a1 : Int) (a2 : DPart) : Option (DTake) :=
  (spec_ValidTake k a0).bind fun r1 =>
  bif (!r1) then
    some (⟨0, ([] : List DHeld), (⟨#[]⟩ : ByteArray), ([] : List ByteArray)⟩ : DTake)
  else
    (spec_l5Copy k a0).bind fun r2 =>
    (spec_l5Near k a0 a1).bind fun r3 =>
    bif (!r3) then
      some r2
    else
      bif (decide ((a2.Text.size : Int) > 20)) then
        some r2
      else
        spec_TakePart_l9 k a1 false 0 a0.Next a0.Held a0.Open a0.Ready a2.Text a2.Last 0 (⟨#[]⟩ : ByteArray) r2.Next r2.Open ([] : List DHeld) ([] : List DHeld) ([] : List ByteArray) r2.Held r2.Ready
def spec_TakePull (k : Nat) (a0 : DTake) : Option (DTake × ByteArray × Bool) :=
  (spec_ValidTake k a0).bind fun r1 =>
  bif (!r1) then
    some ((⟨0, ([] : List DHeld), (⟨#[]⟩ : ByteArray), ([] : List ByteArray)⟩ : DTake), (⟨#[]⟩ : ByteArray), false)
  else
    (spec_l5Copy k a0).bind fun r2 =>
    bif ((r2.Ready.length : Int) == 0) then
      some (r2, (⟨#[]⟩ : ByteArray), false)
    else
      (idx r2.Ready 0).bind fun _ =>
      (r2.Ready[(Int.toNat 0)]?).bind fun y3 =>
      (wnd r2.Ready.length 1 (r2.Ready.length : Int)).bind fun p4 =>
      (app 16 ([] : List ByteArray) (dcut r2.Ready p4.1 p4.2)).bind fun l5 =>
      (spec_l5In k (⟨r2.Next, r2.Held, r2.Open, l5⟩ : DTake)).bind fun r6 =>
      some (r6, y3, true)
end Km.X
namespace Km.X
open Go Km
set_option linter.unusedVariables false
set_option maxRecDepth 100000
def spec_NewEnd (k : Nat) (a0 : Int) : Option (DEnd) :=
  (spec_l1In k a0 1 2).bind fun r1 =>
  bif (!r1) then
    some (⟨0, false, 0, 0, 0, false, (⟨0, ([] : List DItem)⟩ : DSend), (⟨0, ([] : List DHeld), (⟨#[]⟩ : ByteArray), ([] : List ByteArray)⟩ : DTake)⟩ : DEnd)
  else
    some (⟨a0, true, 1, 0, 0, false, (⟨0, ([] : List DItem)⟩ : DSend), (⟨0, ([] : List DHeld), (⟨#[]⟩ : ByteArray), ([] : List ByteArray)⟩ : DTake)⟩ : DEnd)
def spec_l6NoSend (k : Nat) (a0 : DSend) : Option (Bool) :=
  bif (a0.Base == 0) then
    some ((a0.Items.length : Int) == 0)
  else
    some false
def spec_l6NoTake (k : Nat) (a0 : DTake) : Option (Bool) :=
  bif (a0.Next == 0) then
    bif ((a0.Held.length : Int) == 0) then
      bif (a0.Open.toList == (⟨#[]⟩ : ByteArray).toList) then
        some ((a0.Ready.length : Int) == 0)
      else
        some false
    else
      some false
  else
    some false
def spec_ValidEnd (k : Nat) (a0 : DEnd) : Option (Bool) :=
  (spec_l1In k a0.Number 1 2).bind fun r1 =>
  bif (!r1) then
    some false
  else
    (spec_l1In k a0.Life 1 1000).bind fun r2 =>
    bif (!r2) then
      some false
    else
      (spec_l1In k a0.Peer 0 1000).bind fun r3 =>
      bif (!r3) then
        some false
      else
        (spec_l1In k a0.Since 0 1000000).bind fun r4 =>
        bif (!r4) then
          some false
        else
          (spec_ValidSend k a0.Send).bind fun r5 =>
          bif (!r5) then
            some false
          else
            (spec_ValidTake k a0.Take).bind fun r6 =>
            bif (!r6) then
              some false
            else
              bif (a0.Peer == 0) then
                (spec_l6NoSend k a0.Send).bind fun r7 =>
                bif (!r7) then
                  some false
                else
                  (spec_l6NoTake k a0.Take).bind fun r8 =>
                  bif (!r8) then
                    some false
                  else
                    bif a0.Up then
                      some true
                    else
                      bif (a0.Peer == 0) then
                        bif (a0.Since == 0) then
                          some (!a0.Owes)
                        else
                          some false
                      else
                        some false
              else
                bif a0.Up then
                  some true
                else
                  bif (a0.Peer == 0) then
                    bif (a0.Since == 0) then
                      some (!a0.Owes)
                    else
                      some false
                  else
                    some false
def spec_l6Copy (k : Nat) (a0 : DEnd) : Option (DEnd) :=
  (spec_l4Copy k a0.Send).bind fun r1 =>
  (spec_l5Copy k a0.Take).bind fun r2 =>
  some (⟨a0.Number, a0.Up, a0.Life, a0.Peer, a0.Since, a0.Owes, r1, r2⟩ : DEnd)
def spec_EndTake_l11 : Nat → Int → Int → Int → Int → Int → Int → Int → Bool → ByteArray → Int → Int → Bool → Int → Int → Int → Bool → Int → Int → ByteArray → ByteArray → Int → Bool → Int → Int → Int → Bool → Int → Int → ByteArray → List DItem → List DHeld → List ByteArray → List DPacket → List DItem → List DHeld → List ByteArray → Option (DActed)
  | 0, _, _, _, _, _, _, _, _, _, _, _, _, _, _, _, _, _, _, _, _, _, _, _, _, _, _, _, _, _, _, _, _, _, _, _, _ => none
  | k + 1, x0, x1, x2, x3, x4, x5, x6, x7, x8, x9, x10, x11, x12, x13, x14, x15, x16, x17, x18, x19, x20, x21, x22, x23, x24, x25, x26, x27, x28, x29, x30, x31, x32, x33, x34, x35 =>
    bif (x3 != x22) then
      some (⟨0, (⟨x20, x21, x22, x23, x24, true, (⟨x26, x33⟩ : DSend), (⟨x27, x34, x28, x35⟩ : DTake)⟩ : DEnd), ([] : List DPacket), (⟨#[]⟩ : ByteArray)⟩ : DActed)
    else
      bif (x0 == 1) then
        (spec_SendWord k (⟨x26, x33⟩ : DSend) x4 x5).bind fun r4 =>
        some (⟨0, (⟨x20, x21, x22, x23, x24, x25, r4, (⟨x27, x34, x28, x35⟩ : DTake)⟩ : DEnd), ([] : List DPacket), (⟨#[]⟩ : ByteArray)⟩ : DActed)
      else
        (spec_TakePart k (⟨x27, x34, x28, x35⟩ : DTake) x6 (⟨x8, x7⟩ : DPart)).bind fun r5 =>
        some (⟨0, (⟨x20, x21, x22, x23, x24, true, (⟨x26, x33⟩ : DSend), r5⟩ : DEnd), ([] : List DPacket), (⟨#[]⟩ : ByteArray)⟩ : DActed)
def spec_EndTake (k : Nat) (a0 : DEnd) (a1 : DPacket) : Option (DActed) :=
  (spec_ValidEnd k a0).bind fun r1 =>
  bif (!r1) then
    some (⟨1, (⟨0, false, 0, 0, 0, false, (⟨0, ([] : List DItem)⟩ : DSend), (⟨0, ([] : List DHeld), (⟨#[]⟩ : ByteArray), ([] : List ByteArray)⟩ : DTake)⟩ : DEnd), ([] : List DPacket), (⟨#[]⟩ : ByteArray)⟩ : DActed)
  else
    (spec_l6Copy k a0).bind fun r2 =>
    bif (!r2.Up) then
      some (⟨0, r2, ([] : List DPacket), (⟨#[]⟩ : ByteArray)⟩ : DActed)
    else
      (spec_l2Ok k a1).bind fun r3 =>
      bif (!r3) then
        some (⟨0, r2, ([] : List DPacket), (⟨#[]⟩ : ByteArray)⟩ : DActed)
      else
        bif (a1.From == r2.Number) then
          some (⟨0, r2, ([] : List DPacket), (⟨#[]⟩ : ByteArray)⟩ : DActed)
        else
          bif (decide (a1.Mine < r2.Peer)) then
            some (⟨0, r2, ([] : List DPacket), (⟨#[]⟩ : ByteArray)⟩ : DActed)
          else
            bif (decide (a1.Mine > r2.Peer)) then
              spec_EndTake_l11 k a1.Kind a1.From a1.Mine a1.Yours a1.Next a1.Mask a1.Seq a1.Last a1.Part 0 0 false 0 0 0 false 0 0 (⟨#[]⟩ : ByteArray) (⟨#[]⟩ : ByteArray) r2.Number r2.Up r2.Life a1.Mine r2.Since true 0 0 (⟨#[]⟩ : ByteArray) ([] : List DItem) ([] : List DHeld) ([] : List ByteArray) ([] : List DPacket) ([] : List DItem) ([] : List DHeld) ([] : List ByteArray)
            else
              spec_EndTake_l11 k a1.Kind a1.From a1.Mine a1.Yours a1.Next a1.Mask a1.Seq a1.Last a1.Part 0 0 false 0 0 0 false 0 0 (⟨#[]⟩ : ByteArray) (⟨#[]⟩ : ByteArray) r2.Number r2.Up r2.Life r2.Peer r2.Since r2.Owes r2.Send.Base r2.Take.Next r2.Take.Open ([] : List DItem) ([] : List DHeld) ([] : List ByteArray) ([] : List DPacket) r2.Send.Items r2.Take.Held r2.Take.Ready
def impl_noSend (k : Nat) (a0 : DSend) : Option (Bool) :=
  bif (a0.Base == 0) then
    some ((a0.Items.length : Int) == 0)
  else
    some false
def impl_noTake (k : Nat) (a0 : DTake) : Option (Bool) :=
  bif (a0.Next == 0) then
    bif ((a0.Held.length : Int) == 0) then
      bif (a0.Open.toList == (⟨#[]⟩ : ByteArray).toList) then
        some ((a0.Ready.length : Int) == 0)
      else
        some false
    else
      some false
  else
    some false
def impl_ValidEnd (k : Nat) (a0 : DEnd) : Option (Bool) :=
  bif (a0.Number != 1) then
    bif (a0.Number != 2) then
      some false
    else
      (impl_in k a0.Life 1 1000).bind fun r1 =>
      bif (!r1) then
        some false
      else
        (impl_in k a0.Peer 0 1000).bind fun r2 =>
        bif (!r2) then
          some false
        else
          (impl_in k a0.Since 0 1000000).bind fun r3 =>
          bif (!r3) then
            some false
          else
            (impl_ValidSend k a0.Send).bind fun r4 =>
            bif (!r4) then
              some false
            else
              (impl_ValidTake k a0.Take).bind fun r5 =>
              bif (!r5) then
                some false
              else
                bif (a0.Peer == 0) then
                  (impl_noSend k a0.Send).bind fun r6 =>
                  bif r6 then
                    (impl_noTake k a0.Take).bind fun r7 =>
                    bif (!r7) then
                      some false
                    else
                      bif a0.Up then
                        some true
                      else
                        bif (a0.Peer == 0) then
                          bif (a0.Since == 0) then
                            some (!a0.Owes)
                          else
                            some false
                        else
                          some false
                  else
                    some false
                else
                  bif a0.Up then
                    some true
                  else
                    bif (a0.Peer == 0) then
                      bif (a0.Since == 0) then
                        some (!a0.Owes)
                      else
                        some false
                    else
                      some false
  else
    (impl_in k a0.Life 1 1000).bind fun r8 =>
    bif (!r8) then
      some false
    else
      (impl_in k a0.Peer 0 1000).bind fun r9 =>
      bif (!r9) then
        some false
      else
        (impl_in k a0.Since 0 1000000).bind fun r10 =>
        bif (!r10) then
          some false
        else
          (impl_ValidSend k a0.Send).bind fun r11 =>
          bif (!r11) then
            some false
          else
            (impl_ValidTake k a0.Take).bind fun r12 =>
            bif (!r12) then
              some false
            else
              bif (a0.Peer == 0) then
                (impl_noSend k a0.Send).bind fun r13 =>
                bif r13 then
                  (impl_noTake k a0.Take).bind fun r14 =>
                  bif (!r14) then
                    some false
                  else
                    bif a0.Up then
                      some true
                    else
                      bif (a0.Peer == 0) then
                        bif (a0.Since == 0) then
                          some (!a0.Owes)
                        else
                          some false
                      else
                        some false
                else
                  some false
              else
                bif a0.Up then
                  some true
                else
                  bif (a0.Peer == 0) then
                    bif (a0.Since == 0) then
                      some (!a0.Owes)
                    else
                      some false
                  else
                    some false
def impl_copyEnd (k : Nat) (a0 : DEnd) : Option (DEnd) :=
  (impl_copySend k a0.Send).bind fun r1 =>
  (impl_copyTake k a0.Take).bind fun r2 =>
  some (⟨a0.Number, a0.Up, a0.Life, a0.Peer, a0.Since, a0.Owes, r1, r2⟩ : DEnd)
mutual
def impl_EndTake_l9 : Nat → Int → Int → Int → Int → Int → Int → Int → Bool → ByteArray → Int → Int → Bool → Int → Int → Int → Bool → Int → Int → ByteArray → ByteArray → Int → Int → Bool → Int → Int → Int → Bool → Int → Int → ByteArray → ByteArray → List DItem → List DHeld → List ByteArray → List DPacket → List DItem → List DHeld → List ByteArray → List DPacket → Option (DActed)
  | 0, _, _, _, _, _, _, _, _, _, _, _, _, _, _, _, _, _, _, _, _, _, _, _, _, _, _, _, _, _, _, _, _, _, _, _, _, _, _, _ => none
  | k + 1, x0, x1, x2, x3, x4, x5, x6, x7, x8, x9, x10, x11, x12, x13, x14, x15, x16, x17, x18, x19, x20, x21, x22, x23, x24, x25, x26, x27, x28, x29, x30, x31, x32, x33, x34, x35, x36, x37, x38 =>
    bif (x3 != x23) then
      some (⟨x20, (⟨x21, x22, x23, x24, x25, true, (⟨x27, x35⟩ : DSend), (⟨x28, x36, x29, x37⟩ : DTake)⟩ : DEnd), x38, x30⟩ : DActed)
    else
      bif (x0 == 1) then
        (impl_SendWord k (⟨x27, x35⟩ : DSend) x4 x5).bind fun r4 =>
        impl_EndTake_l16 k x9 x10 x11 x12 x13 x14 x15 x16 x17 x18 x19 x20 x21 x22 x23 x24 x25 x26 r4.Base x28 x29 x30 x31 x32 x33 x34 r4.Items x36 x37 x38
      else
        (impl_TakePart k (⟨x28, x36, x29, x37⟩ : DTake) x6 (⟨x8, x7⟩ : DPart)).bind fun r5 =>
        impl_EndTake_l16 k x9 x10 x11 x12 x13 x14 x15 x16 x17 x18 x19 x20 x21 x22 x23 x24 x25 true x27 r5.Next r5.Open x30 x31 x32 x33 x34 x35 r5.Held r5.Ready x38
def impl_EndTake_l16 : Nat → Int → Int → Bool → Int → Int → Int → Bool → Int → Int → ByteArray → ByteArray → Int → Int → Bool → Int → Int → Int → Bool → Int → Int → ByteArray → ByteArray → List DItem → List DHeld → List ByteArray → List DPacket → List DItem → List DHeld → List ByteArray → List DPacket → Option (DActed)
  | 0, _, _, _, _, _, _, _, _, _, _, _, _, _, _, _, _, _, _, _, _, _, _, _, _, _, _, _, _, _, _ => none
  | k + 1, x0, x1, x2, x3, x4, x5, x6, x7, x8, x9, x10, x11, x12, x13, x14, x15, x16, x17, x18, x19, x20, x21, x22, x23, x24, x25, x26, x27, x28, x29 =>
    some (⟨x11, (⟨x12, x13, x14, x15, x16, x17, (⟨x18, x26⟩ : DSend), (⟨x19, x27, x20, x28⟩ : DTake)⟩ : DEnd), x29, x21⟩ : DActed)
end
def impl_EndTake (k : Nat) (a0 : DEnd) (a1 : DPacket) : Option (DActed) :=
  (impl_ValidEnd k a0).bind fun r1 =>
  bif (!r1) then
    some (⟨1, (⟨0, false, 0, 0, 0, false, (⟨0, ([] : List DItem)⟩ : DSend), (⟨0, ([] : List DHeld), (⟨#[]⟩ : ByteArray), ([] : List ByteArray)⟩ : DTake)⟩ : DEnd), ([] : List DPacket), (⟨#[]⟩ : ByteArray)⟩ : DActed)
  else
    (impl_copyEnd k a0).bind fun r2 =>
    bif (!r2.Up) then
      some (⟨0, r2, ([] : List DPacket), (⟨#[]⟩ : ByteArray)⟩ : DActed)
    else
      (impl_validPacket k a1).bind fun r3 =>
      bif (!r3) then
        some (⟨0, r2, ([] : List DPacket), (⟨#[]⟩ : ByteArray)⟩ : DActed)
      else
        bif (a1.From == r2.Number) then
          some (⟨0, r2, ([] : List DPacket), (⟨#[]⟩ : ByteArray)⟩ : DActed)
        else
          bif (decide (a1.Mine < r2.Peer)) then
            some (⟨0, r2, ([] : List DPacket), (⟨#[]⟩ : ByteArray)⟩ : DActed)
          else
            bif (decide (a1.Mine > r2.Peer)) then
              impl_EndTake_l9 k a1.Kind a1.From a1.Mine a1.Yours a1.Next a1.Mask a1.Seq a1.Last a1.Part 0 0 false 0 0 0 false 0 0 (⟨#[]⟩ : ByteArray) (⟨#[]⟩ : ByteArray) 0 r2.Number r2.Up r2.Life a1.Mine r2.Since true 0 0 (⟨#[]⟩ : ByteArray) (⟨#[]⟩ : ByteArray) ([] : List DItem) ([] : List DHeld) ([] : List ByteArray) ([] : List DPacket) ([] : List DItem) ([] : List DHeld) ([] : List ByteArray) ([] : List DPacket)
            else
              impl_EndTake_l9 k a1.Kind a1.From a1.Mine a1.Yours a1.Next a1.Mask a1.Seq a1.Last a1.Part 0 0 false 0 0 0 false 0 0 (⟨#[]⟩ : ByteArray) (⟨#[]⟩ : ByteArray) 0 r2.Number r2.Up r2.Life r2.Peer r2.Since r2.Owes r2.Send.Base r2.Take.Next r2.Take.Open (⟨#[]⟩ : ByteArray) ([] : List DItem) ([] : List DHeld) ([] : List ByteArray) ([] : List DPacket) r2.Send.Items r2.Take.Held r2.Take.Ready ([] : List DPacket)
mutual
def spec_EndTick_l9 : Nat → Int → Int → Bool → Int → Int → Int → Bool → Int → Int → ByteArray → ByteArray → Int → Bool → Int → Int → Int → Bool → Int → Int → ByteArray → List DPacket → List DItem → List DHeld → List ByteArray → List DPacket → List DItem → List DHeld → List ByteArray → Option (DActed)
  | 0, _, _, _, _, _, _, _, _, _, _, _, _, _, _, _, _, _, _, _, _, _, _, _, _, _, _, _, _ => none
  | k + 1, x0, x1, x2, x3, x4, x5, x6, x7, x8, x9, x10, x11, x12, x13, x14, x15, x16, x17, x18, x19, x20, x21, x22, x23, x24, x25, x26, x27 =>
    bif (x14 != 0) then
      (spec_SendTick k (⟨x17, x25⟩ : DSend)).bind fun r3 =>
      spec_EndTick_l13 k 0 x0 x1 x2 x3 x4 x5 x6 x7 x8 x9 x10 x11 x12 x13 x14 x15 x16 r3.1.Base x18 x19 x20 r3.1.Base r3.2 x21 x22 x23 x24 r3.1.Items x26 x27
    else
      spec_EndTick_l17 k x0 x1 x2 x3 x4 x5 x6 x7 x8 x9 x10 x11 x12 x13 x14 x15 x16 x17 x18 x19 x20 x21 x22 x23 x24 x25 x26 x27
def spec_EndTick_l13 : Nat → Int → Int → Int → Bool → Int → Int → Int → Bool → Int → Int → ByteArray → ByteArray → Int → Bool → Int → Int → Int → Bool → Int → Int → ByteArray → List DPacket → Int → List Int → List DItem → List DHeld → List ByteArray → List DPacket → List DItem → List DHeld → List ByteArray → Option (DActed)
  | 0, _, _, _, _, _, _, _, _, _, _, _, _, _, _, _, _, _, _, _, _, _, _, _, _, _, _, _, _, _, _, _ => none
  | k + 1, x0, x1, x2, x3, x4, x5, x6, x7, x8, x9, x10, x11, x12, x13, x14, x15, x16, x17, x18, x19, x20, x21, x22, x23, x24, x25, x26, x27, x28, x29, x30 =>
    bif (decide (x0 < (x23.length : Int))) then
      (idx x23 x0).bind fun _ =>
      (x23[(Int.toNat x0)]?).bind fun y4 =>
      (idx x28 (IntKind.wrap .i64 (y4 - x22))).bind fun _ =>
      (x28[(Int.toNat (IntKind.wrap .i64 (y4 - x22)))]?).bind fun y5 =>
      (idx x23 x0).bind fun _ =>
      (x23[(Int.toNat x0)]?).bind fun y6 =>
      (app 80 x21 ([(⟨2, x12, x14, x15, 0, 0, y6, y5.Part.Last, y5.Part.Text⟩ : DPacket)] : List DPacket)).bind fun l7 =>
      spec_EndTick_l13 k (IntKind.wrap .i64 (x0 + 1)) x1 x2 x3 x4 x5 x6 x7 x8 x9 x10 x11 x12 x13 x14 x15 x16 x17 x18 x19 x20 l7 x22 x23 x24 x25 x26 x27 x28 x29 x30
    else
      spec_EndTick_l17 k x1 x2 x3 x4 x5 x6 x7 x8 x9 x10 x11 x12 x13 x14 x15 x16 x17 x18 x19 x20 x21 x24 x25 x26 x27 x28 x29 x30
def spec_EndTick_l17 : Nat → Int → Int → Bool → Int → Int → Int → Bool → Int → Int → ByteArray → ByteArray → Int → Bool → Int → Int → Int → Bool → Int → Int → ByteArray → List DPacket → List DItem → List DHeld → List ByteArray → List DPacket → List DItem → List DHeld → List ByteArray → Option (DActed)
  | 0, _, _, _, _, _, _, _, _, _, _, _, _, _, _, _, _, _, _, _, _, _, _, _, _, _, _, _, _ => none
  | k + 1, x0, x1, x2, x3, x4, x5, x6, x7, x8, x9, x10, x11, x12, x13, x14, x15, x16, x17, x18, x19, x20, x21, x22, x23, x24, x25, x26, x27 =>
    bif x16 then
      (spec_TakeWord k (⟨x18, x26, x19, x27⟩ : DTake)).bind fun r8 =>
      (app 80 x20 ([(⟨1, x11, x13, x14, r8.1, r8.2, 0, false, (⟨#[]⟩ : ByteArray)⟩ : DPacket)] : List DPacket)).bind fun l9 =>
      spec_EndTick_l22 k x0 x1 x2 x3 x4 x5 x6 x7 x8 x9 x10 x11 x12 x13 x14 0 false x17 x18 x19 l9 x21 x22 x23 x24 x25 x26 x27
    else
      bif (decide (x15 ≥ 6)) then
        (spec_TakeWord k (⟨x18, x26, x19, x27⟩ : DTake)).bind fun r10 =>
        (app 80 x20 ([(⟨1, x11, x13, x14, r10.1, r10.2, 0, false, (⟨#[]⟩ : ByteArray)⟩ : DPacket)] : List DPacket)).bind fun l11 =>
        spec_EndTick_l22 k x0 x1 x2 x3 x4 x5 x6 x7 x8 x9 x10 x11 x12 x13 x14 0 false x17 x18 x19 l11 x21 x22 x23 x24 x25 x26 x27
      else
        spec_EndTick_l22 k x0 x1 x2 x3 x4 x5 x6 x7 x8 x9 x10 x11 x12 x13 x14 x15 x16 x17 x18 x19 x20 x21 x22 x23 x24 x25 x26 x27
def spec_EndTick_l22 : Nat → Int → Int → Bool → Int → Int → Int → Bool → Int → Int → ByteArray → ByteArray → Int → Bool → Int → Int → Int → Bool → Int → Int → ByteArray → List DPacket → List DItem → List DHeld → List ByteArray → List DPacket → List DItem → List DHeld → List ByteArray → Option (DActed)
  | 0, _, _, _, _, _, _, _, _, _, _, _, _, _, _, _, _, _, _, _, _, _, _, _, _, _, _, _, _ => none
  | k + 1, x0, x1, x2, x3, x4, x5, x6, x7, x8, x9, x10, x11, x12, x13, x14, x15, x16, x17, x18, x19, x20, x21, x22, x23, x24, x25, x26, x27 =>
    some (⟨0, (⟨x11, x12, x13, x14, x15, x16, (⟨x17, x25⟩ : DSend), (⟨x18, x26, x19, x27⟩ : DTake)⟩ : DEnd), x20, (⟨#[]⟩ : ByteArray)⟩ : DActed)
end
def spec_EndTick (k : Nat) (a0 : DEnd) : Option (DActed) :=
  (spec_ValidEnd k a0).bind fun r1 =>
  bif (!r1) then
    some (⟨1, (⟨0, false, 0, 0, 0, false, (⟨0, ([] : List DItem)⟩ : DSend), (⟨0, ([] : List DHeld), (⟨#[]⟩ : ByteArray), ([] : List ByteArray)⟩ : DTake)⟩ : DEnd), ([] : List DPacket), (⟨#[]⟩ : ByteArray)⟩ : DActed)
  else
    (spec_l6Copy k a0).bind fun r2 =>
    bif (!r2.Up) then
      some (⟨0, r2, ([] : List DPacket), (⟨#[]⟩ : ByteArray)⟩ : DActed)
    else
      bif (decide (r2.Since < 1000000)) then
        spec_EndTick_l9 k 0 0 false 0 0 0 false 0 0 (⟨#[]⟩ : ByteArray) (⟨#[]⟩ : ByteArray) r2.Number r2.Up r2.Life r2.Peer (IntKind.wrap .i64 (r2.Since + 1)) r2.Owes r2.Send.Base r2.Take.Next r2.Take.Open ([] : List DPacket) ([] : List DItem) ([] : List DHeld) ([] : List ByteArray) ([] : List DPacket) r2.Send.Items r2.Take.Held r2.Take.Ready
      else
        spec_EndTick_l9 k 0 0 false 0 0 0 false 0 0 (⟨#[]⟩ : ByteArray) (⟨#[]⟩ : ByteArray) r2.Number r2.Up r2.Life r2.Peer r2.Since r2.Owes r2.Send.Base r2.Take.Next r2.Take.Open ([] : List DPacket) ([] : List DItem) ([] : List DHeld) ([] : List ByteArray) ([] : List DPacket) r2.Send.Items r2.Take.Held r2.Take.Ready
def spec_EndFall (k : Nat) (a0 : DEnd) : Option (DEnd) :=
  (spec_ValidEnd k a0).bind fun r1 =>
  bif (!r1) then
    some (⟨0, false, 0, 0, 0, false, (⟨0, ([] : List DItem)⟩ : DSend), (⟨0, ([] : List DHeld), (⟨#[]⟩ : ByteArray), ([] : List ByteArray)⟩ : DTake)⟩ : DEnd)
  else
    some (⟨a0.Number, false, a0.Life, 0, 0, false, (⟨0, ([] : List DItem)⟩ : DSend), (⟨0, ([] : List DHeld), (⟨#[]⟩ : ByteArray), ([] : List ByteArray)⟩ : DTake)⟩ : DEnd)
def spec_EndRise (k : Nat) (a0 : DEnd) : Option (DEnd) :=
  (spec_ValidEnd k a0).bind fun r1 =>
  bif (!r1) then
    some (⟨0, false, 0, 0, 0, false, (⟨0, ([] : List DItem)⟩ : DSend), (⟨0, ([] : List DHeld), (⟨#[]⟩ : ByteArray), ([] : List ByteArray)⟩ : DTake)⟩ : DEnd)
  else
    bif a0.Up then
      (spec_l6Copy k a0).bind fun r2 =>
      some r2
    else
      bif (decide (a0.Life ≥ 1000)) then
        (spec_l6Copy k a0).bind fun r3 =>
        some r3
      else
        some (⟨a0.Number, true, (IntKind.wrap .i64 (a0.Life + 1)), 0, 0, false, (⟨0, ([] : List DItem)⟩ : DSend), (⟨0, ([] : List DHeld), (⟨#[]⟩ : ByteArray), ([] : List ByteArray)⟩ : DTake)⟩ : DEnd)
def spec_EndPush (k : Nat) (a0 : DEnd) (a1 : ByteArray) : Option (DActed) :=
  (spec_ValidEnd k a0).bind fun r1 =>
  bif (!r1) then
    some (⟨1, (⟨0, false, 0, 0, 0, false, (⟨0, ([] : List DItem)⟩ : DSend), (⟨0, ([] : List DHeld), (⟨#[]⟩ : ByteArray), ([] : List ByteArray)⟩ : DTake)⟩ : DEnd), ([] : List DPacket), (⟨#[]⟩ : ByteArray)⟩ : DActed)
  else
    bif (!a0.Up) then
      some (⟨2, (⟨0, false, 0, 0, 0, false, (⟨0, ([] : List DItem)⟩ : DSend), (⟨0, ([] : List DHeld), (⟨#[]⟩ : ByteArray), ([] : List ByteArray)⟩ : DTake)⟩ : DEnd), ([] : List DPacket), (⟨#[]⟩ : ByteArray)⟩ : DActed)
    else
      bif (a0.Peer == 0) then
        some (⟨2, (⟨0, false, 0, 0, 0, false, (⟨0, ([] : List DItem)⟩ : DSend), (⟨0, ([] : List DHeld), (⟨#[]⟩ : ByteArray), ([] : List ByteArray)⟩ : DTake)⟩ : DEnd), ([] : List DPacket), (⟨#[]⟩ : ByteArray)⟩ : DActed)
      else
        (spec_SendPush k a0.Send a1).bind fun r2 =>
        bif (r2.2 != 0) then
          some (⟨r2.2, (⟨0, false, 0, 0, 0, false, (⟨0, ([] : List DItem)⟩ : DSend), (⟨0, ([] : List DHeld), (⟨#[]⟩ : ByteArray), ([] : List ByteArray)⟩ : DTake)⟩ : DEnd), ([] : List DPacket), (⟨#[]⟩ : ByteArray)⟩ : DActed)
        else
          (spec_l6Copy k a0).bind fun r3 =>
          some (⟨0, (⟨r3.Number, r3.Up, r3.Life, r3.Peer, r3.Since, r3.Owes, r2.1, r3.Take⟩ : DEnd), ([] : List DPacket), (⟨#[]⟩ : ByteArray)⟩ : DActed)
def spec_EndPull (k : Nat) (a0 : DEnd) : Option (DActed) :=
  (spec_ValidEnd k a0).bind fun r1 =>
  bif (!r1) then
    some (⟨1, (⟨0, false, 0, 0, 0, false, (⟨0, ([] : List DItem)⟩ : DSend), (⟨0, ([] : List DHeld), (⟨#[]⟩ : ByteArray), ([] : List ByteArray)⟩ : DTake)⟩ : DEnd), ([] : List DPacket), (⟨#[]⟩ : ByteArray)⟩ : DActed)
  else
    bif (!a0.Up) then
      some (⟨2, (⟨0, false, 0, 0, 0, false, (⟨0, ([] : List DItem)⟩ : DSend), (⟨0, ([] : List DHeld), (⟨#[]⟩ : ByteArray), ([] : List ByteArray)⟩ : DTake)⟩ : DEnd), ([] : List DPacket), (⟨#[]⟩ : ByteArray)⟩ : DActed)
    else
      (spec_TakePull k a0.Take).bind fun r2 =>
      bif (!r2.2.2) then
        some (⟨4, (⟨0, false, 0, 0, 0, false, (⟨0, ([] : List DItem)⟩ : DSend), (⟨0, ([] : List DHeld), (⟨#[]⟩ : ByteArray), ([] : List ByteArray)⟩ : DTake)⟩ : DEnd), ([] : List DPacket), (⟨#[]⟩ : ByteArray)⟩ : DActed)
      else
        (spec_l6Copy k a0).bind fun r3 =>
        some (⟨0, (⟨r3.Number, r3.Up, r3.Life, r3.Peer, r3.Since, true, r3.Send, r2.1⟩ : DEnd), ([] : List DPacket), r2.2.1⟩ : DActed)
mutual
def impl_EndTick_l9 : Nat → Int → Int → Bool → Int → Int → Int → Bool → Int → Int → ByteArray → ByteArray → Int → Int → Bool → Int → Int → Int → Bool → Int → Int → ByteArray → ByteArray → List DItem → List DHeld → List ByteArray → List DPacket → List DItem → List DHeld → List ByteArray → List DPacket → Option (DActed)
  | 0, _, _, _, _, _, _, _, _, _, _, _, _, _, _, _, _, _, _, _, _, _, _, _, _, _, _, _, _, _, _ => none
  | k + 1, x0, x1, x2, x3, x4, x5, x6, x7, x8, x9, x10, x11, x12, x13, x14, x15, x16, x17, x18, x19, x20, x21, x22, x23, x24, x25, x26, x27, x28, x29 =>
    bif (x15 != 0) then
      (impl_SendTick k (⟨x18, x26⟩ : DSend)).bind fun r3 =>
      impl_EndTick_l13 k (r3.2.length : Int) 0 x0 x1 x2 x3 x4 x5 x6 x7 x8 x9 x10 x11 x12 x13 x14 x15 x16 x17 r3.1.Base x19 x20 x21 r3.2 x22 x23 x24 x25 r3.1.Items x27 x28 x29
    else
      impl_EndTick_l18 k x0 x1 x2 x3 x4 x5 x6 x7 x8 x9 x10 x11 x12 x13 x14 x15 x16 x17 x18 x19 x20 x21 x22 x23 x24 x25 x26 x27 x28 x29
def impl_EndTick_l13 : Nat → Int → Int → Int → Int → Bool → Int → Int → Int → Bool → Int → Int → ByteArray → ByteArray → Int → Int → Bool → Int → Int → Int → Bool → Int → Int → ByteArray → ByteArray → List Int → List DItem → List DHeld → List ByteArray → List DPacket → List DItem → List DHeld → List ByteArray → List DPacket → Option (DActed)
  | 0, _, _, _, _, _, _, _, _, _, _, _, _, _, _, _, _, _, _, _, _, _, _, _, _, _, _, _, _, _, _, _, _, _ => none
  | k + 1, x0, x1, x2, x3, x4, x5, x6, x7, x8, x9, x10, x11, x12, x13, x14, x15, x16, x17, x18, x19, x20, x21, x22, x23, x24, x25, x26, x27, x28, x29, x30, x31, x32 =>
    bif (decide (x1 < x0)) then
      (idx x24 x1).bind fun _ =>
      (x24[(Int.toNat x1)]?).bind fun y4 =>
      (idx x29 (IntKind.wrap .i64 (y4 - x20))).bind fun _ =>
      (x29[(Int.toNat (IntKind.wrap .i64 (y4 - x20)))]?).bind fun y5 =>
      (app 80 x32 ([(⟨2, x14, x16, x17, 0, 0, y4, y5.Part.Last, y5.Part.Text⟩ : DPacket)] : List DPacket)).bind fun l6 =>
      impl_EndTick_l13 k x0 (IntKind.wrap .i64 (x1 + 1)) x2 x3 x4 x5 x6 x7 x8 x9 x10 x11 x12 x13 x14 x15 x16 x17 x18 x19 x20 x21 x22 x23 x24 x25 x26 x27 x28 x29 x30 x31 l6
    else
      impl_EndTick_l18 k x2 x3 x4 x5 x6 x7 x8 x9 x10 x11 x12 x13 x14 x15 x16 x17 x18 x19 x20 x21 x22 x23 x25 x26 x27 x28 x29 x30 x31 x32
def impl_EndTick_l18 : Nat → Int → Int → Bool → Int → Int → Int → Bool → Int → Int → ByteArray → ByteArray → Int → Int → Bool → Int → Int → Int → Bool → Int → Int → ByteArray → ByteArray → List DItem → List DHeld → List ByteArray → List DPacket → List DItem → List DHeld → List ByteArray → List DPacket → Option (DActed)
  | 0, _, _, _, _, _, _, _, _, _, _, _, _, _, _, _, _, _, _, _, _, _, _, _, _, _, _, _, _, _, _ => none
  | k + 1, x0, x1, x2, x3, x4, x5, x6, x7, x8, x9, x10, x11, x12, x13, x14, x15, x16, x17, x18, x19, x20, x21, x22, x23, x24, x25, x26, x27, x28, x29 =>
    bif x17 then
      (impl_TakeWord k (⟨x19, x27, x20, x28⟩ : DTake)).bind fun r7 =>
      (app 80 x29 ([(⟨1, x12, x14, x15, r7.1, r7.2, 0, false, (⟨#[]⟩ : ByteArray)⟩ : DPacket)] : List DPacket)).bind fun l8 =>
      impl_EndTick_l22 k x0 x1 x2 x3 x4 x5 x6 x7 x8 x9 x10 x11 x12 x13 x14 x15 0 false x18 x19 x20 x21 x22 x23 x24 x25 x26 x27 x28 l8
    else
      bif (decide (x16 ≥ 6)) then
        (impl_TakeWord k (⟨x19, x27, x20, x28⟩ : DTake)).bind fun r9 =>
        (app 80 x29 ([(⟨1, x12, x14, x15, r9.1, r9.2, 0, false, (⟨#[]⟩ : ByteArray)⟩ : DPacket)] : List DPacket)).bind fun l10 =>
        impl_EndTick_l22 k x0 x1 x2 x3 x4 x5 x6 x7 x8 x9 x10 x11 x12 x13 x14 x15 0 false x18 x19 x20 x21 x22 x23 x24 x25 x26 x27 x28 l10
      else
        impl_EndTick_l22 k x0 x1 x2 x3 x4 x5 x6 x7 x8 x9 x10 x11 x12 x13 x14 x15 x16 x17 x18 x19 x20 x21 x22 x23 x24 x25 x26 x27 x28 x29
def impl_EndTick_l22 : Nat → Int → Int → Bool → Int → Int → Int → Bool → Int → Int → ByteArray → ByteArray → Int → Int → Bool → Int → Int → Int → Bool → Int → Int → ByteArray → ByteArray → List DItem → List DHeld → List ByteArray → List DPacket → List DItem → List DHeld → List ByteArray → List DPacket → Option (DActed)
  | 0, _, _, _, _, _, _, _, _, _, _, _, _, _, _, _, _, _, _, _, _, _, _, _, _, _, _, _, _, _, _ => none
  | k + 1, x0, x1, x2, x3, x4, x5, x6, x7, x8, x9, x10, x11, x12, x13, x14, x15, x16, x17, x18, x19, x20, x21, x22, x23, x24, x25, x26, x27, x28, x29 =>
    some (⟨x11, (⟨x12, x13, x14, x15, x16, x17, (⟨x18, x26⟩ : DSend), (⟨x19, x27, x20, x28⟩ : DTake)⟩ : DEnd), x29, x21⟩ : DActed)
end
def impl_EndTick (k : Nat) (a0 : DEnd) : Option (DActed) :=
  (impl_ValidEnd k a0).bind fun r1 =>
  bif (!r1) then
    some (⟨1, (⟨0, false, 0, 0, 0, false, (⟨0, ([] : List DItem)⟩ : DSend), (⟨0, ([] : List DHeld), (⟨#[]⟩ : ByteArray), ([] : List ByteArray)⟩ : DTake)⟩ : DEnd), ([] : List DPacket), (⟨#[]⟩ : ByteArray)⟩ : DActed)
  else
    (impl_copyEnd k a0).bind fun r2 =>
    bif (!r2.Up) then
      some (⟨0, r2, ([] : List DPacket), (⟨#[]⟩ : ByteArray)⟩ : DActed)
    else
      bif (decide (r2.Since < 1000000)) then
        impl_EndTick_l9 k 0 0 false 0 0 0 false 0 0 (⟨#[]⟩ : ByteArray) (⟨#[]⟩ : ByteArray) 0 r2.Number r2.Up r2.Life r2.Peer (IntKind.wrap .i64 (r2.Since + 1)) r2.Owes r2.Send.Base r2.Take.Next r2.Take.Open (⟨#[]⟩ : ByteArray) ([] : List DItem) ([] : List DHeld) ([] : List ByteArray) ([] : List DPacket) r2.Send.Items r2.Take.Held r2.Take.Ready ([] : List DPacket)
      else
        impl_EndTick_l9 k 0 0 false 0 0 0 false 0 0 (⟨#[]⟩ : ByteArray) (⟨#[]⟩ : ByteArray) 0 r2.Number r2.Up r2.Life r2.Peer r2.Since r2.Owes r2.Send.Base r2.Take.Next r2.Take.Open (⟨#[]⟩ : ByteArray) ([] : List DItem) ([] : List DHeld) ([] : List ByteArray) ([] : List DPacket) r2.Send.Items r2.Take.Held r2.Take.Ready ([] : List DPacket)
def impl_EndFall (k : Nat) (a0 : DEnd) : Option (DEnd) :=
  (impl_ValidEnd k a0).bind fun r1 =>
  bif (!r1) then
    some (⟨0, false, 0, 0, 0, false, (⟨0, ([] : List DItem)⟩ : DSend), (⟨0, ([] : List DHeld), (⟨#[]⟩ : ByteArray), ([] : List ByteArray)⟩ : DTake)⟩ : DEnd)
  else
    some (⟨a0.Number, false, a0.Life, 0, 0, false, (⟨0, ([] : List DItem)⟩ : DSend), (⟨0, ([] : List DHeld), (⟨#[]⟩ : ByteArray), ([] : List ByteArray)⟩ : DTake)⟩ : DEnd)
def impl_EndRise (k : Nat) (a0 : DEnd) : Option (DEnd) :=
  (impl_ValidEnd k a0).bind fun r1 =>
  bif (!r1) then
    some (⟨0, false, 0, 0, 0, false, (⟨0, ([] : List DItem)⟩ : DSend), (⟨0, ([] : List DHeld), (⟨#[]⟩ : ByteArray), ([] : List ByteArray)⟩ : DTake)⟩ : DEnd)
  else
    bif a0.Up then
      (impl_copyEnd k a0).bind fun r2 =>
      some r2
    else
      bif (a0.Life == 1000) then
        (impl_copyEnd k a0).bind fun r3 =>
        some r3
      else
        some (⟨a0.Number, true, (IntKind.wrap .i64 (a0.Life + 1)), 0, 0, false, (⟨0, ([] : List DItem)⟩ : DSend), (⟨0, ([] : List DHeld), (⟨#[]⟩ : ByteArray), ([] : List ByteArray)⟩ : DTake)⟩ : DEnd)
def impl_EndPush (k : Nat) (a0 : DEnd) (a1 : ByteArray) : Option (DActed) :=
  (impl_ValidEnd k a0).bind fun r1 =>
  bif (!r1) then
    some (⟨1, (⟨0, false, 0, 0, 0, false, (⟨0, ([] : List DItem)⟩ : DSend), (⟨0, ([] : List DHeld), (⟨#[]⟩ : ByteArray), ([] : List ByteArray)⟩ : DTake)⟩ : DEnd), ([] : List DPacket), (⟨#[]⟩ : ByteArray)⟩ : DActed)
  else
    bif (!a0.Up) then
      some (⟨2, (⟨0, false, 0, 0, 0, false, (⟨0, ([] : List DItem)⟩ : DSend), (⟨0, ([] : List DHeld), (⟨#[]⟩ : ByteArray), ([] : List ByteArray)⟩ : DTake)⟩ : DEnd), ([] : List DPacket), (⟨#[]⟩ : ByteArray)⟩ : DActed)
    else
      bif (a0.Peer == 0) then
        some (⟨2, (⟨0, false, 0, 0, 0, false, (⟨0, ([] : List DItem)⟩ : DSend), (⟨0, ([] : List DHeld), (⟨#[]⟩ : ByteArray), ([] : List ByteArray)⟩ : DTake)⟩ : DEnd), ([] : List DPacket), (⟨#[]⟩ : ByteArray)⟩ : DActed)
      else
        (impl_SendPush k a0.Send a1).bind fun r2 =>
        bif (r2.2 != 0) then
          some (⟨r2.2, (⟨0, false, 0, 0, 0, false, (⟨0, ([] : List DItem)⟩ : DSend), (⟨0, ([] : List DHeld), (⟨#[]⟩ : ByteArray), ([] : List ByteArray)⟩ : DTake)⟩ : DEnd), ([] : List DPacket), (⟨#[]⟩ : ByteArray)⟩ : DActed)
        else
          (impl_copyEnd k a0).bind fun r3 =>
          some (⟨0, (⟨r3.Number, r3.Up, r3.Life, r3.Peer, r3.Since, r3.Owes, r2.1, r3.Take⟩ : DEnd), ([] : List DPacket), (⟨#[]⟩ : ByteArray)⟩ : DActed)
def impl_EndPull (k : Nat) (a0 : DEnd) : Option (DActed) :=
  (impl_ValidEnd k a0).bind fun r1 =>
  bif (!r1) then
    some (⟨1, (⟨0, false, 0, 0, 0, false, (⟨0, ([] : List DItem)⟩ : DSend), (⟨0, ([] : List DHeld), (⟨#[]⟩ : ByteArray), ([] : List ByteArray)⟩ : DTake)⟩ : DEnd), ([] : List DPacket), (⟨#[]⟩ : ByteArray)⟩ : DActed)
  else
    bif (!a0.Up) then
      some (⟨2, (⟨0, false, 0, 0, 0, false, (⟨0, ([] : List DItem)⟩ : DSend), (⟨0, ([] : List DHeld), (⟨#[]⟩ : ByteArray), ([] : List ByteArray)⟩ : DTake)⟩ : DEnd), ([] : List DPacket), (⟨#[]⟩ : ByteArray)⟩ : DActed)
    else
      (impl_TakePull k a0.Take).bind fun r2 =>
      bif (!r2.2.2) then
        some (⟨4, (⟨0, false, 0, 0, 0, false, (⟨0, ([] : List DItem)⟩ : DSend), (⟨0, ([] : List DHeld), (⟨#[]⟩ : ByteArray), ([] : List ByteArray)⟩ : DTake)⟩ : DEnd), ([] : List DPacket), (⟨#[]⟩ : ByteArray)⟩ : DActed)
      else
        (impl_copyEnd k a0).bind fun r3 =>
        some (⟨0, (⟨r3.Number, r3.Up, r3.Life, r3.Peer, r3.Since, true, r3.Send, r2.1⟩ : DEnd), ([] : List DPacket), r2.2.1⟩ : DActed)
end Km.X
namespace Km.X
open Go Km
set_option linter.unusedVariables false
set_option maxRecDepth 100000
noncomputable def spec_NewWorld (k : Nat) (a0 : ByteArray) (a1 : Int) : Option (DWorld) :=
  (spec_l1In k a1 1 8).bind fun r1 =>
  bif (!r1) then
    some (⟨(⟨#[]⟩ : ByteArray), 0, ([] : List DEnd), ([] : List DParcel), (⟨#[]⟩ : ByteArray), ([] : List DRecord), ([] : List DRecord)⟩ : DWorld)
  else
    bif (decide ((a0.size : Int) > 30)) then
      some (⟨(⟨#[]⟩ : ByteArray), 0, ([] : List DEnd), ([] : List DParcel), (⟨#[]⟩ : ByteArray), ([] : List DRecord), ([] : List DRecord)⟩ : DWorld)
    else
      (spec_NewEnd k 1).bind fun r2 =>
      (spec_NewEnd k 2).bind fun r3 =>
      some (⟨a0, a1, ([r2, r3] : List DEnd), ([] : List DParcel), (⟨#[]⟩ : ByteArray), ([] : List DRecord), ([] : List DRecord)⟩ : DWorld)
noncomputable def spec_l7RecordsOk_l2 : Nat → List DRecord → Int → Option (Bool)
  | 0, _, _ => none
  | k + 1, x0, x1 =>
    bif (decide (x1 < (x0.length : Int))) then
      (idx x0 x1).bind fun y1 =>
      (spec_l1In k y1.From 1 2).bind fun r2 =>
      bif (!r2) then
        some false
      else
        (spec_l1In k y1.A 1 1000).bind fun r3 =>
        bif (!r3) then
          some false
        else
          (spec_l1In k y1.B 1 1000).bind fun r4 =>
          bif (!r4) then
            some false
          else
            bif (decide ((y1.Text.size : Int) > 200)) then
              some false
            else
              spec_l7RecordsOk_l2 k x0 (IntKind.wrap .i64 (x1 + 1))
    else
      some true
noncomputable def spec_l7RecordsOk (k : Nat) (a0 : List DRecord) : Option (Bool) :=
  spec_l7RecordsOk_l2 k a0 0
mutual
noncomputable def spec_ValidWorld_l4 : Nat → Int → ByteArray → Int → List DEnd → List DParcel → ByteArray → List DRecord → List DRecord → Option (Bool)
  | 0, _, _, _, _, _, _, _, _ => none
  | k + 1, x0, x1, x2, x3, x4, x5, x6, x7 =>
    bif (decide (x0 < 2)) then
      (idx x3 x0).bind fun y2 =>
      (spec_ValidEnd k y2).bind fun r3 =>
      bif (!r3) then
        some false
      else
        (idx x3 x0).bind fun y4 =>
        bif (y4.Number != (IntKind.wrap .i64 (x0 + 1))) then
          some false
        else
          spec_ValidWorld_l4 k (IntKind.wrap .i64 (x0 + 1)) x1 x2 x3 x4 x5 x6 x7
    else
      spec_ValidWorld_l9 k 0 x1 x2 x3 x4 x5 x6 x7
noncomputable def spec_ValidWorld_l9 : Nat → Int → ByteArray → Int → List DEnd → List DParcel → ByteArray → List DRecord → List DRecord → Option (Bool)
  | 0, _, _, _, _, _, _, _, _ => none
  | k + 1, x0, x1, x2, x3, x4, x5, x6, x7 =>
    bif (decide (x0 < (x4.length : Int))) then
      (idx x4 x0).bind fun y5 =>
      (spec_l1In k y5.To 1 2).bind fun r6 =>
      bif (!r6) then
        some false
      else
        bif (decide ((y5.Sent.size : Int) > 100)) then
          some false
        else
          bif (decide ((y5.Bytes.size : Int) > 100)) then
            some false
          else
            spec_ValidWorld_l9 k (IntKind.wrap .i64 (x0 + 1)) x1 x2 x3 x4 x5 x6 x7
    else
      (spec_l7RecordsOk k x6).bind fun r7 =>
      bif r7 then
        (spec_l7RecordsOk k x7).bind fun r8 =>
        some r8
      else
        some false
end
noncomputable def spec_ValidWorld (k : Nat) (a0 : DWorld) : Option (Bool) :=
  (spec_l1In k a0.Width 1 8).bind fun r1 =>
  bif (!r1) then
    some false
  else
    bif (decide ((a0.Key.size : Int) > 30)) then
      some false
    else
      bif ((a0.Ends.length : Int) != 2) then
        some false
      else
        bif (decide ((a0.Flight.length : Int) > 1000)) then
          some false
        else
          bif (decide ((IntKind.wrap .i64 ((a0.Given.length : Int) + (a0.Taken.length : Int))) > 400)) then
            some false
          else
            spec_ValidWorld_l4 k 0 a0.Key a0.Width a0.Ends a0.Flight a0.Forged a0.Given a0.Taken
noncomputable def spec_l7Copy_l4 : Nat → Int → ByteArray → Int → List DEnd → List DParcel → ByteArray → List DRecord → List DRecord → ByteArray → Int → ByteArray → ByteArray → Int → List DParcel → ByteArray → List DRecord → List DRecord → List DEnd → List DParcel → List DRecord → List DRecord → List DEnd → Option (DWorld)
  | 0, _, _, _, _, _, _, _, _, _, _, _, _, _, _, _, _, _, _, _, _, _, _ => none
  | k + 1, x0, x1, x2, x3, x4, x5, x6, x7, x8, x9, x10, x11, x12, x13, x14, x15, x16, x17, x18, x19, x20, x21 =>
    bif (decide (x0 < (x3.length : Int))) then
      (idx x3 x0).bind fun y1 =>
      (spec_l6Copy k y1).bind fun r2 =>
      (app 152 x21 ([r2] : List DEnd)).bind fun l3 =>
      spec_l7Copy_l4 k (IntKind.wrap .i64 (x0 + 1)) x1 x2 x3 x4 x5 x6 x7 x8 x9 x10 x11 x12 x13 x14 x15 x16 x17 x18 x19 x20 l3
    else
      (app 40 ([] : List DParcel) x4).bind fun l4 =>
      (app 40 ([] : List DRecord) x6).bind fun l5 =>
      (app 40 ([] : List DRecord) x7).bind fun l6 =>
      some (⟨x11, x12, x21, l4, x14, l5, l6⟩ : DWorld)
noncomputable def spec_l7Copy (k : Nat) (a0 : DWorld) : Option (DWorld) :=
  spec_l7Copy_l4 k 0 a0.Key a0.Width a0.Ends a0.Flight a0.Forged a0.Given a0.Taken (⟨#[]⟩ : ByteArray) 0 (⟨#[]⟩ : ByteArray) a0.Key a0.Width a0.Flight a0.Forged a0.Given a0.Taken ([] : List DEnd) ([] : List DParcel) ([] : List DRecord) ([] : List DRecord) ([] : List DEnd)
mutual
noncomputable def spec_l7Tick_l2 : Nat → Int → ByteArray → Int → ByteArray → ByteArray → Int → ByteArray → List DEnd → List DParcel → List DRecord → List DRecord → List DEnd → List DParcel → List DRecord → List DRecord → Option (DWorld)
  | 0, _, _, _, _, _, _, _, _, _, _, _, _, _, _, _ => none
  | k + 1, x0, x1, x2, x3, x4, x5, x6, x7, x8, x9, x10, x11, x12, x13, x14 =>
    bif (decide (x0 < 2)) then
      (idx x7 x0).bind fun _ =>
      (x7[(Int.toNat x0)]?).bind fun y1 =>
      (spec_EndTick k y1).bind fun r2 =>
      (idx x7 x0).bind fun _ =>
      (x7[(Int.toNat x0)]?).bind fun y3 =>
      spec_l7Tick_l7 k x0 0 x1 x2 x3 x4 x5 x6 r2.Code r2.End.Number r2.End.Up r2.End.Life r2.End.Peer r2.End.Since r2.End.Owes r2.End.Send.Base r2.End.Take.Next r2.End.Take.Open r2.Text (x7.set (Int.toNat x0) r2.End) x8 x9 x10 x11 x12 x13 x14 r2.Out
    else
      some (⟨x1, x2, x7, x8, x3, x9, x10⟩ : DWorld)
noncomputable def spec_l7Tick_l7 : Nat → Int → Int → ByteArray → Int → ByteArray → ByteArray → Int → ByteArray → Int → Int → Bool → Int → Int → Int → Bool → Int → Int → ByteArray → ByteArray → List DEnd → List DParcel → List DRecord → List DRecord → List DEnd → List DParcel → List DRecord → List DRecord → List DPacket → Option (DWorld)
  | 0, _, _, _, _, _, _, _, _, _, _, _, _, _, _, _, _, _, _, _, _, _, _, _, _, _, _, _, _ => none
  | k + 1, x0, x1, x2, x3, x4, x5, x6, x7, x8, x9, x10, x11, x12, x13, x14, x15, x16, x17, x18, x19, x20, x21, x22, x23, x24, x25, x26, x27 =>
    bif (decide (x1 < (x27.length : Int))) then
      bif (decide ((x20.length : Int) < 1000)) then
        (idx x27 x1).bind fun _ =>
        (x27[(Int.toNat x1)]?).bind fun y4 =>
        (spec_FormPacket k y4 x2 x3).bind fun r5 =>
        (app 40 x20 ([(⟨(IntKind.wrap .i64 (2 - x0)), r5, r5⟩ : DParcel)] : List DParcel)).bind fun l6 =>
        spec_l7Tick_l7 k x0 (IntKind.wrap .i64 (x1 + 1)) x2 x3 x4 x5 x6 x7 x8 x9 x10 x11 x12 x13 x14 x15 x16 x17 x18 x19 l6 x21 x22 x23 x24 x25 x26 x27
      else
        spec_l7Tick_l2 k (IntKind.wrap .i64 (x0 + 1)) x2 x3 x4 x5 x6 x7 x19 x20 x21 x22 x23 x24 x25 x26
    else
      spec_l7Tick_l2 k (IntKind.wrap .i64 (x0 + 1)) x2 x3 x4 x5 x6 x7 x19 x20 x21 x22 x23 x24 x25 x26
end
noncomputable def spec_l7Tick (k : Nat) (a0 : DWorld) : Option (DWorld) :=
  spec_l7Tick_l2 k 0 a0.Key a0.Width a0.Forged (⟨#[]⟩ : ByteArray) 0 (⟨#[]⟩ : ByteArray) a0.Ends a0.Flight a0.Given a0.Taken ([] : List DEnd) ([] : List DParcel) ([] : List DRecord) ([] : List DRecord)
noncomputable def spec_l7Passes_l2 : Nat → Int → Int → List DL7Count → Int → ByteArray → ByteArray → Option (List DL7Count × Bool)
  | 0, _, _, _, _, _, _ => none
  | k + 1, x0, x1, x2, x3, x4, x5 =>
    bif (decide (x1 < (x2.length : Int))) then
      (idx x2 x1).bind fun _ =>
      (x2[(Int.toNat x1)]?).bind fun y1 =>
      bif (y1.to == x3) then
        (idx x2 x1).bind fun _ =>
        (x2[(Int.toNat x1)]?).bind fun y2 =>
        bif (y2.bytes.toList == x5.toList) then
          (idx x2 x1).bind fun _ =>
          (x2[(Int.toNat x1)]?).bind fun y3 =>
          (idx x2 x1).bind fun _ =>
          (x2[(Int.toNat x1)]?).bind fun y4 =>
          (idx (x2.set (Int.toNat x1) (⟨y4.to, y4.bytes, (IntKind.wrap .i64 (y3.n + 1))⟩ : DL7Count)) x1).bind fun _ =>
          ((x2.set (Int.toNat x1) (⟨y4.to, y4.bytes, (IntKind.wrap .i64 (y3.n + 1))⟩ : DL7Count))[(Int.toNat x1)]?).bind fun y5 =>
          (qrem y5.n x0).bind fun q6 =>
          some ((x2.set (Int.toNat x1) (⟨y4.to, y4.bytes, (IntKind.wrap .i64 (y3.n + 1))⟩ : DL7Count)), (q6 == 0))
        else
          spec_l7Passes_l2 k x0 (IntKind.wrap .i64 (x1 + 1)) x2 x3 x4 x5
      else
        spec_l7Passes_l2 k x0 (IntKind.wrap .i64 (x1 + 1)) x2 x3 x4 x5
    else
      (app 32 x2 ([(⟨x3, x5, 1⟩ : DL7Count)] : List DL7Count)).bind fun l7 =>
      some (l7, (x0 == 1))
noncomputable def spec_l7Passes (k : Nat) (a0 : List DL7Count) (a1 : DParcel) (a2 : Int) : Option (List DL7Count × Bool) :=
  spec_l7Passes_l2 k a2 0 a0 a1.To a1.Sent a1.Bytes
noncomputable def spec_l7Without (k : Nat) (a0 : List DParcel) (a1 : Int) : Option (List DParcel) :=
  (wnd a0.length 0 a1).bind fun p1 =>
  (app 40 ([] : List DParcel) (dcut a0 p1.1 p1.2)).bind fun l2 =>
  (wnd a0.length (IntKind.wrap .i64 (a1 + 1)) (a0.length : Int)).bind fun p3 =>
  (app 40 l2 (dcut a0 p3.1 p3.2)).bind fun l4 =>
  some l4
noncomputable def spec_l7Bring_l8 : Nat → ByteArray → Int → ByteArray → ByteArray → Int → ByteArray → Int → ByteArray → ByteArray → Int → Int → Int → Int → Int → Int → Int → Bool → ByteArray → List DEnd → List DParcel → List DRecord → List DRecord → List DEnd → List DParcel → List DRecord → List DRecord → Option (DWorld)
  | 0, _, _, _, _, _, _, _, _, _, _, _, _, _, _, _, _, _, _, _, _, _, _, _, _, _, _ => none
  | k + 1, x0, x1, x2, x3, x4, x5, x6, x7, x8, x9, x10, x11, x12, x13, x14, x15, x16, x17, x18, x19, x20, x21, x22, x23, x24, x25 =>
    (idx x18 (IntKind.wrap .i64 (x6 - 1))).bind fun _ =>
    (x18[(Int.toNat (IntKind.wrap .i64 (x6 - 1)))]?).bind fun y4 =>
    (spec_EndTake k y4 (⟨x9, x10, x11, x12, x13, x14, x15, x16, x17⟩ : DPacket)).bind fun r5 =>
    (idx x18 (IntKind.wrap .i64 (x6 - 1))).bind fun _ =>
    (x18[(Int.toNat (IntKind.wrap .i64 (x6 - 1)))]?).bind fun y6 =>
    some (⟨x0, x1, (x18.set (Int.toNat (IntKind.wrap .i64 (x6 - 1))) r5.End), x19, x2, x20, x21⟩ : DWorld)
noncomputable def spec_l7Bring (k : Nat) (a0 : DWorld) (a1 : Int) : Option (DWorld) :=
  (idx a0.Flight a1).bind fun _ =>
  (a0.Flight[(Int.toNat a1)]?).bind fun y1 =>
  (spec_l7Without k a0.Flight a1).bind fun r2 =>
  (spec_ReadPacket k y1.Bytes a0.Key a0.Width).bind fun r3 =>
  bif (!r3.2) then
    some (⟨a0.Key, a0.Width, a0.Ends, r2, a0.Forged, a0.Given, a0.Taken⟩ : DWorld)
  else
    bif (!(y1.Bytes.toList == y1.Sent.toList)) then
      bif (a0.Forged.toList == (⟨#[]⟩ : ByteArray).toList) then
        spec_l7Bring_l8 k a0.Key a0.Width y1.Bytes (⟨#[]⟩ : ByteArray) 0 (⟨#[]⟩ : ByteArray) y1.To y1.Sent y1.Bytes r3.1.Kind r3.1.From r3.1.Mine r3.1.Yours r3.1.Next r3.1.Mask r3.1.Seq r3.1.Last r3.1.Part a0.Ends r2 a0.Given a0.Taken ([] : List DEnd) ([] : List DParcel) ([] : List DRecord) ([] : List DRecord)
      else
        spec_l7Bring_l8 k a0.Key a0.Width a0.Forged (⟨#[]⟩ : ByteArray) 0 (⟨#[]⟩ : ByteArray) y1.To y1.Sent y1.Bytes r3.1.Kind r3.1.From r3.1.Mine r3.1.Yours r3.1.Next r3.1.Mask r3.1.Seq r3.1.Last r3.1.Part a0.Ends r2 a0.Given a0.Taken ([] : List DEnd) ([] : List DParcel) ([] : List DRecord) ([] : List DRecord)
    else
      spec_l7Bring_l8 k a0.Key a0.Width a0.Forged (⟨#[]⟩ : ByteArray) 0 (⟨#[]⟩ : ByteArray) y1.To y1.Sent y1.Bytes r3.1.Kind r3.1.From r3.1.Mine r3.1.Yours r3.1.Next r3.1.Mask r3.1.Seq r3.1.Last r3.1.Part a0.Ends r2 a0.Given a0.Taken ([] : List DEnd) ([] : List DParcel) ([] : List DRecord) ([] : List DRecord)
noncomputable def spec_l7End_l18 : Nat → ByteArray → Int → ByteArray → ByteArray → Int → ByteArray → List DEnd → List DParcel → List DRecord → List DRecord → List DEnd → List DParcel → List DRecord → List DRecord → Option (DWorld)
  | 0, _, _, _, _, _, _, _, _, _, _, _, _, _, _ => none
  | k + 1, x0, x1, x2, x3, x4, x5, x6, x7, x8, x9, x10, x11, x12, x13 =>
    some (⟨x0, x1, x6, x7, x2, x8, x9⟩ : DWorld)
noncomputable def spec_l7End (k : Nat) (a0 : DWorld) (a1 : DEvent) : Option (DWorld) :=
  (idx a0.Ends (IntKind.wrap .i64 (a1.A - 1))).bind fun _ =>
  (a0.Ends[(Int.toNat (IntKind.wrap .i64 (a1.A - 1)))]?).bind fun y1 =>
  bif (a1.Kind == 8) then
    (spec_EndFall k y1).bind fun r2 =>
    (idx a0.Ends (IntKind.wrap .i64 (a1.A - 1))).bind fun _ =>
    (a0.Ends[(Int.toNat (IntKind.wrap .i64 (a1.A - 1)))]?).bind fun y3 =>
    spec_l7End_l18 k a0.Key a0.Width a0.Forged (⟨#[]⟩ : ByteArray) 0 (⟨#[]⟩ : ByteArray) (a0.Ends.set (Int.toNat (IntKind.wrap .i64 (a1.A - 1))) r2) a0.Flight a0.Given a0.Taken ([] : List DEnd) ([] : List DParcel) ([] : List DRecord) ([] : List DRecord)
  else
    bif (a1.Kind == 9) then
      (spec_EndRise k y1).bind fun r4 =>
      (idx a0.Ends (IntKind.wrap .i64 (a1.A - 1))).bind fun _ =>
      (a0.Ends[(Int.toNat (IntKind.wrap .i64 (a1.A - 1)))]?).bind fun y5 =>
      spec_l7End_l18 k a0.Key a0.Width a0.Forged (⟨#[]⟩ : ByteArray) 0 (⟨#[]⟩ : ByteArray) (a0.Ends.set (Int.toNat (IntKind.wrap .i64 (a1.A - 1))) r4) a0.Flight a0.Given a0.Taken ([] : List DEnd) ([] : List DParcel) ([] : List DRecord) ([] : List DRecord)
    else
      bif (a1.Kind == 10) then
        (spec_EndPush k y1 a1.Text).bind fun r6 =>
        bif (r6.Code == 0) then
          bif (decide ((IntKind.wrap .i64 ((a0.Given.length : Int) + (a0.Taken.length : Int))) < 400)) then
            (idx a0.Ends (IntKind.wrap .i64 (a1.A - 1))).bind fun _ =>
            (a0.Ends[(Int.toNat (IntKind.wrap .i64 (a1.A - 1)))]?).bind fun y7 =>
            (app 40 a0.Given ([(⟨a1.A, y1.Life, y1.Peer, a1.Text⟩ : DRecord)] : List DRecord)).bind fun l8 =>
            spec_l7End_l18 k a0.Key a0.Width a0.Forged (⟨#[]⟩ : ByteArray) 0 (⟨#[]⟩ : ByteArray) (a0.Ends.set (Int.toNat (IntKind.wrap .i64 (a1.A - 1))) r6.End) a0.Flight l8 a0.Taken ([] : List DEnd) ([] : List DParcel) ([] : List DRecord) ([] : List DRecord)
          else
            spec_l7End_l18 k a0.Key a0.Width a0.Forged (⟨#[]⟩ : ByteArray) 0 (⟨#[]⟩ : ByteArray) a0.Ends a0.Flight a0.Given a0.Taken ([] : List DEnd) ([] : List DParcel) ([] : List DRecord) ([] : List DRecord)
        else
          spec_l7End_l18 k a0.Key a0.Width a0.Forged (⟨#[]⟩ : ByteArray) 0 (⟨#[]⟩ : ByteArray) a0.Ends a0.Flight a0.Given a0.Taken ([] : List DEnd) ([] : List DParcel) ([] : List DRecord) ([] : List DRecord)
      else
        bif (a1.Kind == 11) then
          (spec_EndPull k y1).bind fun r9 =>
          bif (r9.Code == 0) then
            bif (decide ((IntKind.wrap .i64 ((a0.Given.length : Int) + (a0.Taken.length : Int))) < 400)) then
              (idx a0.Ends (IntKind.wrap .i64 (a1.A - 1))).bind fun _ =>
              (a0.Ends[(Int.toNat (IntKind.wrap .i64 (a1.A - 1)))]?).bind fun y10 =>
              (app 40 a0.Taken ([(⟨(IntKind.wrap .i64 (3 - a1.A)), y1.Peer, y1.Life, r9.Text⟩ : DRecord)] : List DRecord)).bind fun l11 =>
              spec_l7End_l18 k a0.Key a0.Width a0.Forged (⟨#[]⟩ : ByteArray) 0 (⟨#[]⟩ : ByteArray) (a0.Ends.set (Int.toNat (IntKind.wrap .i64 (a1.A - 1))) r9.End) a0.Flight a0.Given l11 ([] : List DEnd) ([] : List DParcel) ([] : List DRecord) ([] : List DRecord)
            else
              spec_l7End_l18 k a0.Key a0.Width a0.Forged (⟨#[]⟩ : ByteArray) 0 (⟨#[]⟩ : ByteArray) a0.Ends a0.Flight a0.Given a0.Taken ([] : List DEnd) ([] : List DParcel) ([] : List DRecord) ([] : List DRecord)
          else
            spec_l7End_l18 k a0.Key a0.Width a0.Forged (⟨#[]⟩ : ByteArray) 0 (⟨#[]⟩ : ByteArray) a0.Ends a0.Flight a0.Given a0.Taken ([] : List DEnd) ([] : List DParcel) ([] : List DRecord) ([] : List DRecord)
        else
          spec_l7End_l18 k a0.Key a0.Width a0.Forged (⟨#[]⟩ : ByteArray) 0 (⟨#[]⟩ : ByteArray) a0.Ends a0.Flight a0.Given a0.Taken ([] : List DEnd) ([] : List DParcel) ([] : List DRecord) ([] : List DRecord)
mutual
noncomputable def spec_Calm_l6 : Nat → Int → Int → Int → ByteArray → Int → ByteArray → ByteArray → Int → ByteArray → List DL7Count → List DEnd → List DParcel → List DRecord → List DRecord → List DEnd → List DParcel → List DRecord → List DRecord → Option (DWorld)
  | 0, _, _, _, _, _, _, _, _, _, _, _, _, _, _, _, _, _, _ => none
  | k + 1, x0, x1, x2, x3, x4, x5, x6, x7, x8, x9, x10, x11, x12, x13, x14, x15, x16, x17 =>
    bif (decide (x2 < x0)) then
      bif (decide (x2 < 5000)) then
        (spec_l7Tick k (⟨x6, x7, x14, x15, x8, x16, x17⟩ : DWorld)).bind fun r4 =>
        spec_Calm_l9 k x0 x1 x2 x3 x4 x5 r4.Key r4.Width r4.Forged x9 x10 x11 x12 x13 r4.Ends r4.Flight r4.Given r4.Taken
      else
        (spec_l7Copy k (⟨x6, x7, x14, x15, x8, x16, x17⟩ : DWorld)).bind fun r5 =>
        some r5
    else
      (spec_l7Copy k (⟨x6, x7, x14, x15, x8, x16, x17⟩ : DWorld)).bind fun r6 =>
      some r6
noncomputable def spec_Calm_l9 : Nat → Int → Int → Int → ByteArray → Int → ByteArray → ByteArray → Int → ByteArray → List DL7Count → List DEnd → List DParcel → List DRecord → List DRecord → List DEnd → List DParcel → List DRecord → List DRecord → Option (DWorld)
  | 0, _, _, _, _, _, _, _, _, _, _, _, _, _, _, _, _, _, _ => none
  | k + 1, x0, x1, x2, x3, x4, x5, x6, x7, x8, x9, x10, x11, x12, x13, x14, x15, x16, x17 =>
    bif (decide ((x15.length : Int) > 0)) then
      (idx x15 0).bind fun _ =>
      (x15[(Int.toNat 0)]?).bind fun y7 =>
      (spec_l7Passes k x9 y7 x1).bind fun r8 =>
      bif r8.2 then
        (spec_l7Bring k (⟨x6, x7, x14, x15, x8, x16, x17⟩ : DWorld) 0).bind fun r9 =>
        spec_Calm_l9 k x0 x1 x2 x3 x4 x5 r9.Key r9.Width r9.Forged r8.1 x10 x11 x12 x13 r9.Ends r9.Flight r9.Given r9.Taken
      else
        (spec_l7Without k x15 0).bind fun r10 =>
        spec_Calm_l9 k x0 x1 x2 x3 x4 x5 x6 x7 x8 r8.1 x10 x11 x12 x13 x14 r10 x16 x17
    else
      spec_Calm_l16 k x0 x1 x2 1 x3 x4 x5 x6 x7 x8 x9 x10 x11 x12 x13 x14 x15 x16 x17
noncomputable def spec_Calm_l16 : Nat → Int → Int → Int → Int → ByteArray → Int → ByteArray → ByteArray → Int → ByteArray → List DL7Count → List DEnd → List DParcel → List DRecord → List DRecord → List DEnd → List DParcel → List DRecord → List DRecord → Option (DWorld)
  | 0, _, _, _, _, _, _, _, _, _, _, _, _, _, _, _, _, _, _, _ => none
  | k + 1, x0, x1, x2, x3, x4, x5, x6, x7, x8, x9, x10, x11, x12, x13, x14, x15, x16, x17, x18 =>
    bif (decide (x3 ≤ 2)) then
      spec_Calm_l19 k x0 x1 x2 x3 0 x4 x5 x6 x7 x8 x9 x10 x11 x12 x13 x14 x15 x16 x17 x18
    else
      spec_Calm_l6 k x0 x1 (IntKind.wrap .i64 (x2 + 1)) x4 x5 x6 x7 x8 x9 x10 x11 x12 x13 x14 x15 x16 x17 x18
noncomputable def spec_Calm_l19 : Nat → Int → Int → Int → Int → Int → ByteArray → Int → ByteArray → ByteArray → Int → ByteArray → List DL7Count → List DEnd → List DParcel → List DRecord → List DRecord → List DEnd → List DParcel → List DRecord → List DRecord → Option (DWorld)
  | 0, _, _, _, _, _, _, _, _, _, _, _, _, _, _, _, _, _, _, _, _ => none
  | k + 1, x0, x1, x2, x3, x4, x5, x6, x7, x8, x9, x10, x11, x12, x13, x14, x15, x16, x17, x18, x19 =>
    bif (decide (x4 < 4)) then
      (idx x16 (IntKind.wrap .i64 (x3 - 1))).bind fun _ =>
      (x16[(Int.toNat (IntKind.wrap .i64 (x3 - 1)))]?).bind fun y11 =>
      bif (decide ((y11.Take.Ready.length : Int) > 0)) then
        (spec_l7End k (⟨x8, x9, x16, x17, x10, x18, x19⟩ : DWorld) (⟨11, x3, 0, 0, (⟨#[]⟩ : ByteArray)⟩ : DEvent)).bind fun r12 =>
        spec_Calm_l19 k x0 x1 x2 x3 (IntKind.wrap .i64 (x4 + 1)) x5 x6 x7 r12.Key r12.Width r12.Forged x11 x12 x13 x14 x15 r12.Ends r12.Flight r12.Given r12.Taken
      else
        spec_Calm_l16 k x0 x1 x2 (IntKind.wrap .i64 (x3 + 1)) x5 x6 x7 x8 x9 x10 x11 x12 x13 x14 x15 x16 x17 x18 x19
    else
      spec_Calm_l16 k x0 x1 x2 (IntKind.wrap .i64 (x3 + 1)) x5 x6 x7 x8 x9 x10 x11 x12 x13 x14 x15 x16 x17 x18 x19
end
noncomputable def spec_Calm (k : Nat) (a0 : DWorld) (a1 : Int) (a2 : Int) : Option (DWorld) :=
  (spec_ValidWorld k a0).bind fun r1 =>
  bif (!r1) then
    some (⟨(⟨#[]⟩ : ByteArray), 0, ([] : List DEnd), ([] : List DParcel), (⟨#[]⟩ : ByteArray), ([] : List DRecord), ([] : List DRecord)⟩ : DWorld)
  else
    (spec_l1In k a2 1 10).bind fun r2 =>
    bif (!r2) then
      some (⟨(⟨#[]⟩ : ByteArray), 0, ([] : List DEnd), ([] : List DParcel), (⟨#[]⟩ : ByteArray), ([] : List DRecord), ([] : List DRecord)⟩ : DWorld)
    else
      (spec_l7Copy k a0).bind fun r3 =>
      spec_Calm_l6 k a1 a2 0 (⟨#[]⟩ : ByteArray) 0 (⟨#[]⟩ : ByteArray) r3.Key r3.Width r3.Forged ([] : List DL7Count) ([] : List DEnd) ([] : List DParcel) ([] : List DRecord) ([] : List DRecord) r3.Ends r3.Flight r3.Given r3.Taken
mutual
noncomputable def spec_l7Parcel_l11 : Nat → ByteArray → Int → ByteArray → ByteArray → Int → ByteArray → List DEnd → List DParcel → List DRecord → List DRecord → List DEnd → List DParcel → List DRecord → List DRecord → Option (DWorld)
  | 0, _, _, _, _, _, _, _, _, _, _, _, _, _, _ => none
  | k + 1, x0, x1, x2, x3, x4, x5, x6, x7, x8, x9, x10, x11, x12, x13 =>
    some (⟨x0, x1, x6, x7, x2, x8, x9⟩ : DWorld)
noncomputable def spec_l7Parcel_l22 : Nat → ByteArray → Int → ByteArray → Int → Int → Int → Int → ByteArray → ByteArray → Int → ByteArray → Int → ByteArray → ByteArray → List DEnd → List DParcel → List DRecord → List DRecord → List DEnd → List DParcel → List DRecord → List DRecord → Option (DWorld)
  | 0, _, _, _, _, _, _, _, _, _, _, _, _, _, _, _, _, _, _, _, _, _, _ => none
  | k + 1, x0, x1, x2, x3, x4, x5, x6, x7, x8, x9, x10, x11, x12, x13, x14, x15, x16, x17, x18, x19, x20, x21 =>
    (idx x15 x4).bind fun _ =>
    (x15[(Int.toNat x4)]?).bind fun y9 =>
    some (⟨x0, x1, x14, (x15.set (Int.toNat x4) (⟨x11, x12, x13⟩ : DParcel)), x2, x16, x17⟩ : DWorld)
end
noncomputable def spec_l7Parcel (k : Nat) (a0 : DWorld) (a1 : DEvent) : Option (DWorld) :=
  (idx a0.Flight a1.A).bind fun _ =>
  (a0.Flight[(Int.toNat a1.A)]?).bind fun y1 =>
  bif (a1.Kind == 2) then
    (spec_l7Bring k a0 a1.A).bind fun r2 =>
    some r2
  else
    bif (a1.Kind == 4) then
      (spec_l7Without k a0.Flight a1.A).bind fun r3 =>
      some (⟨a0.Key, a0.Width, a0.Ends, r3, a0.Forged, a0.Given, a0.Taken⟩ : DWorld)
    else
      bif (a1.Kind == 3) then
        bif (decide ((a0.Flight.length : Int) < 1000)) then
          (app 40 a0.Flight ([y1] : List DParcel)).bind fun l4 =>
          spec_l7Parcel_l11 k a0.Key a0.Width a0.Forged (⟨#[]⟩ : ByteArray) 0 (⟨#[]⟩ : ByteArray) a0.Ends l4 a0.Given a0.Taken ([] : List DEnd) ([] : List DParcel) ([] : List DRecord) ([] : List DRecord)
        else
          spec_l7Parcel_l11 k a0.Key a0.Width a0.Forged (⟨#[]⟩ : ByteArray) 0 (⟨#[]⟩ : ByteArray) a0.Ends a0.Flight a0.Given a0.Taken ([] : List DEnd) ([] : List DParcel) ([] : List DRecord) ([] : List DRecord)
      else
        bif (a1.Kind == 5) then
          bif (decide (a1.B ≥ 0)) then
            bif (decide (a1.B < (y1.Bytes.size : Int))) then
              bif (decide (a1.C ≥ 0)) then
                (idx (bytesOf y1.Bytes) a1.B).bind fun _ =>
                ((bytesOf y1.Bytes)[(Int.toNat a1.B)]?).bind fun y5 =>
                (qrem a1.C 256).bind fun q6 =>
                (idx (bytesOf y1.Bytes) a1.B).bind fun _ =>
                ((bytesOf y1.Bytes)[(Int.toNat a1.B)]?).bind fun y7 =>
                spec_l7Parcel_l22 k a0.Key a0.Width a0.Forged a1.Kind a1.A a1.B a1.C a1.Text (⟨#[]⟩ : ByteArray) 0 (⟨#[]⟩ : ByteArray) y1.To y1.Sent (bstr ((bytesOf y1.Bytes).set (Int.toNat a1.B) (bitsXor .u8 y5 (IntKind.wrap .u8 q6)))) a0.Ends a0.Flight a0.Given a0.Taken ([] : List DEnd) ([] : List DParcel) ([] : List DRecord) ([] : List DRecord)
              else
                spec_l7Parcel_l22 k a0.Key a0.Width a0.Forged a1.Kind a1.A a1.B a1.C a1.Text (⟨#[]⟩ : ByteArray) 0 (⟨#[]⟩ : ByteArray) y1.To y1.Sent y1.Bytes a0.Ends a0.Flight a0.Given a0.Taken ([] : List DEnd) ([] : List DParcel) ([] : List DRecord) ([] : List DRecord)
            else
              spec_l7Parcel_l22 k a0.Key a0.Width a0.Forged a1.Kind a1.A a1.B a1.C a1.Text (⟨#[]⟩ : ByteArray) 0 (⟨#[]⟩ : ByteArray) y1.To y1.Sent y1.Bytes a0.Ends a0.Flight a0.Given a0.Taken ([] : List DEnd) ([] : List DParcel) ([] : List DRecord) ([] : List DRecord)
          else
            spec_l7Parcel_l22 k a0.Key a0.Width a0.Forged a1.Kind a1.A a1.B a1.C a1.Text (⟨#[]⟩ : ByteArray) 0 (⟨#[]⟩ : ByteArray) y1.To y1.Sent y1.Bytes a0.Ends a0.Flight a0.Given a0.Taken ([] : List DEnd) ([] : List DParcel) ([] : List DRecord) ([] : List DRecord)
        else
          bif (a1.Kind == 6) then
            bif (decide (a1.B ≥ 0)) then
              bif (decide (a1.B ≤ (y1.Bytes.size : Int))) then
                (wnd y1.Bytes.size 0 a1.B).bind fun p8 =>
                spec_l7Parcel_l22 k a0.Key a0.Width a0.Forged a1.Kind a1.A a1.B a1.C a1.Text (⟨#[]⟩ : ByteArray) 0 (⟨#[]⟩ : ByteArray) y1.To y1.Sent (y1.Bytes.extract p8.1 p8.2) a0.Ends a0.Flight a0.Given a0.Taken ([] : List DEnd) ([] : List DParcel) ([] : List DRecord) ([] : List DRecord)
              else
                spec_l7Parcel_l22 k a0.Key a0.Width a0.Forged a1.Kind a1.A a1.B a1.C a1.Text (⟨#[]⟩ : ByteArray) 0 (⟨#[]⟩ : ByteArray) y1.To y1.Sent y1.Bytes a0.Ends a0.Flight a0.Given a0.Taken ([] : List DEnd) ([] : List DParcel) ([] : List DRecord) ([] : List DRecord)
            else
              spec_l7Parcel_l22 k a0.Key a0.Width a0.Forged a1.Kind a1.A a1.B a1.C a1.Text (⟨#[]⟩ : ByteArray) 0 (⟨#[]⟩ : ByteArray) y1.To y1.Sent y1.Bytes a0.Ends a0.Flight a0.Given a0.Taken ([] : List DEnd) ([] : List DParcel) ([] : List DRecord) ([] : List DRecord)
          else
            bif (a1.Kind == 7) then
              spec_l7Parcel_l22 k a0.Key a0.Width a0.Forged a1.Kind a1.A a1.B a1.C a1.Text (⟨#[]⟩ : ByteArray) 0 (⟨#[]⟩ : ByteArray) (IntKind.wrap .i64 (3 - y1.To)) y1.Sent y1.Bytes a0.Ends a0.Flight a0.Given a0.Taken ([] : List DEnd) ([] : List DParcel) ([] : List DRecord) ([] : List DRecord)
            else
              spec_l7Parcel_l22 k a0.Key a0.Width a0.Forged a1.Kind a1.A a1.B a1.C a1.Text (⟨#[]⟩ : ByteArray) 0 (⟨#[]⟩ : ByteArray) y1.To y1.Sent y1.Bytes a0.Ends a0.Flight a0.Given a0.Taken ([] : List DEnd) ([] : List DParcel) ([] : List DRecord) ([] : List DRecord)
noncomputable def spec_l7Do (k : Nat) (a0 : DWorld) (a1 : DEvent) : Option (DWorld) :=
  bif (a1.Kind == 1) then
    (spec_l7Tick k a0).bind fun r1 =>
    some r1
  else
    (spec_l1In k a1.Kind 2 7).bind fun r2 =>
    bif r2 then
      (spec_l1In k a1.A 0 (IntKind.wrap .i64 ((a0.Flight.length : Int) - 1))).bind fun r3 =>
      bif r3 then
        (spec_l7Parcel k a0 a1).bind fun r4 =>
        some r4
      else
        (spec_l1In k a1.Kind 8 11).bind fun r5 =>
        bif r5 then
          (spec_l1In k a1.A 1 2).bind fun r6 =>
          bif r6 then
            (spec_l7End k a0 a1).bind fun r7 =>
            some r7
          else
            some a0
        else
          some a0
    else
      (spec_l1In k a1.Kind 8 11).bind fun r8 =>
      bif r8 then
        (spec_l1In k a1.A 1 2).bind fun r9 =>
        bif r9 then
          (spec_l7End k a0 a1).bind fun r10 =>
          some r10
        else
          some a0
      else
        some a0
mutual
noncomputable def impl_ValidWorld_l4 : Nat → List DEnd → Int → Int → ByteArray → Int → List DEnd → List DParcel → ByteArray → List DRecord → List DRecord → Option (Bool)
  | 0, _, _, _, _, _, _, _, _, _, _ => none
  | k + 1, x0, x1, x2, x3, x4, x5, x6, x7, x8, x9 =>
    bif (decide (x2 < x1)) then
      (idx x0 x2).bind fun y1 =>
      (impl_ValidEnd k y1).bind fun r2 =>
      bif (!r2) then
        some false
      else
        bif (y1.Number != (IntKind.wrap .i64 (x2 + 1))) then
          some false
        else
          impl_ValidWorld_l4 k x0 x1 (IntKind.wrap .i64 (x2 + 1)) x3 x4 x5 x6 x7 x8 x9
    else
      impl_ValidWorld_l10 k x6 (x6.length : Int) 0 x3 x4 x5 x6 x7 x8 x9
noncomputable def impl_ValidWorld_l10 : Nat → List DParcel → Int → Int → ByteArray → Int → List DEnd → List DParcel → ByteArray → List DRecord → List DRecord → Option (Bool)
  | 0, _, _, _, _, _, _, _, _, _, _ => none
  | k + 1, x0, x1, x2, x3, x4, x5, x6, x7, x8, x9 =>
    bif (decide (x2 < x1)) then
      (idx x0 x2).bind fun y3 =>
      bif (y3.To != 1) then
        bif (y3.To != 2) then
          some false
        else
          bif (decide ((y3.Sent.size : Int) > 100)) then
            some false
          else
            bif (decide ((y3.Bytes.size : Int) > 100)) then
              some false
            else
              impl_ValidWorld_l10 k x0 x1 (IntKind.wrap .i64 (x2 + 1)) x3 x4 x5 x6 x7 x8 x9
      else
        bif (decide ((y3.Sent.size : Int) > 100)) then
          some false
        else
          bif (decide ((y3.Bytes.size : Int) > 100)) then
            some false
          else
            impl_ValidWorld_l10 k x0 x1 (IntKind.wrap .i64 (x2 + 1)) x3 x4 x5 x6 x7 x8 x9
    else
      impl_ValidWorld_l16 k (([x8, x9] : List (List DRecord)).length : Int) 0 ([x8, x9] : List (List DRecord))
noncomputable def impl_ValidWorld_l16 : Nat → Int → Int → List (List DRecord) → Option (Bool)
  | 0, _, _, _ => none
  | k + 1, x0, x1, x2 =>
    bif (decide (x1 < x0)) then
      (idx x2 x1).bind fun _ =>
      (x2[(Int.toNat x1)]?).bind fun y4 =>
      impl_ValidWorld_l19 k x0 x1 y4 (y4.length : Int) 0 x2
    else
      some true
noncomputable def impl_ValidWorld_l19 : Nat → Int → Int → List DRecord → Int → Int → List (List DRecord) → Option (Bool)
  | 0, _, _, _, _, _, _ => none
  | k + 1, x0, x1, x2, x3, x4, x5 =>
    bif (decide (x4 < x3)) then
      (idx x2 x4).bind fun y5 =>
      bif (y5.From != 1) then
        bif (y5.From != 2) then
          some false
        else
          (impl_in k y5.A 1 1000).bind fun r6 =>
          bif (!r6) then
            some false
          else
            (impl_in k y5.B 1 1000).bind fun r7 =>
            bif (!r7) then
              some false
            else
              bif (decide ((y5.Text.size : Int) > 200)) then
                some false
              else
                impl_ValidWorld_l19 k x0 x1 x2 x3 (IntKind.wrap .i64 (x4 + 1)) x5
      else
        (impl_in k y5.A 1 1000).bind fun r8 =>
        bif (!r8) then
          some false
        else
          (impl_in k y5.B 1 1000).bind fun r9 =>
          bif (!r9) then
            some false
          else
            bif (decide ((y5.Text.size : Int) > 200)) then
              some false
            else
              impl_ValidWorld_l19 k x0 x1 x2 x3 (IntKind.wrap .i64 (x4 + 1)) x5
    else
      impl_ValidWorld_l16 k x0 (IntKind.wrap .i64 (x1 + 1)) x5
end
noncomputable def impl_ValidWorld (k : Nat) (a0 : DWorld) : Option (Bool) :=
  bif (decide (a0.Width < 1)) then
    some false
  else
    bif (decide (a0.Width > 8)) then
      some false
    else
      bif (decide ((a0.Key.size : Int) > 30)) then
        some false
      else
        bif ((a0.Ends.length : Int) != 2) then
          some false
        else
          bif (decide ((a0.Flight.length : Int) > 1000)) then
            some false
          else
            bif (decide ((IntKind.wrap .i64 ((a0.Given.length : Int) + (a0.Taken.length : Int))) > 400)) then
              some false
            else
              impl_ValidWorld_l4 k a0.Ends (a0.Ends.length : Int) 0 a0.Key a0.Width a0.Ends a0.Flight a0.Forged a0.Given a0.Taken
mutual
noncomputable def impl_Right_l5 : Nat → List DRecord → Int → Int → ByteArray → Int → List DEnd → List DParcel → ByteArray → List DRecord → List DRecord → List (DPair × List ByteArray) → Option (Bool)
  | 0, _, _, _, _, _, _, _, _, _, _, _ => none
  | k + 1, x0, x1, x2, x3, x4, x5, x6, x7, x8, x9, x10 =>
    bif (decide (x2 < x1)) then
      (idx x0 x2).bind fun y2 =>
      optK (mfind (eq_pair (⟨y2.From, y2.A, y2.B⟩ : DPair)) x10 0) (
        (app 16 ([] : List ByteArray) ([y2.Text] : List ByteArray)).bind fun l4 =>
        (idx (x10 ++ [((⟨y2.From, y2.A, y2.B⟩ : DPair), ([] : List ByteArray))]) (x10.length : Int)).bind fun e5 =>
        impl_Right_l5 k x0 x1 (IntKind.wrap .i64 (x2 + 1)) x3 x4 x5 x6 x7 x8 x9 ((x10 ++ [((⟨y2.From, y2.A, y2.B⟩ : DPair), ([] : List ByteArray))]).set (Int.toNat (x10.length : Int)) (e5.1, l4))
      ) (fun p3 =>
        (app 16 p3.2 ([y2.Text] : List ByteArray)).bind fun l6 =>
        bif Nat.beq p3.1 (Int.toNat (p3.1 : Int)) then
          (idx x10 (p3.1 : Int)).bind fun e7 =>
          impl_Right_l5 k x0 x1 (IntKind.wrap .i64 (x2 + 1)) x3 x4 x5 x6 x7 x8 x9 (x10.set (Int.toNat (p3.1 : Int)) (e7.1, l6))
        else
          none
      )
    else
      impl_Right_l12 k x9 (x9.length : Int) 0 x10 ([] : List (DPair × Int))
noncomputable def impl_Right_l12 : Nat → List DRecord → Int → Int → List (DPair × List ByteArray) → List (DPair × Int) → Option (Bool)
  | 0, _, _, _, _, _ => none
  | k + 1, x0, x1, x2, x3, x4 =>
    bif (decide (x2 < x1)) then
      (idx x0 x2).bind fun y8 =>
      optK (mfind (eq_pair (⟨y8.From, y8.A, y8.B⟩ : DPair)) x4 0) (
        optK (mfind (eq_pair (⟨y8.From, y8.A, y8.B⟩ : DPair)) x3 0) (
          bif (decide ((0 : Int) ≥ (([] : List ByteArray).length : Int))) then
            some false
          else
            optK (mfind (eq_pair (⟨y8.From, y8.A, y8.B⟩ : DPair)) x3 0) (
              optK (mfind (eq_pair (⟨y8.From, y8.A, y8.B⟩ : DPair)) x4 0) (
                none
              ) (fun p12 =>
                none
              )
            ) (fun p11 =>
              optK (mfind (eq_pair (⟨y8.From, y8.A, y8.B⟩ : DPair)) x4 0) (
                (idx p11.2 0).bind fun _ =>
                (p11.2[(Int.toNat 0)]?).bind fun y14 =>
                bif (!(y14.toList == y8.Text.toList)) then
                  some false
                else
                  impl_Right_l17 k x0 x1 x2 (x3.modify p11.1 fun e => (e.1, p11.2)) x4 y8.From y8.A y8.B
              ) (fun p13 =>
                (idx p11.2 p13.2).bind fun _ =>
                (p11.2[(Int.toNat p13.2)]?).bind fun y15 =>
                bif (!(y15.toList == y8.Text.toList)) then
                  some false
                else
                  impl_Right_l17 k x0 x1 x2 (x3.modify p11.1 fun e => (e.1, p11.2)) x4 y8.From y8.A y8.B
              )
            )
        ) (fun p10 =>
          bif (decide ((0 : Int) ≥ (p10.2.length : Int))) then
            some false
          else
            optK (mfind (eq_pair (⟨y8.From, y8.A, y8.B⟩ : DPair)) (x3.modify p10.1 fun e => (e.1, p10.2)) 0) (
              optK (mfind (eq_pair (⟨y8.From, y8.A, y8.B⟩ : DPair)) x4 0) (
                none
              ) (fun p17 =>
                none
              )
            ) (fun p16 =>
              optK (mfind (eq_pair (⟨y8.From, y8.A, y8.B⟩ : DPair)) x4 0) (
                (idx p16.2 0).bind fun _ =>
                (p16.2[(Int.toNat 0)]?).bind fun y19 =>
                bif (!(y19.toList == y8.Text.toList)) then
                  some false
                else
                  impl_Right_l17 k x0 x1 x2 ((x3.modify p10.1 fun e => (e.1, p10.2)).modify p16.1 fun e => (e.1, p16.2)) x4 y8.From y8.A y8.B
              ) (fun p18 =>
                (idx p16.2 p18.2).bind fun _ =>
                (p16.2[(Int.toNat p18.2)]?).bind fun y20 =>
                bif (!(y20.toList == y8.Text.toList)) then
                  some false
                else
                  impl_Right_l17 k x0 x1 x2 ((x3.modify p10.1 fun e => (e.1, p10.2)).modify p16.1 fun e => (e.1, p16.2)) x4 y8.From y8.A y8.B
              )
            )
        )
      ) (fun p9 =>
        optK (mfind (eq_pair (⟨y8.From, y8.A, y8.B⟩ : DPair)) x3 0) (
          bif (decide (p9.2 ≥ (([] : List ByteArray).length : Int))) then
            some false
          else
            optK (mfind (eq_pair (⟨y8.From, y8.A, y8.B⟩ : DPair)) x3 0) (
              optK (mfind (eq_pair (⟨y8.From, y8.A, y8.B⟩ : DPair)) x4 0) (
                none
              ) (fun p23 =>
                none
              )
            ) (fun p22 =>
              optK (mfind (eq_pair (⟨y8.From, y8.A, y8.B⟩ : DPair)) x4 0) (
                (idx p22.2 0).bind fun _ =>
                (p22.2[(Int.toNat 0)]?).bind fun y25 =>
                bif (!(y25.toList == y8.Text.toList)) then
                  some false
                else
                  impl_Right_l17 k x0 x1 x2 (x3.modify p22.1 fun e => (e.1, p22.2)) x4 y8.From y8.A y8.B
              ) (fun p24 =>
                (idx p22.2 p24.2).bind fun _ =>
                (p22.2[(Int.toNat p24.2)]?).bind fun y26 =>
                bif (!(y26.toList == y8.Text.toList)) then
                  some false
                else
                  impl_Right_l17 k x0 x1 x2 (x3.modify p22.1 fun e => (e.1, p22.2)) x4 y8.From y8.A y8.B
              )
            )
        ) (fun p21 =>
          bif (decide (p9.2 ≥ (p21.2.length : Int))) then
            some false
          else
            optK (mfind (eq_pair (⟨y8.From, y8.A, y8.B⟩ : DPair)) (x3.modify p21.1 fun e => (e.1, p21.2)) 0) (
              optK (mfind (eq_pair (⟨y8.From, y8.A, y8.B⟩ : DPair)) x4 0) (
                none
              ) (fun p28 =>
                none
              )
            ) (fun p27 =>
              optK (mfind (eq_pair (⟨y8.From, y8.A, y8.B⟩ : DPair)) x4 0) (
                (idx p27.2 0).bind fun _ =>
                (p27.2[(Int.toNat 0)]?).bind fun y30 =>
                bif (!(y30.toList == y8.Text.toList)) then
                  some false
                else
                  impl_Right_l17 k x0 x1 x2 ((x3.modify p21.1 fun e => (e.1, p21.2)).modify p27.1 fun e => (e.1, p27.2)) x4 y8.From y8.A y8.B
              ) (fun p29 =>
                (idx p27.2 p29.2).bind fun _ =>
                (p27.2[(Int.toNat p29.2)]?).bind fun y31 =>
                bif (!(y31.toList == y8.Text.toList)) then
                  some false
                else
                  impl_Right_l17 k x0 x1 x2 ((x3.modify p21.1 fun e => (e.1, p21.2)).modify p27.1 fun e => (e.1, p27.2)) x4 y8.From y8.A y8.B
              )
            )
        )
      )
    else
      some true
noncomputable def impl_Right_l17 : Nat → List DRecord → Int → Int → List (DPair × List ByteArray) → List (DPair × Int) → Int → Int → Int → Option (Bool)
  | 0, _, _, _, _, _, _, _, _ => none
  | k + 1, x0, x1, x2, x3, x4, x5, x6, x7 =>
    both (
      optK (mfind (eq_pair (⟨x5, x6, x7⟩ : DPair)) x4 0) (
        optK (mfind (eq_pair (⟨x5, x6, x7⟩ : DPair)) x4 0) (
          (idx (x4 ++ [((⟨x5, x6, x7⟩ : DPair), 0)]) (x4.length : Int)).bind fun e34 =>
          impl_Right_l12 k x0 x1 (IntKind.wrap .i64 (x2 + 1)) x3 ((x4 ++ [((⟨x5, x6, x7⟩ : DPair), 0)]).set (Int.toNat (x4.length : Int)) (e34.1, (IntKind.wrap .i64 (0 + 1))))
        ) (fun p33 =>
          (idx x4 (p33.1 : Int)).bind fun e35 =>
          impl_Right_l12 k x0 x1 (IntKind.wrap .i64 (x2 + 1)) x3 (x4.set (Int.toNat (p33.1 : Int)) (e35.1, (IntKind.wrap .i64 (0 + 1))))
        )
      ) (fun p32 =>
        optK (mfind (eq_pair (⟨x5, x6, x7⟩ : DPair)) x4 0) (
          (idx (x4 ++ [((⟨x5, x6, x7⟩ : DPair), 0)]) (x4.length : Int)).bind fun e37 =>
          impl_Right_l12 k x0 x1 (IntKind.wrap .i64 (x2 + 1)) x3 ((x4 ++ [((⟨x5, x6, x7⟩ : DPair), 0)]).set (Int.toNat (x4.length : Int)) (e37.1, (IntKind.wrap .i64 (p32.2 + 1))))
        ) (fun p36 =>
          (idx x4 (p36.1 : Int)).bind fun e38 =>
          impl_Right_l12 k x0 x1 (IntKind.wrap .i64 (x2 + 1)) x3 (x4.set (Int.toNat (p36.1 : Int)) (e38.1, (IntKind.wrap .i64 (p32.2 + 1))))
        )
      )
    ) (
      optK (mfind (eq_pair (⟨x5, x6, x7⟩ : DPair)) x4 0) (
        optK (mfind (eq_pair (⟨x5, x6, x7⟩ : DPair)) (x4 ++ [((⟨x5, x6, x7⟩ : DPair), 0)]) 0) (
          (idx (x4 ++ [((⟨x5, x6, x7⟩ : DPair), 0)]) (x4.length : Int)).bind fun e41 =>
          impl_Right_l12 k x0 x1 (IntKind.wrap .i64 (x2 + 1)) x3 ((x4 ++ [((⟨x5, x6, x7⟩ : DPair), 0)]).set (Int.toNat (x4.length : Int)) (e41.1, (IntKind.wrap .i64 (0 + 1))))
        ) (fun p40 =>
          (idx (x4 ++ [((⟨x5, x6, x7⟩ : DPair), 0)]) (x4.length : Int)).bind fun e42 =>
          impl_Right_l12 k x0 x1 (IntKind.wrap .i64 (x2 + 1)) x3 ((x4 ++ [((⟨x5, x6, x7⟩ : DPair), 0)]).set (Int.toNat (x4.length : Int)) (e42.1, (IntKind.wrap .i64 (p40.2 + 1))))
        )
      ) (fun p39 =>
        optK (mfind (eq_pair (⟨x5, x6, x7⟩ : DPair)) x4 0) (
          (idx x4 (p39.1 : Int)).bind fun e44 =>
          impl_Right_l12 k x0 x1 (IntKind.wrap .i64 (x2 + 1)) x3 (x4.set (Int.toNat (p39.1 : Int)) (e44.1, (IntKind.wrap .i64 (0 + 1))))
        ) (fun p43 =>
          (idx x4 (p39.1 : Int)).bind fun e45 =>
          impl_Right_l12 k x0 x1 (IntKind.wrap .i64 (x2 + 1)) x3 (x4.set (Int.toNat (p39.1 : Int)) (e45.1, (IntKind.wrap .i64 (p43.2 + 1))))
        )
      )
    )
end
noncomputable def impl_Right (k : Nat) (a0 : DWorld) : Option (Bool) :=
  (impl_ValidWorld k a0).bind fun r1 =>
  bif (!r1) then
    some false
  else
    impl_Right_l5 k a0.Given (a0.Given.length : Int) 0 a0.Key a0.Width a0.Ends a0.Flight a0.Forged a0.Given a0.Taken ([] : List (DPair × List ByteArray))
mutual
noncomputable def spec_Right_l4 : Nat → Int → ByteArray → Int → List DEnd → List DParcel → ByteArray → List DRecord → List DRecord → Option (Bool)
  | 0, _, _, _, _, _, _, _, _ => none
  | k + 1, x0, x1, x2, x3, x4, x5, x6, x7 =>
    bif (decide (x0 < (x7.length : Int))) then
      (idx x7 x0).bind fun y2 =>
      spec_Right_l9 k x0 0 0 x1 x2 x3 x4 x5 x6 x7 y2.From y2.A y2.B y2.Text
    else
      some true
noncomputable def spec_Right_l9 : Nat → Int → Int → Int → ByteArray → Int → List DEnd → List DParcel → ByteArray → List DRecord → List DRecord → Int → Int → Int → ByteArray → Option (Bool)
  | 0, _, _, _, _, _, _, _, _, _, _, _, _, _, _ => none
  | k + 1, x0, x1, x2, x3, x4, x5, x6, x7, x8, x9, x10, x11, x12, x13 =>
    bif (decide (x2 < x0)) then
      (idx x9 x2).bind fun y3 =>
      bif (y3.From == x10) then
        (idx x9 x2).bind fun y4 =>
        bif (y4.A == x11) then
          (idx x9 x2).bind fun y5 =>
          bif (y5.B == x12) then
            spec_Right_l10 k x0 (IntKind.wrap .i64 (x1 + 1)) x2 x3 x4 x5 x6 x7 x8 x9 x10 x11 x12 x13
          else
            spec_Right_l10 k x0 x1 x2 x3 x4 x5 x6 x7 x8 x9 x10 x11 x12 x13
        else
          spec_Right_l10 k x0 x1 x2 x3 x4 x5 x6 x7 x8 x9 x10 x11 x12 x13
      else
        spec_Right_l10 k x0 x1 x2 x3 x4 x5 x6 x7 x8 x9 x10 x11 x12 x13
    else
      spec_Right_l15 k x0 x1 false 0 x3 x4 x5 x6 x7 x8 x9 x10 x11 x12 x13
noncomputable def spec_Right_l10 : Nat → Int → Int → Int → ByteArray → Int → List DEnd → List DParcel → ByteArray → List DRecord → List DRecord → Int → Int → Int → ByteArray → Option (Bool)
  | 0, _, _, _, _, _, _, _, _, _, _, _, _, _, _ => none
  | k + 1, x0, x1, x2, x3, x4, x5, x6, x7, x8, x9, x10, x11, x12, x13 =>
    spec_Right_l9 k x0 x1 (IntKind.wrap .i64 (x2 + 1)) x3 x4 x5 x6 x7 x8 x9 x10 x11 x12 x13
noncomputable def spec_Right_l15 : Nat → Int → Int → Bool → Int → ByteArray → Int → List DEnd → List DParcel → ByteArray → List DRecord → List DRecord → Int → Int → Int → ByteArray → Option (Bool)
  | 0, _, _, _, _, _, _, _, _, _, _, _, _, _, _, _ => none
  | k + 1, x0, x1, x2, x3, x4, x5, x6, x7, x8, x9, x10, x11, x12, x13, x14 =>
    bif (decide (x3 < (x9.length : Int))) then
      (idx x9 x3).bind fun y6 =>
      bif (y6.From == x11) then
        bif (y6.A == x12) then
          bif (y6.B == x13) then
            bif x2 then
              spec_Right_l16 k x0 (IntKind.wrap .i64 (x1 - 1)) true x3 x4 x5 x6 x7 x8 x9 x10 x11 x12 x13 x14
            else
              bif (x1 == 0) then
                spec_Right_l16 k x0 (IntKind.wrap .i64 (x1 - 1)) (y6.Text.toList == x14.toList) x3 x4 x5 x6 x7 x8 x9 x10 x11 x12 x13 x14
              else
                spec_Right_l16 k x0 (IntKind.wrap .i64 (x1 - 1)) false x3 x4 x5 x6 x7 x8 x9 x10 x11 x12 x13 x14
          else
            spec_Right_l16 k x0 x1 x2 x3 x4 x5 x6 x7 x8 x9 x10 x11 x12 x13 x14
        else
          spec_Right_l16 k x0 x1 x2 x3 x4 x5 x6 x7 x8 x9 x10 x11 x12 x13 x14
      else
        spec_Right_l16 k x0 x1 x2 x3 x4 x5 x6 x7 x8 x9 x10 x11 x12 x13 x14
    else
      bif (!x2) then
        some false
      else
        spec_Right_l4 k (IntKind.wrap .i64 (x0 + 1)) x4 x5 x6 x7 x8 x9 x10
noncomputable def spec_Right_l16 : Nat → Int → Int → Bool → Int → ByteArray → Int → List DEnd → List DParcel → ByteArray → List DRecord → List DRecord → Int → Int → Int → ByteArray → Option (Bool)
  | 0, _, _, _, _, _, _, _, _, _, _, _, _, _, _, _ => none
  | k + 1, x0, x1, x2, x3, x4, x5, x6, x7, x8, x9, x10, x11, x12, x13, x14 =>
    spec_Right_l15 k x0 x1 x2 (IntKind.wrap .i64 (x3 + 1)) x4 x5 x6 x7 x8 x9 x10 x11 x12 x13 x14
end
noncomputable def spec_Right (k : Nat) (a0 : DWorld) : Option (Bool) :=
  (spec_ValidWorld k a0).bind fun r1 =>
  bif (!r1) then
    some false
  else
    spec_Right_l4 k 0 a0.Key a0.Width a0.Ends a0.Flight a0.Forged a0.Given a0.Taken
noncomputable def impl_copyWorld_l3 : Nat → Int → Int → ByteArray → Int → List DParcel → ByteArray → List DRecord → List DRecord → ByteArray → Int → ByteArray → List DEnd → List DEnd → List DParcel → List DRecord → List DRecord → Option (DWorld)
  | 0, _, _, _, _, _, _, _, _, _, _, _, _, _, _, _, _ => none
  | k + 1, x0, x1, x2, x3, x4, x5, x6, x7, x8, x9, x10, x11, x12, x13, x14, x15 =>
    bif (decide (x1 < x0)) then
      (idx x11 x1).bind fun _ =>
      (x11[(Int.toNat x1)]?).bind fun y2 =>
      (impl_copyEnd k y2).bind fun r3 =>
      (idx x11 x1).bind fun _ =>
      (x11[(Int.toNat x1)]?).bind fun y4 =>
      impl_copyWorld_l3 k x0 (IntKind.wrap .i64 (x1 + 1)) x2 x3 x4 x5 x6 x7 x8 x9 x10 (x11.set (Int.toNat x1) r3) x12 x13 x14 x15
    else
      (app 40 ([] : List DParcel) x4).bind fun l5 =>
      (app 40 ([] : List DRecord) x6).bind fun l6 =>
      (app 40 ([] : List DRecord) x7).bind fun l7 =>
      some (⟨x2, x3, x11, l5, x5, l6, l7⟩ : DWorld)
noncomputable def impl_copyWorld (k : Nat) (a0 : DWorld) : Option (DWorld) :=
  (app 152 ([] : List DEnd) a0.Ends).bind fun l1 =>
  impl_copyWorld_l3 k (l1.length : Int) 0 a0.Key a0.Width a0.Flight a0.Forged a0.Given a0.Taken (⟨#[]⟩ : ByteArray) 0 (⟨#[]⟩ : ByteArray) l1 ([] : List DEnd) ([] : List DParcel) ([] : List DRecord) ([] : List DRecord)
mutual
noncomputable def impl_World_tick_l1 : Nat → Int → Int → ByteArray → Int → ByteArray → List DEnd → List DParcel → List DRecord → List DRecord → Option (DWorld)
  | 0, _, _, _, _, _, _, _, _, _ => none
  | k + 1, x0, x1, x2, x3, x4, x5, x6, x7, x8 =>
    bif (decide (x1 < x0)) then
      (idx x5 x1).bind fun _ =>
      (x5[(Int.toNat x1)]?).bind fun y1 =>
      (impl_EndTick k y1).bind fun r2 =>
      (idx x5 x1).bind fun _ =>
      (x5[(Int.toNat x1)]?).bind fun y3 =>
      impl_World_tick_l6 k x1 x0 x1 (r2.Out.length : Int) 0 x2 x3 x4 r2.Out (x5.set (Int.toNat x1) r2.End) x6 x7 x8
    else
      some (⟨x2, x3, x5, x6, x4, x7, x8⟩ : DWorld)
noncomputable def impl_World_tick_l6 : Nat → Int → Int → Int → Int → Int → ByteArray → Int → ByteArray → List DPacket → List DEnd → List DParcel → List DRecord → List DRecord → Option (DWorld)
  | 0, _, _, _, _, _, _, _, _, _, _, _, _, _ => none
  | k + 1, x0, x1, x2, x3, x4, x5, x6, x7, x8, x9, x10, x11, x12 =>
    bif (decide (x4 < x3)) then
      (idx x8 x4).bind fun _ =>
      (x8[(Int.toNat x4)]?).bind fun y4 =>
      bif (decide ((x10.length : Int) < 1000)) then
        (impl_FormPacket k y4 x5 x6).bind fun r5 =>
        (app 40 x10 ([(⟨(IntKind.wrap .i64 (2 - x0)), r5, r5⟩ : DParcel)] : List DParcel)).bind fun l6 =>
        impl_World_tick_l11 k x0 x1 x2 x3 x4 x5 x6 x7 x8 x9 l6 x11 x12
      else
        impl_World_tick_l11 k x0 x1 x2 x3 x4 x5 x6 x7 x8 x9 x10 x11 x12
    else
      impl_World_tick_l1 k x1 (IntKind.wrap .i64 (x2 + 1)) x5 x6 x7 x9 x10 x11 x12
noncomputable def impl_World_tick_l11 : Nat → Int → Int → Int → Int → Int → ByteArray → Int → ByteArray → List DPacket → List DEnd → List DParcel → List DRecord → List DRecord → Option (DWorld)
  | 0, _, _, _, _, _, _, _, _, _, _, _, _, _ => none
  | k + 1, x0, x1, x2, x3, x4, x5, x6, x7, x8, x9, x10, x11, x12 =>
    impl_World_tick_l6 k x0 x1 x2 x3 (IntKind.wrap .i64 (x4 + 1)) x5 x6 x7 x8 x9 x10 x11 x12
end
noncomputable def impl_World_tick (k : Nat) (a0 : DWorld) : Option (DWorld) :=
  impl_World_tick_l1 k (a0.Ends.length : Int) 0 a0.Key a0.Width a0.Forged a0.Ends a0.Flight a0.Given a0.Taken
noncomputable def impl_World_bring_l5 : Nat → ByteArray → Int → ByteArray → Int → ByteArray → ByteArray → Int → Int → Int → Int → Int → Int → Int → Bool → ByteArray → List DEnd → List DParcel → List DRecord → List DRecord → Option (DWorld)
  | 0, _, _, _, _, _, _, _, _, _, _, _, _, _, _, _, _, _, _, _ => none
  | k + 1, x0, x1, x2, x3, x4, x5, x6, x7, x8, x9, x10, x11, x12, x13, x14, x15, x16, x17, x18 =>
    (idx x15 (IntKind.wrap .i64 (x3 - 1))).bind fun _ =>
    (x15[(Int.toNat (IntKind.wrap .i64 (x3 - 1)))]?).bind fun y2 =>
    (impl_EndTake k y2 (⟨x6, x7, x8, x9, x10, x11, x12, x13, x14⟩ : DPacket)).bind fun r3 =>
    (idx x15 (IntKind.wrap .i64 (x3 - 1))).bind fun _ =>
    (x15[(Int.toNat (IntKind.wrap .i64 (x3 - 1)))]?).bind fun y4 =>
    some (⟨x0, x1, (x15.set (Int.toNat (IntKind.wrap .i64 (x3 - 1))) r3.End), x16, x2, x17, x18⟩ : DWorld)
noncomputable def impl_World_bring (k : Nat) (a0 : DWorld) (a1 : DParcel) : Option (DWorld) :=
  (impl_ReadPacket k a1.Bytes a0.Key a0.Width).bind fun r1 =>
  bif (!r1.2) then
    some a0
  else
    bif (!(a1.Bytes.toList == a1.Sent.toList)) then
      bif (a0.Forged.toList == (⟨#[]⟩ : ByteArray).toList) then
        impl_World_bring_l5 k a0.Key a0.Width a1.Bytes a1.To a1.Sent a1.Bytes r1.1.Kind r1.1.From r1.1.Mine r1.1.Yours r1.1.Next r1.1.Mask r1.1.Seq r1.1.Last r1.1.Part a0.Ends a0.Flight a0.Given a0.Taken
      else
        impl_World_bring_l5 k a0.Key a0.Width a0.Forged a1.To a1.Sent a1.Bytes r1.1.Kind r1.1.From r1.1.Mine r1.1.Yours r1.1.Next r1.1.Mask r1.1.Seq r1.1.Last r1.1.Part a0.Ends a0.Flight a0.Given a0.Taken
    else
      impl_World_bring_l5 k a0.Key a0.Width a0.Forged a1.To a1.Sent a1.Bytes r1.1.Kind r1.1.From r1.1.Mine r1.1.Yours r1.1.Next r1.1.Mask r1.1.Seq r1.1.Last r1.1.Part a0.Ends a0.Flight a0.Given a0.Taken
noncomputable def impl_World_full (k : Nat) (a0 : DWorld) : Option (Bool × DWorld) :=
  some ((decide ((IntKind.wrap .i64 ((a0.Given.length : Int) + (a0.Taken.length : Int))) ≥ 400)), a0)
noncomputable def impl_World_pull (k : Nat) (a0 : DWorld) (a1 : Int) : Option (DWorld) :=
  (impl_World_full k a0).bind fun r1 =>
  bif r1.1 then
    some r1.2
  else
    (idx r1.2.Ends (IntKind.wrap .i64 (a1 - 1))).bind fun _ =>
    (r1.2.Ends[(Int.toNat (IntKind.wrap .i64 (a1 - 1)))]?).bind fun y2 =>
    (impl_EndPull k y2).bind fun r3 =>
    bif (r3.Code == 0) then
      (idx r1.2.Ends (IntKind.wrap .i64 (a1 - 1))).bind fun _ =>
      (r1.2.Ends[(Int.toNat (IntKind.wrap .i64 (a1 - 1)))]?).bind fun y4 =>
      (idx r1.2.Ends (IntKind.wrap .i64 (a1 - 1))).bind fun _ =>
      (r1.2.Ends[(Int.toNat (IntKind.wrap .i64 (a1 - 1)))]?).bind fun y5 =>
      (app 40 r1.2.Taken ([(⟨(IntKind.wrap .i64 (3 - a1)), y4.Peer, y4.Life, r3.Text⟩ : DRecord)] : List DRecord)).bind fun l6 =>
      some (⟨r1.2.Key, r1.2.Width, (r1.2.Ends.set (Int.toNat (IntKind.wrap .i64 (a1 - 1))) r3.End), r1.2.Flight, r1.2.Forged, r1.2.Given, l6⟩ : DWorld)
    else
      some r1.2
mutual
noncomputable def impl_Do_l5 : Nat → Bool → Int → Int → Int → Int → ByteArray → ByteArray → Int → ByteArray → ByteArray → Int → ByteArray → List DEnd → List DParcel → List DRecord → List DRecord → List DEnd → List DParcel → List DRecord → List DRecord → Option (DWorld)
  | 0, _, _, _, _, _, _, _, _, _, _, _, _, _, _, _, _, _, _, _, _ => none
  | k + 1, x0, x1, x2, x3, x4, x5, x6, x7, x8, x9, x10, x11, x12, x13, x14, x15, x16, x17, x18, x19 =>
    bif (decide (x2 ≥ 0)) then
      impl_Do_l6 k x0 (decide (x2 < (x17.length : Int))) x1 x2 x3 x4 x5 x6 x7 x8 x9 x10 x11 x12 x13 x14 x15 x16 x17 x18 x19
    else
      impl_Do_l6 k x0 false x1 x2 x3 x4 x5 x6 x7 x8 x9 x10 x11 x12 x13 x14 x15 x16 x17 x18 x19
noncomputable def impl_Do_l6 : Nat → Bool → Bool → Int → Int → Int → Int → ByteArray → ByteArray → Int → ByteArray → ByteArray → Int → ByteArray → List DEnd → List DParcel → List DRecord → List DRecord → List DEnd → List DParcel → List DRecord → List DRecord → Option (DWorld)
  | 0, _, _, _, _, _, _, _, _, _, _, _, _, _, _, _, _, _, _, _, _, _ => none
  | k + 1, x0, x1, x2, x3, x4, x5, x6, x7, x8, x9, x10, x11, x12, x13, x14, x15, x16, x17, x18, x19, x20 =>
    bif (x2 == 1) then
      (impl_World_tick k (⟨x10, x11, x17, x18, x12, x19, x20⟩ : DWorld)).bind fun r3 =>
      impl_Do_l45 k x7 x8 x9 r3.Key r3.Width r3.Forged x13 x14 x15 x16 r3.Ends r3.Flight r3.Given r3.Taken
    else
      bif (x2 == 2) then
        impl_Do_l11 k x1 x2 x3 x4 x5 x6 x7 x8 x9 x10 x11 x12 x13 x14 x15 x16 x17 x18 x19 x20
      else
        bif (x2 == 4) then
          impl_Do_l11 k x1 x2 x3 x4 x5 x6 x7 x8 x9 x10 x11 x12 x13 x14 x15 x16 x17 x18 x19 x20
        else
          impl_Do_l16 k x0 x1 x2 x2 x3 x4 x5 x6 x7 x8 x9 x10 x11 x12 x13 x14 x15 x16 x17 x18 x19 x20
noncomputable def impl_Do_l45 : Nat → ByteArray → Int → ByteArray → ByteArray → Int → ByteArray → List DEnd → List DParcel → List DRecord → List DRecord → List DEnd → List DParcel → List DRecord → List DRecord → Option (DWorld)
  | 0, _, _, _, _, _, _, _, _, _, _, _, _, _, _ => none
  | k + 1, x0, x1, x2, x3, x4, x5, x6, x7, x8, x9, x10, x11, x12, x13 =>
    some (⟨x3, x4, x10, x11, x5, x12, x13⟩ : DWorld)
noncomputable def impl_Do_l11 : Nat → Bool → Int → Int → Int → Int → ByteArray → ByteArray → Int → ByteArray → ByteArray → Int → ByteArray → List DEnd → List DParcel → List DRecord → List DRecord → List DEnd → List DParcel → List DRecord → List DRecord → Option (DWorld)
  | 0, _, _, _, _, _, _, _, _, _, _, _, _, _, _, _, _, _, _, _, _ => none
  | k + 1, x0, x1, x2, x3, x4, x5, x6, x7, x8, x9, x10, x11, x12, x13, x14, x15, x16, x17, x18, x19 =>
    bif x0 then
      (idx x17 x2).bind fun _ =>
      (x17[(Int.toNat x2)]?).bind fun y4 =>
      (if (x2 : Int) = x2 then wnd x17.length 0 x2 else none).bind fun p5 =>
      (wnd x17.length (IntKind.wrap .i64 (x2 + 1)) (x17.length : Int)).bind fun p6 =>
      (app 40 (dcut x17 p5.1 p5.2) (dcut x17 p6.1 p6.2)).bind fun l7 =>
      bif (x1 == 2) then
        (impl_World_bring k (⟨x9, x10, x16, l7, x11, x18, x19⟩ : DWorld) y4).bind fun r8 =>
        impl_Do_l45 k x6 x7 x8 r8.Key r8.Width r8.Forged x12 x13 x14 x15 r8.Ends r8.Flight r8.Given r8.Taken
      else
        impl_Do_l45 k x6 x7 x8 x9 x10 x11 x12 x13 x14 x15 x16 l7 x18 x19
    else
      impl_Do_l45 k x6 x7 x8 x9 x10 x11 x12 x13 x14 x15 x16 x17 x18 x19
noncomputable def impl_Do_l16 : Nat → Bool → Bool → Int → Int → Int → Int → Int → ByteArray → ByteArray → Int → ByteArray → ByteArray → Int → ByteArray → List DEnd → List DParcel → List DRecord → List DRecord → List DEnd → List DParcel → List DRecord → List DRecord → Option (DWorld)
  | 0, _, _, _, _, _, _, _, _, _, _, _, _, _, _, _, _, _, _, _, _, _, _ => none
  | k + 1, x0, x1, x2, x3, x4, x5, x6, x7, x8, x9, x10, x11, x12, x13, x14, x15, x16, x17, x18, x19, x20, x21 =>
    bif (x2 == 3) then
      bif x1 then
        bif (decide ((x19.length : Int) < 1000)) then
          (idx x19 x4).bind fun _ =>
          (x19[(Int.toNat x4)]?).bind fun y9 =>
          (app 40 x19 ([y9] : List DParcel)).bind fun l10 =>
          impl_Do_l45 k x8 x9 x10 x11 x12 x13 x14 x15 x16 x17 x18 l10 x20 x21
        else
          impl_Do_l45 k x8 x9 x10 x11 x12 x13 x14 x15 x16 x17 x18 x19 x20 x21
      else
        impl_Do_l45 k x8 x9 x10 x11 x12 x13 x14 x15 x16 x17 x18 x19 x20 x21
    else
      bif (x2 == 5) then
        bif x1 then
          bif (decide (x6 ≥ 0)) then
            bif (decide (x5 ≥ 0)) then
              (idx x19 x4).bind fun _ =>
              (x19[(Int.toNat x4)]?).bind fun y11 =>
              bif (decide (x5 < (y11.Bytes.size : Int))) then
                (idx x19 x4).bind fun _ =>
                (x19[(Int.toNat x4)]?).bind fun y12 =>
                (idx (bytesOf y12.Bytes) x5).bind fun _ =>
                ((bytesOf y12.Bytes)[(Int.toNat x5)]?).bind fun y13 =>
                (qrem x6 256).bind fun q14 =>
                (idx (bytesOf y12.Bytes) x5).bind fun _ =>
                ((bytesOf y12.Bytes)[(Int.toNat x5)]?).bind fun y15 =>
                (idx x19 x4).bind fun _ =>
                (x19[(Int.toNat x4)]?).bind fun y16 =>
                impl_Do_l45 k x8 x9 x10 x11 x12 x13 x14 x15 x16 x17 x18 (x19.set (Int.toNat x4) (⟨y16.To, y16.Sent, (bstr ((bytesOf y12.Bytes).set (Int.toNat x5) (bitsXor .u8 y13 (IntKind.wrap .u8 q14))))⟩ : DParcel)) x20 x21
              else
                impl_Do_l45 k x8 x9 x10 x11 x12 x13 x14 x15 x16 x17 x18 x19 x20 x21
            else
              impl_Do_l45 k x8 x9 x10 x11 x12 x13 x14 x15 x16 x17 x18 x19 x20 x21
          else
            impl_Do_l45 k x8 x9 x10 x11 x12 x13 x14 x15 x16 x17 x18 x19 x20 x21
        else
          impl_Do_l45 k x8 x9 x10 x11 x12 x13 x14 x15 x16 x17 x18 x19 x20 x21
      else
        bif (x2 == 6) then
          bif x1 then
            bif (decide (x5 ≥ 0)) then
              (idx x19 x4).bind fun _ =>
              (x19[(Int.toNat x4)]?).bind fun y17 =>
              bif (decide (x5 ≤ (y17.Bytes.size : Int))) then
                (idx x19 x4).bind fun _ =>
                (x19[(Int.toNat x4)]?).bind fun y18 =>
                (wnd y18.Bytes.size 0 x5).bind fun p19 =>
                (idx x19 x4).bind fun _ =>
                (x19[(Int.toNat x4)]?).bind fun y20 =>
                impl_Do_l45 k x8 x9 x10 x11 x12 x13 x14 x15 x16 x17 x18 (x19.set (Int.toNat x4) (⟨y20.To, y20.Sent, (y18.Bytes.extract p19.1 p19.2)⟩ : DParcel)) x20 x21
              else
                impl_Do_l45 k x8 x9 x10 x11 x12 x13 x14 x15 x16 x17 x18 x19 x20 x21
            else
              impl_Do_l45 k x8 x9 x10 x11 x12 x13 x14 x15 x16 x17 x18 x19 x20 x21
          else
            impl_Do_l45 k x8 x9 x10 x11 x12 x13 x14 x15 x16 x17 x18 x19 x20 x21
        else
          bif (x2 == 7) then
            bif x1 then
              (idx x19 x4).bind fun _ =>
              (x19[(Int.toNat x4)]?).bind fun y21 =>
              (idx x19 x4).bind fun _ =>
              (x19[(Int.toNat x4)]?).bind fun y22 =>
              impl_Do_l45 k x8 x9 x10 x11 x12 x13 x14 x15 x16 x17 x18 (x19.set (Int.toNat x4) (⟨(IntKind.wrap .i64 (3 - y21.To)), y22.Sent, y22.Bytes⟩ : DParcel)) x20 x21
            else
              impl_Do_l45 k x8 x9 x10 x11 x12 x13 x14 x15 x16 x17 x18 x19 x20 x21
          else
            bif (x2 == 8) then
              bif x0 then
                (idx x18 (IntKind.wrap .i64 (x4 - 1))).bind fun _ =>
                (x18[(Int.toNat (IntKind.wrap .i64 (x4 - 1)))]?).bind fun y23 =>
                (impl_EndFall k y23).bind fun r24 =>
                (idx x18 (IntKind.wrap .i64 (x4 - 1))).bind fun _ =>
                (x18[(Int.toNat (IntKind.wrap .i64 (x4 - 1)))]?).bind fun y25 =>
                impl_Do_l45 k x8 x9 x10 x11 x12 x13 x14 x15 x16 x17 (x18.set (Int.toNat (IntKind.wrap .i64 (x4 - 1))) r24) x19 x20 x21
              else
                impl_Do_l45 k x8 x9 x10 x11 x12 x13 x14 x15 x16 x17 x18 x19 x20 x21
            else
              bif (x2 == 9) then
                bif x0 then
                  (idx x18 (IntKind.wrap .i64 (x4 - 1))).bind fun _ =>
                  (x18[(Int.toNat (IntKind.wrap .i64 (x4 - 1)))]?).bind fun y26 =>
                  (impl_EndRise k y26).bind fun r27 =>
                  (idx x18 (IntKind.wrap .i64 (x4 - 1))).bind fun _ =>
                  (x18[(Int.toNat (IntKind.wrap .i64 (x4 - 1)))]?).bind fun y28 =>
                  impl_Do_l45 k x8 x9 x10 x11 x12 x13 x14 x15 x16 x17 (x18.set (Int.toNat (IntKind.wrap .i64 (x4 - 1))) r27) x19 x20 x21
                else
                  impl_Do_l45 k x8 x9 x10 x11 x12 x13 x14 x15 x16 x17 x18 x19 x20 x21
              else
                bif (x2 == 10) then
                  bif x0 then
                    (impl_World_full k (⟨x11, x12, x18, x19, x13, x20, x21⟩ : DWorld)).bind fun r29 =>
                    bif (!r29.1) then
                      both (
                        (idx r29.2.Ends (IntKind.wrap .i64 (x4 - 1))).bind fun _ =>
                        (r29.2.Ends[(Int.toNat (IntKind.wrap .i64 (x4 - 1)))]?).bind fun y30 =>
                        (impl_EndPush k y30 x7).bind fun r31 =>
                        bif (r31.Code == 0) then
                          (idx r29.2.Ends (IntKind.wrap .i64 (x4 - 1))).bind fun _ =>
                          (r29.2.Ends[(Int.toNat (IntKind.wrap .i64 (x4 - 1)))]?).bind fun y32 =>
                          (app 40 r29.2.Given ([(⟨x4, r31.End.Life, r31.End.Peer, x7⟩ : DRecord)] : List DRecord)).bind fun l33 =>
                          impl_Do_l45 k x8 x9 x10 r29.2.Key r29.2.Width r29.2.Forged x14 x15 x16 x17 (r29.2.Ends.set (Int.toNat (IntKind.wrap .i64 (x4 - 1))) r31.End) r29.2.Flight l33 r29.2.Taken
                        else
                          impl_Do_l45 k x8 x9 x10 r29.2.Key r29.2.Width r29.2.Forged x14 x15 x16 x17 r29.2.Ends r29.2.Flight r29.2.Given r29.2.Taken
                      ) (
                        (idx r29.2.Ends (IntKind.wrap .i64 (x4 - 1))).bind fun _ =>
                        (r29.2.Ends[(Int.toNat (IntKind.wrap .i64 (x4 - 1)))]?).bind fun y34 =>
                        (impl_EndPush k y34 x7).bind fun r35 =>
                        bif (r35.Code == 0) then
                          (idx r29.2.Ends (IntKind.wrap .i64 (x4 - 1))).bind fun _ =>
                          (r29.2.Ends[(Int.toNat (IntKind.wrap .i64 (x4 - 1)))]?).bind fun y36 =>
                          (app 40 r29.2.Given ([(⟨x4, r35.End.Life, r35.End.Peer, x7⟩ : DRecord)] : List DRecord)).bind fun l37 =>
                          impl_Do_l45 k x8 x9 x10 r29.2.Key r29.2.Width r29.2.Forged x14 x15 x16 x17 (r29.2.Ends.set (Int.toNat (IntKind.wrap .i64 (x4 - 1))) r35.End) r29.2.Flight l37 r29.2.Taken
                        else
                          impl_Do_l45 k x8 x9 x10 r29.2.Key r29.2.Width r29.2.Forged x14 x15 x16 x17 r29.2.Ends r29.2.Flight r29.2.Given r29.2.Taken
                      )
                    else
                      impl_Do_l45 k x8 x9 x10 r29.2.Key r29.2.Width r29.2.Forged x14 x15 x16 x17 r29.2.Ends r29.2.Flight r29.2.Given r29.2.Taken
                  else
                    impl_Do_l45 k x8 x9 x10 x11 x12 x13 x14 x15 x16 x17 x18 x19 x20 x21
                else
                  bif (x2 == 11) then
                    bif x0 then
                      (impl_World_pull k (⟨x11, x12, x18, x19, x13, x20, x21⟩ : DWorld) x4).bind fun r38 =>
                      impl_Do_l45 k x8 x9 x10 r38.Key r38.Width r38.Forged x14 x15 x16 x17 r38.Ends r38.Flight r38.Given r38.Taken
                    else
                      impl_Do_l45 k x8 x9 x10 x11 x12 x13 x14 x15 x16 x17 x18 x19 x20 x21
                  else
                    impl_Do_l45 k x8 x9 x10 x11 x12 x13 x14 x15 x16 x17 x18 x19 x20 x21
end
noncomputable def impl_Do (k : Nat) (a0 : DWorld) (a1 : DEvent) : Option (DWorld) :=
  (impl_ValidWorld k a0).bind fun r1 =>
  bif (!r1) then
    some (⟨(⟨#[]⟩ : ByteArray), 0, ([] : List DEnd), ([] : List DParcel), (⟨#[]⟩ : ByteArray), ([] : List DRecord), ([] : List DRecord)⟩ : DWorld)
  else
    (impl_copyWorld k a0).bind fun r2 =>
    bif (a1.A == 1) then
      impl_Do_l5 k true a1.Kind a1.A a1.B a1.C a1.Text (⟨#[]⟩ : ByteArray) 0 (⟨#[]⟩ : ByteArray) r2.Key r2.Width r2.Forged ([] : List DEnd) ([] : List DParcel) ([] : List DRecord) ([] : List DRecord) r2.Ends r2.Flight r2.Given r2.Taken
    else
      impl_Do_l5 k (a1.A == 2) a1.Kind a1.A a1.B a1.C a1.Text (⟨#[]⟩ : ByteArray) 0 (⟨#[]⟩ : ByteArray) r2.Key r2.Width r2.Forged ([] : List DEnd) ([] : List DParcel) ([] : List DRecord) ([] : List DRecord) r2.Ends r2.Flight r2.Given r2.Taken
noncomputable def laws_wForgery (k : Nat) (a0 : DWorld) (a1 : DEvent) : Option (Bool) :=
  bif (a1.Kind != 2) then
    some false
  else
    bif (decide (a1.A < 0)) then
      some false
    else
      bif (decide (a1.A ≥ (a0.Flight.length : Int))) then
        some false
      else
        (idx a0.Flight a1.A).bind fun y1 =>
        (idx a0.Flight a1.A).bind fun y2 =>
        bif (y1.Bytes.toList == y2.Sent.toList) then
          some false
        else
          (idx a0.Flight a1.A).bind fun y3 =>
          (spec_ReadPacket k y3.Bytes a0.Key a0.Width).bind fun r4 =>
          some r4.2
end Km.X
namespace Km.X
open Go Km
set_option linter.unusedVariables false
set_option maxRecDepth 100000
end Km.X
namespace Km.X
open Go Km
set_option linter.unusedVariables false
set_option maxRecDepth 100000
end Km.X
