/- A part of the proof of FnExactNewWorld: the functions that it reads off the program. There is no condition. -/
import Derived.Test.YthafpbpfnkncmaaKmAm3
namespace Km.X
open Go Km
set_option linter.unusedVariables false
set_option maxRecDepth 100000
structure DPart where
  Text : ByteArray
  Last : Bool
structure DItem where
  Part : DPart
  Has : Bool
  Since : Int
structure DSend where
  Base : Int
  Items : List DItem
structure DHeld where
  Seq : Int
  Part : DPart
structure DTake where
  Next : Int
  Held : List DHeld
  Open : ByteArray
  Ready : List ByteArray
structure DEnd where
  Number : Int
  Up : Bool
  Life : Int
  Peer : Int
  Since : Int
  Owes : Bool
  Send : DSend
  Take : DTake
structure DPacket where
  Kind : Int
  From : Int
  Mine : Int
  Yours : Int
  Next : Int
  Mask : Int
  Seq : Int
  Last : Bool
  Part : ByteArray
structure DActed where
  Code : Int
  End : DEnd
  Out : List DPacket
  Text : ByteArray
structure DEvent where
  Kind : Int
  A : Int
  B : Int
  C : Int
  Text : ByteArray
structure DKey where
  to : Int
  bytes : ByteArray
structure DL1Rd where
  b : List Int
  p : Int
structure DPair where
  f : Int
  a : Int
  b : Int
structure DParcel where
  To : Int
  Sent : ByteArray
  Bytes : ByteArray
structure DRecord where
  From : Int
  A : Int
  B : Int
  Text : ByteArray
structure DWorld where
  Key : ByteArray
  Width : Int
  Ends : List DEnd
  Flight : List DParcel
  Forged : ByteArray
  Given : List DRecord
  Taken : List DRecord
def eq_key (x y : DKey) : Bool := ((x.to == y.to) && ((x.bytes.toList == y.bytes.toList) && true))
theorem eq_key_eq {x y : DKey} (h : eq_key x y = true) : x = y := by
  obtain ⟨x0, x1⟩ := x
  obtain ⟨y0, y1⟩ := y
  simp only [eq_key, Bool.and_eq_true, Bool.and_true, beq_iff_eq] at h
  obtain ⟨h0, h1⟩ := h
  subst h0; have h1 := Km.toList_inj h1; subst h1; rfl
def eq_pair (x y : DPair) : Bool := ((x.f == y.f) && ((x.a == y.a) && ((x.b == y.b) && true)))
theorem eq_pair_eq {x y : DPair} (h : eq_pair x y = true) : x = y := by
  obtain ⟨x0, x1, x2⟩ := x
  obtain ⟨y0, y1, y2⟩ := y
  simp only [eq_pair, Bool.and_eq_true, Bool.and_true, beq_iff_eq] at h
  obtain ⟨h0, h1, h2⟩ := h
  subst h0; subst h1; subst h2; rfl
def wf_int (x : Int) : Prop := (Lit.int .i64 x).wf = true
def wf_str (x : ByteArray) : Prop := x.size ≤ maxLen
def wfDPart (x : DPart) : Prop := x.Text.size ≤ maxLen ∧ True
def wfDItem (x : DItem) : Prop := wfDPart x.Part ∧ True ∧ (Lit.int .i64 x.Since).wf = true
def wf_item (x : DItem) : Prop := wfDItem x
def wfDSend (x : DSend) : Prop := (Lit.int .i64 x.Base).wf = true ∧ (x.Items.length ≤ maxLen ∧ ∀ y ∈ x.Items, wf_item y)
def wfDHeld (x : DHeld) : Prop := (Lit.int .i64 x.Seq).wf = true ∧ wfDPart x.Part
def wf_held (x : DHeld) : Prop := wfDHeld x
def wfDTake (x : DTake) : Prop := (Lit.int .i64 x.Next).wf = true ∧ (x.Held.length ≤ maxLen ∧ ∀ y ∈ x.Held, wf_held y) ∧ x.Open.size ≤ maxLen ∧ (x.Ready.length ≤ maxLen ∧ ∀ y ∈ x.Ready, wf_str y)
def wfDEnd (x : DEnd) : Prop := (Lit.int .i64 x.Number).wf = true ∧ True ∧ (Lit.int .i64 x.Life).wf = true ∧ (Lit.int .i64 x.Peer).wf = true ∧ (Lit.int .i64 x.Since).wf = true ∧ True ∧ wfDSend x.Send ∧ wfDTake x.Take
def wfDPacket (x : DPacket) : Prop := (Lit.int .i64 x.Kind).wf = true ∧ (Lit.int .i64 x.From).wf = true ∧ (Lit.int .i64 x.Mine).wf = true ∧ (Lit.int .i64 x.Yours).wf = true ∧ (Lit.int .i64 x.Next).wf = true ∧ (Lit.int .i64 x.Mask).wf = true ∧ (Lit.int .i64 x.Seq).wf = true ∧ True ∧ x.Part.size ≤ maxLen
def wfDParcel (x : DParcel) : Prop := (Lit.int .i64 x.To).wf = true ∧ x.Sent.size ≤ maxLen ∧ x.Bytes.size ≤ maxLen
def wfDRecord (x : DRecord) : Prop := (Lit.int .i64 x.From).wf = true ∧ (Lit.int .i64 x.A).wf = true ∧ (Lit.int .i64 x.B).wf = true ∧ x.Text.size ≤ maxLen
end Km.X
namespace Km.X
open Go Km
set_option linter.unusedVariables false
set_option maxRecDepth 100000
def spec_l1In (k : Nat) (a0 : Int) (a1 : Int) (a2 : Int) : Option (Bool) :=
  bif (decide (a0 ≥ a1)) then
    some (decide (a0 ≤ a2))
  else
    some false
def spec_ValidSend_l4 : Nat → Int → Int → List DItem → Option (Bool)
  | 0, _, _, _ => none
  | k + 1, x0, x1, x2 =>
    bif (decide (x0 < (x2.length : Int))) then
      (idx x2 x0).bind fun y2 =>
      bif (decide ((y2.Part.Text.size : Int) > 20)) then
        some false
      else
        (spec_l1In k y2.Since (-1) 3).bind fun r3 =>
        bif (!r3) then
          some false
        else
          bif (decide (x0 ≥ 8)) then
            bif (y2.Since != (-1)) then
              some false
            else
              bif y2.Has then
                bif (decide (y2.Since < 0)) then
                  some false
                else
                  spec_ValidSend_l4 k (IntKind.wrap .i64 (x0 + 1)) x1 x2
              else
                spec_ValidSend_l4 k (IntKind.wrap .i64 (x0 + 1)) x1 x2
          else
            bif y2.Has then
              bif (decide (y2.Since < 0)) then
                some false
              else
                spec_ValidSend_l4 k (IntKind.wrap .i64 (x0 + 1)) x1 x2
            else
              spec_ValidSend_l4 k (IntKind.wrap .i64 (x0 + 1)) x1 x2
    else
      some true
def spec_ValidSend (k : Nat) (a0 : DSend) : Option (Bool) :=
  bif (decide ((a0.Items.length : Int) > 60)) then
    some false
  else
    (spec_l1In k a0.Base 0 1000000).bind fun r1 =>
    bif (!r1) then
      some false
    else
      bif (decide ((IntKind.wrap .i64 (a0.Base + (a0.Items.length : Int))) > 1000000)) then
        some false
      else
        spec_ValidSend_l4 k 0 a0.Base a0.Items
def spec_l4Copy (k : Nat) (a0 : DSend) : Option (DSend) :=
  (app 40 ([] : List DItem) a0.Items).bind fun l1 =>
  some (⟨a0.Base, l1⟩ : DSend)
mutual
def spec_SendTick_l6 : Nat → Int → Int → List DItem → Int → List Int → Int → List DItem → List DItem → Option (DSend × List Int)
  | 0, _, _, _, _, _, _, _, _ => none
  | k + 1, x0, x1, x2, x3, x4, x5, x6, x7 =>
    bif (decide (x0 < (x7.length : Int))) then
      bif (decide (x0 < 8)) then
        (idx x7 x0).bind fun _ =>
        (x7[(Int.toNat x0)]?).bind fun y3 =>
        bif y3.Has then
          spec_SendTick_l7 k x0 x1 x2 x3 x4 x5 x6 x7
        else
          bif (y3.Since == (-1)) then
            (app 8 x4 ([(IntKind.wrap .i64 (x1 + x0))] : List Int)).bind fun l4 =>
            (idx x7 x0).bind fun _ =>
            (x7[(Int.toNat x0)]?).bind fun y5 =>
            spec_SendTick_l7 k x0 x1 x2 x3 l4 x5 x6 (x7.set (Int.toNat x0) (⟨y5.Part, y5.Has, 0⟩ : DItem))
          else
            bif (y3.Since == 3) then
              (app 8 x4 ([(IntKind.wrap .i64 (x1 + x0))] : List Int)).bind fun l6 =>
              (idx x7 x0).bind fun _ =>
              (x7[(Int.toNat x0)]?).bind fun y7 =>
              spec_SendTick_l7 k x0 x1 x2 x3 l6 x5 x6 (x7.set (Int.toNat x0) (⟨y7.Part, y7.Has, 0⟩ : DItem))
            else
              (idx x7 x0).bind fun _ =>
              (x7[(Int.toNat x0)]?).bind fun y8 =>
              spec_SendTick_l7 k x0 x1 x2 x3 x4 x5 x6 (x7.set (Int.toNat x0) (⟨y8.Part, y8.Has, (IntKind.wrap .i64 (y3.Since + 1))⟩ : DItem))
      else
        some ((⟨x5, x7⟩ : DSend), x4)
    else
      some ((⟨x5, x7⟩ : DSend), x4)
def spec_SendTick_l7 : Nat → Int → Int → List DItem → Int → List Int → Int → List DItem → List DItem → Option (DSend × List Int)
  | 0, _, _, _, _, _, _, _, _ => none
  | k + 1, x0, x1, x2, x3, x4, x5, x6, x7 =>
    spec_SendTick_l6 k (IntKind.wrap .i64 (x0 + 1)) x1 x2 x3 x4 x5 x6 x7
end
def spec_SendTick (k : Nat) (a0 : DSend) : Option (DSend × List Int) :=
  (spec_ValidSend k a0).bind fun r1 =>
  bif (!r1) then
    some ((⟨0, ([] : List DItem)⟩ : DSend), ([] : List Int))
  else
    (spec_l4Copy k a0).bind fun r2 =>
    spec_SendTick_l6 k 0 a0.Base a0.Items 0 ([] : List Int) r2.Base ([] : List DItem) r2.Items
def spec_l4Front_l2 : Nat → Int → Int → List DItem → Option (Int)
  | 0, _, _, _ => none
  | k + 1, x0, x1, x2 =>
    bif (decide (x0 < (x2.length : Int))) then
      (idx x2 x0).bind fun y1 =>
      bif (decide (y1.Since ≥ 0)) then
        spec_l4Front_l2 k (IntKind.wrap .i64 (x0 + 1)) x1 x2
      else
        some x0
    else
      some x0
def spec_l4Front (k : Nat) (a0 : DSend) : Option (Int) :=
  spec_l4Front_l2 k 0 a0.Base a0.Items
mutual
def spec_SendWord_l9 : Nat → Int → Int → Int → Int → List DItem → List DItem → Option (DSend)
  | 0, _, _, _, _, _, _ => none
  | k + 1, x0, x1, x2, x3, x4, x5 =>
    bif (decide (x1 < 8)) then
      (qrem x0 2).bind fun q7 =>
      bif (q7 == 1) then
        bif (decide (x1 < (x5.length : Int))) then
          (idx x5 x1).bind fun _ =>
          (x5[(Int.toNat x1)]?).bind fun y8 =>
          bif (decide (y8.Since ≥ 0)) then
            (idx x5 x1).bind fun _ =>
            (x5[(Int.toNat x1)]?).bind fun y9 =>
            spec_SendWord_l13 k x0 x1 x2 x3 x4 (x5.set (Int.toNat x1) (⟨y9.Part, true, y9.Since⟩ : DItem))
          else
            spec_SendWord_l13 k x0 x1 x2 x3 x4 x5
        else
          spec_SendWord_l13 k x0 x1 x2 x3 x4 x5
      else
        spec_SendWord_l13 k x0 x1 x2 x3 x4 x5
    else
      some (⟨x3, x5⟩ : DSend)
def spec_SendWord_l13 : Nat → Int → Int → Int → Int → List DItem → List DItem → Option (DSend)
  | 0, _, _, _, _, _, _ => none
  | k + 1, x0, x1, x2, x3, x4, x5 =>
    (qdiv x0 2).bind fun q10 =>
    spec_SendWord_l9 k (IntKind.wrap .i64 (q10)) (IntKind.wrap .i64 (x1 + 1)) x2 x3 x4 x5
end
def spec_SendWord (k : Nat) (a0 : DSend) (a1 : Int) (a2 : Int) : Option (DSend) :=
  (spec_ValidSend k a0).bind fun r1 =>
  bif (!r1) then
    some (⟨0, ([] : List DItem)⟩ : DSend)
  else
    (spec_l4Copy k a0).bind fun r2 =>
    bif (decide (a1 < a0.Base)) then
      some r2
    else
      (spec_l4Front k a0).bind fun r3 =>
      bif (decide (a1 > (IntKind.wrap .i64 (a0.Base + r3)))) then
        some r2
      else
        (spec_l1In k a2 0 255).bind fun r4 =>
        bif (!r4) then
          some r2
        else
          (wnd r2.Items.length (IntKind.wrap .i64 (a1 - a0.Base)) (r2.Items.length : Int)).bind fun p5 =>
          (app 40 ([] : List DItem) (dcut r2.Items p5.1 p5.2)).bind fun l6 =>
          spec_SendWord_l9 k a2 0 0 a1 ([] : List DItem) l6
def spec_Cut_l4 : Nat → ByteArray → List DPart → Option (List DPart)
  | 0, _, _ => none
  | k + 1, x0, x1 =>
    bif (decide ((x0.size : Int) > 20)) then
      (wnd x0.size 0 20).bind fun p1 =>
      (app 24 x1 ([(⟨(x0.extract p1.1 p1.2), false⟩ : DPart)] : List DPart)).bind fun l2 =>
      (wnd x0.size 20 (x0.size : Int)).bind fun p3 =>
      spec_Cut_l4 k (x0.extract p3.1 p3.2) l2
    else
      (app 24 x1 ([(⟨x0, true⟩ : DPart)] : List DPart)).bind fun l4 =>
      some l4
def spec_Cut (k : Nat) (a0 : ByteArray) : Option (List DPart) :=
  bif (decide ((a0.size : Int) > 200)) then
    some ([] : List DPart)
  else
    spec_Cut_l4 k a0 ([] : List DPart)
def spec_SendPush_l9 : Nat → Int → Int → List DPart → Int → List DItem → List DItem → Option (DSend × Int)
  | 0, _, _, _, _, _, _ => none
  | k + 1, x0, x1, x2, x3, x4, x5 =>
    bif (decide (x0 < (x2.length : Int))) then
      (idx x2 x0).bind fun _ =>
      (x2[(Int.toNat x0)]?).bind fun y4 =>
      (app 40 x5 ([(⟨y4, false, (-1)⟩ : DItem)] : List DItem)).bind fun l5 =>
      spec_SendPush_l9 k (IntKind.wrap .i64 (x0 + 1)) x1 x2 x3 x4 l5
    else
      some ((⟨x3, x5⟩ : DSend), 0)
def spec_SendPush (k : Nat) (a0 : DSend) (a1 : ByteArray) : Option (DSend × Int) :=
  (spec_ValidSend k a0).bind fun r1 =>
  bif (!r1) then
    some ((⟨0, ([] : List DItem)⟩ : DSend), 1)
  else
    bif (decide ((a1.size : Int) > 200)) then
      some ((⟨0, ([] : List DItem)⟩ : DSend), 1)
    else
      (spec_Cut k a1).bind fun r2 =>
      bif (decide ((IntKind.wrap .i64 ((a0.Items.length : Int) + (r2.length : Int))) > 60)) then
        some ((⟨0, ([] : List DItem)⟩ : DSend), 3)
      else
        bif (decide ((IntKind.wrap .i64 (a0.Base + (IntKind.wrap .i64 ((a0.Items.length : Int) + (r2.length : Int))))) > 1000000)) then
          some ((⟨0, ([] : List DItem)⟩ : DSend), 3)
        else
          (spec_l4Copy k a0).bind fun r3 =>
          spec_SendPush_l9 k 0 0 r2 r3.Base ([] : List DItem) r3.Items
def laws_eqPart (k : Nat) (a0 : DPart) (a1 : DPart) : Option (Bool) :=
  bif (!(a0.Text.toList == a1.Text.toList)) then
    some false
  else
    bif (!(a0.Last == a1.Last)) then
      some false
    else
      some true
def laws_eqItem (k : Nat) (a0 : DItem) (a1 : DItem) : Option (Bool) :=
  (laws_eqPart k a0.Part a1.Part).bind fun r1 =>
  bif (!r1) then
    some false
  else
    bif (!(a0.Has == a1.Has)) then
      some false
    else
      bif (a0.Since != a1.Since) then
        some false
      else
        some true
def laws_eqItemS_l4 : Nat → List DItem → List DItem → Int → Option (Bool)
  | 0, _, _, _ => none
  | k + 1, x0, x1, x2 =>
    bif (decide (x2 < (x0.length : Int))) then
      (idx x0 x2).bind fun y1 =>
      (idx x1 x2).bind fun y2 =>
      (laws_eqItem k y1 y2).bind fun r3 =>
      bif (!r3) then
        some false
      else
        laws_eqItemS_l4 k x0 x1 (IntKind.wrap .i64 (x2 + 1))
    else
      some true
def laws_eqItemS (k : Nat) (a0 : List DItem) (a1 : List DItem) : Option (Bool) :=
  bif ((a0.length : Int) != (a1.length : Int)) then
    some false
  else
    laws_eqItemS_l4 k a0 a1 0
def laws_eqSend (k : Nat) (a0 : DSend) (a1 : DSend) : Option (Bool) :=
  bif (a0.Base != a1.Base) then
    some false
  else
    (laws_eqItemS k a0.Items a1.Items).bind fun r1 =>
    bif (!r1) then
      some false
    else
      some true
def laws_eqHeld (k : Nat) (a0 : DHeld) (a1 : DHeld) : Option (Bool) :=
  bif (a0.Seq != a1.Seq) then
    some false
  else
    (laws_eqPart k a0.Part a1.Part).bind fun r1 =>
    bif (!r1) then
      some false
    else
      some true
def laws_eqHeldS_l4 : Nat → List DHeld → List DHeld → Int → Option (Bool)
  | 0, _, _, _ => none
  | k + 1, x0, x1, x2 =>
    bif (decide (x2 < (x0.length : Int))) then
      (idx x0 x2).bind fun y1 =>
      (idx x1 x2).bind fun y2 =>
      (laws_eqHeld k y1 y2).bind fun r3 =>
      bif (!r3) then
        some false
      else
        laws_eqHeldS_l4 k x0 x1 (IntKind.wrap .i64 (x2 + 1))
    else
      some true
def laws_eqHeldS (k : Nat) (a0 : List DHeld) (a1 : List DHeld) : Option (Bool) :=
  bif ((a0.length : Int) != (a1.length : Int)) then
    some false
  else
    laws_eqHeldS_l4 k a0 a1 0
def laws_eqStringS_l4 : Nat → List ByteArray → List ByteArray → Int → Option (Bool)
  | 0, _, _, _ => none
  | k + 1, x0, x1, x2 =>
    bif (decide (x2 < (x0.length : Int))) then
      (idx x0 x2).bind fun y1 =>
      (idx x1 x2).bind fun y2 =>
      bif (!(y1.toList == y2.toList)) then
        some false
      else
        laws_eqStringS_l4 k x0 x1 (IntKind.wrap .i64 (x2 + 1))
    else
      some true
def laws_eqStringS (k : Nat) (a0 : List ByteArray) (a1 : List ByteArray) : Option (Bool) :=
  bif ((a0.length : Int) != (a1.length : Int)) then
    some false
  else
    laws_eqStringS_l4 k a0 a1 0
def laws_eqTake (k : Nat) (a0 : DTake) (a1 : DTake) : Option (Bool) :=
  bif (a0.Next != a1.Next) then
    some false
  else
    (laws_eqHeldS k a0.Held a1.Held).bind fun r1 =>
    bif (!r1) then
      some false
    else
      bif (!(a0.Open.toList == a1.Open.toList)) then
        some false
      else
        (laws_eqStringS k a0.Ready a1.Ready).bind fun r2 =>
        bif (!r2) then
          some false
        else
          some true
def laws_markText_l4 : Nat → Int → ByteArray → Option (ByteArray)
  | 0, _, _ => none
  | k + 1, x0, x1 =>
    bif (decide (x0 > 0)) then
      (qrem x0 10).bind fun q1 =>
      (sadd (bstr ([(IntKind.wrap .u8 (IntKind.wrap .i64 (48 + q1)))] : List Int)) x1).bind fun t2 =>
      (qdiv x0 10).bind fun q3 =>
      laws_markText_l4 k (IntKind.wrap .i64 (q3)) t2
    else
      (sadd (⟨#[109]⟩ : ByteArray) x1).bind fun t4 =>
      some t4
def laws_markText (k : Nat) (a0 : Int) : Option (ByteArray) :=
  bif (decide (a0 ≤ 0)) then
    some (⟨#[109, 48]⟩ : ByteArray)
  else
    laws_markText_l4 k a0 (⟨#[]⟩ : ByteArray)
def laws_heldItemS_l2 : Nat → List DItem → Int → Int → Option (Int)
  | 0, _, _, _ => none
  | k + 1, x0, x1, x2 =>
    bif (decide (x2 < (x0.length : Int))) then
      (idx x0 x2).bind fun y1 =>
      (laws_markText k x1).bind fun r2 =>
      bif (!(y1.Part.Text.toList == r2.toList)) then
        some (-1)
      else
        (idx x0 x2).bind fun y3 =>
        (qrem (IntKind.wrap .i64 (x1 + 1)) 3).bind fun q4 =>
        bif (!(y3.Part.Last == (q4 == 0))) then
          some (-1)
        else
          (idx x0 x2).bind fun y5 =>
          (qrem (IntKind.wrap .i64 ((IntKind.wrap .i64 (x1 + 1)) + 1)) 3).bind fun q6 =>
          bif (!(y5.Has == (q6 == 0))) then
            some (-1)
          else
            (idx x0 x2).bind fun y7 =>
            bif (y7.Since != (IntKind.wrap .i64 ((IntKind.wrap .i64 ((IntKind.wrap .i64 (x1 + 1)) + 1)) + 1))) then
              some (-1)
            else
              laws_heldItemS_l2 k x0 (IntKind.wrap .i64 ((IntKind.wrap .i64 ((IntKind.wrap .i64 ((IntKind.wrap .i64 (x1 + 1)) + 1)) + 1)) + 1)) (IntKind.wrap .i64 (x2 + 1))
    else
      some x1
def laws_heldItemS (k : Nat) (a0 : List DItem) (a1 : Int) : Option (Int) :=
  laws_heldItemS_l2 k a0 a1 0
def laws_heldHeldS_l2 : Nat → List DHeld → Int → Int → Option (Int)
  | 0, _, _, _ => none
  | k + 1, x0, x1, x2 =>
    bif (decide (x2 < (x0.length : Int))) then
      (idx x0 x2).bind fun y1 =>
      bif (y1.Seq != x1) then
        some (-1)
      else
        (idx x0 x2).bind fun y2 =>
        (laws_markText k (IntKind.wrap .i64 (x1 + 1))).bind fun r3 =>
        bif (!(y2.Part.Text.toList == r3.toList)) then
          some (-1)
        else
          (idx x0 x2).bind fun y4 =>
          (qrem (IntKind.wrap .i64 ((IntKind.wrap .i64 (x1 + 1)) + 1)) 3).bind fun q5 =>
          bif (!(y4.Part.Last == (q5 == 0))) then
            some (-1)
          else
            laws_heldHeldS_l2 k x0 (IntKind.wrap .i64 ((IntKind.wrap .i64 ((IntKind.wrap .i64 (x1 + 1)) + 1)) + 1)) (IntKind.wrap .i64 (x2 + 1))
    else
      some x1
def laws_heldHeldS (k : Nat) (a0 : List DHeld) (a1 : Int) : Option (Int) :=
  laws_heldHeldS_l2 k a0 a1 0
def laws_heldStringS_l2 : Nat → List ByteArray → Int → Int → Option (Int)
  | 0, _, _, _ => none
  | k + 1, x0, x1, x2 =>
    bif (decide (x2 < (x0.length : Int))) then
      (idx x0 x2).bind fun y1 =>
      (laws_markText k x1).bind fun r2 =>
      bif (!(y1.toList == r2.toList)) then
        some (-1)
      else
        laws_heldStringS_l2 k x0 (IntKind.wrap .i64 (x1 + 1)) (IntKind.wrap .i64 (x2 + 1))
    else
      some x1
def laws_heldStringS (k : Nat) (a0 : List ByteArray) (a1 : Int) : Option (Int) :=
  laws_heldStringS_l2 k a0 a1 0
end Km.X
namespace Km.X
open Go Km
set_option linter.unusedVariables false
set_option maxRecDepth 100000
def impl_NewEnd (k : Nat) (a0 : Int) : Option (DEnd) :=
  bif (a0 != 1) then
    bif (a0 != 2) then
      some (⟨0, false, 0, 0, 0, false, (⟨0, ([] : List DItem)⟩ : DSend), (⟨0, ([] : List DHeld), (⟨#[]⟩ : ByteArray), ([] : List ByteArray)⟩ : DTake)⟩ : DEnd)
    else
      some (⟨a0, true, 1, 0, 0, false, (⟨0, ([] : List DItem)⟩ : DSend), (⟨0, ([] : List DHeld), (⟨#[]⟩ : ByteArray), ([] : List ByteArray)⟩ : DTake)⟩ : DEnd)
  else
    some (⟨a0, true, 1, 0, 0, false, (⟨0, ([] : List DItem)⟩ : DSend), (⟨0, ([] : List DHeld), (⟨#[]⟩ : ByteArray), ([] : List ByteArray)⟩ : DTake)⟩ : DEnd)
def spec_NewEnd (k : Nat) (a0 : Int) : Option (DEnd) :=
  (spec_l1In k a0 1 2).bind fun r1 =>
  bif (!r1) then
    some (⟨0, false, 0, 0, 0, false, (⟨0, ([] : List DItem)⟩ : DSend), (⟨0, ([] : List DHeld), (⟨#[]⟩ : ByteArray), ([] : List ByteArray)⟩ : DTake)⟩ : DEnd)
  else
    some (⟨a0, true, 1, 0, 0, false, (⟨0, ([] : List DItem)⟩ : DSend), (⟨0, ([] : List DHeld), (⟨#[]⟩ : ByteArray), ([] : List ByteArray)⟩ : DTake)⟩ : DEnd)
def laws_eqEnd (k : Nat) (a0 : DEnd) (a1 : DEnd) : Option (Bool) :=
  bif (a0.Number != a1.Number) then
    some false
  else
    bif (!(a0.Up == a1.Up)) then
      some false
    else
      bif (a0.Life != a1.Life) then
        some false
      else
        bif (a0.Peer != a1.Peer) then
          some false
        else
          bif (a0.Since != a1.Since) then
            some false
          else
            bif (!(a0.Owes == a1.Owes)) then
              some false
            else
              (laws_eqSend k a0.Send a1.Send).bind fun r1 =>
              bif (!r1) then
                some false
              else
                (laws_eqTake k a0.Take a1.Take).bind fun r2 =>
                bif (!r2) then
                  some false
                else
                  some true
end Km.X
