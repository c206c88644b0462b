/- A part of the proof of FnExactRight: the functions that it reads off the program. There is no condition. -/
import Derived.Test.YthafpbpfnkncmaaKmAm3
namespace Km.X
open Go Km
set_option linter.unusedVariables false
set_option maxRecDepth 100000
structure DPart where
  Text : ByteArray
  Last : Bool
structure DItem where
  Part : DPart
  Has : Bool
  Since : Int
structure DSend where
  Base : Int
  Items : List DItem
structure DHeld where
  Seq : Int
  Part : DPart
structure DTake where
  Next : Int
  Held : List DHeld
  Open : ByteArray
  Ready : List ByteArray
structure DEnd where
  Number : Int
  Up : Bool
  Life : Int
  Peer : Int
  Since : Int
  Owes : Bool
  Send : DSend
  Take : DTake
structure DPacket where
  Kind : Int
  From : Int
  Mine : Int
  Yours : Int
  Next : Int
  Mask : Int
  Seq : Int
  Last : Bool
  Part : ByteArray
structure DPair where
  f : Int
  a : Int
  b : Int
structure DParcel where
  To : Int
  Sent : ByteArray
  Bytes : ByteArray
structure DRecord where
  From : Int
  A : Int
  B : Int
  Text : ByteArray
structure DWorld where
  Key : ByteArray
  Width : Int
  Ends : List DEnd
  Flight : List DParcel
  Forged : ByteArray
  Given : List DRecord
  Taken : List DRecord
def eq_pair (x y : DPair) : Bool := ((x.f == y.f) && ((x.a == y.a) && ((x.b == y.b) && true)))
theorem eq_pair_eq {x y : DPair} (h : eq_pair x y = true) : x = y := by
  obtain ⟨x0, x1, x2⟩ := x
  obtain ⟨y0, y1, y2⟩ := y
  simp only [eq_pair, Bool.and_eq_true, Bool.and_true, beq_iff_eq] at h
  obtain ⟨h0, h1, h2⟩ := h
  subst h0; subst h1; subst h2; rfl
def wf_str (x : ByteArray) : Prop := x.size ≤ maxLen
def wfDPart (x : DPart) : Prop := x.Text.size ≤ maxLen ∧ True
def wfDItem (x : DItem) : Prop := wfDPart x.Part ∧ True ∧ (Lit.int .i64 x.Since).wf = true
def wf_item (x : DItem) : Prop := wfDItem x
def wfDSend (x : DSend) : Prop := (Lit.int .i64 x.Base).wf = true ∧ (x.Items.length ≤ maxLen ∧ ∀ y ∈ x.Items, wf_item y)
def wfDHeld (x : DHeld) : Prop := (Lit.int .i64 x.Seq).wf = true ∧ wfDPart x.Part
def wf_held (x : DHeld) : Prop := wfDHeld x
def wfDTake (x : DTake) : Prop := (Lit.int .i64 x.Next).wf = true ∧ (x.Held.length ≤ maxLen ∧ ∀ y ∈ x.Held, wf_held y) ∧ x.Open.size ≤ maxLen ∧ (x.Ready.length ≤ maxLen ∧ ∀ y ∈ x.Ready, wf_str y)
def wfDEnd (x : DEnd) : Prop := (Lit.int .i64 x.Number).wf = true ∧ True ∧ (Lit.int .i64 x.Life).wf = true ∧ (Lit.int .i64 x.Peer).wf = true ∧ (Lit.int .i64 x.Since).wf = true ∧ True ∧ wfDSend x.Send ∧ wfDTake x.Take
def wf_end (x : DEnd) : Prop := wfDEnd x
def wfDPacket (x : DPacket) : Prop := (Lit.int .i64 x.Kind).wf = true ∧ (Lit.int .i64 x.From).wf = true ∧ (Lit.int .i64 x.Mine).wf = true ∧ (Lit.int .i64 x.Yours).wf = true ∧ (Lit.int .i64 x.Next).wf = true ∧ (Lit.int .i64 x.Mask).wf = true ∧ (Lit.int .i64 x.Seq).wf = true ∧ True ∧ x.Part.size ≤ maxLen
def wfDParcel (x : DParcel) : Prop := (Lit.int .i64 x.To).wf = true ∧ x.Sent.size ≤ maxLen ∧ x.Bytes.size ≤ maxLen
def wf_parcel (x : DParcel) : Prop := wfDParcel x
def wfDRecord (x : DRecord) : Prop := (Lit.int .i64 x.From).wf = true ∧ (Lit.int .i64 x.A).wf = true ∧ (Lit.int .i64 x.B).wf = true ∧ x.Text.size ≤ maxLen
def wf_record (x : DRecord) : Prop := wfDRecord x
def wfDWorld (x : DWorld) : Prop := x.Key.size ≤ maxLen ∧ (Lit.int .i64 x.Width).wf = true ∧ (x.Ends.length ≤ maxLen ∧ ∀ y ∈ x.Ends, wf_end y) ∧ (x.Flight.length ≤ maxLen ∧ ∀ y ∈ x.Flight, wf_parcel y) ∧ x.Forged.size ≤ maxLen ∧ (x.Given.length ≤ maxLen ∧ ∀ y ∈ x.Given, wf_record y) ∧ (x.Taken.length ≤ maxLen ∧ ∀ y ∈ x.Taken, wf_record y)
end Km.X
namespace Km.X
open Go Km
set_option linter.unusedVariables false
set_option maxRecDepth 100000
def spec_l1In (k : Nat) (a0 : Int) (a1 : Int) (a2 : Int) : Option (Bool) :=
  bif (decide (a0 ≥ a1)) then
    some (decide (a0 ≤ a2))
  else
    some false
def impl_in (k : Nat) (a0 : Int) (a1 : Int) (a2 : Int) : Option (Bool) :=
  bif (decide (a0 ≥ a1)) then
    some (decide (a0 ≤ a2))
  else
    some false
def impl_ValidSend_l4 : Nat → List DItem → Int → Int → Option (Bool)
  | 0, _, _, _ => none
  | k + 1, x0, x1, x2 =>
    bif (decide (x2 < x1)) then
      (idx x0 x2).bind fun y2 =>
      bif (decide ((y2.Part.Text.size : Int) > 20)) then
        some false
      else
        (impl_in k y2.Since (-1) 3).bind fun r3 =>
        bif (!r3) then
          some false
        else
          bif (decide (x2 ≥ 8)) then
            bif (y2.Since != (-1)) then
              some false
            else
              bif y2.Has then
                bif (decide (y2.Since < 0)) then
                  some false
                else
                  impl_ValidSend_l4 k x0 x1 (IntKind.wrap .i64 (x2 + 1))
              else
                impl_ValidSend_l4 k x0 x1 (IntKind.wrap .i64 (x2 + 1))
          else
            bif y2.Has then
              bif (decide (y2.Since < 0)) then
                some false
              else
                impl_ValidSend_l4 k x0 x1 (IntKind.wrap .i64 (x2 + 1))
            else
              impl_ValidSend_l4 k x0 x1 (IntKind.wrap .i64 (x2 + 1))
    else
      some true
def impl_ValidSend (k : Nat) (a0 : DSend) : Option (Bool) :=
  bif (decide ((a0.Items.length : Int) > 60)) then
    some false
  else
    (impl_in k a0.Base 0 1000000).bind fun r1 =>
    bif (!r1) then
      some false
    else
      bif (decide ((IntKind.wrap .i64 (a0.Base + (a0.Items.length : Int))) > 1000000)) then
        some false
      else
        impl_ValidSend_l4 k a0.Items (a0.Items.length : Int) 0
def impl_goes (k : Nat) (a0 : DTake) (a1 : DPart) : Option (Bool) :=
  bif (decide ((IntKind.wrap .i64 ((a0.Open.size : Int) + (a1.Text.size : Int))) ≤ 200)) then
    bif (!a1.Last) then
      some true
    else
      some (decide ((a0.Ready.length : Int) < 4))
  else
    some false
mutual
def impl_ValidTake_l4 : Nat → List DHeld → Int → Int → Int → List DHeld → ByteArray → List ByteArray → Option (Bool)
  | 0, _, _, _, _, _, _, _ => none
  | k + 1, x0, x1, x2, x3, x4, x5, x6 =>
    bif (decide (x2 < x1)) then
      (idx x0 x2).bind fun y2 =>
      (impl_in k y2.Seq x3 (IntKind.wrap .i64 ((IntKind.wrap .i64 (x3 + 8)) - 1))).bind fun r3 =>
      bif (!r3) then
        some false
      else
        bif (decide (y2.Seq > 999999)) then
          some false
        else
          bif (decide ((y2.Part.Text.size : Int) > 20)) then
            some false
          else
            bif (decide (x2 > 0)) then
              (idx x4 (IntKind.wrap .i64 (x2 - 1))).bind fun y4 =>
              bif (decide (y4.Seq ≥ y2.Seq)) then
                some false
              else
                bif (y2.Seq == x3) then
                  (impl_goes k (⟨x3, x4, x5, x6⟩ : DTake) y2.Part).bind fun r5 =>
                  bif r5 then
                    some false
                  else
                    impl_ValidTake_l4 k x0 x1 (IntKind.wrap .i64 (x2 + 1)) x3 x4 x5 x6
                else
                  impl_ValidTake_l4 k x0 x1 (IntKind.wrap .i64 (x2 + 1)) x3 x4 x5 x6
            else
              bif (y2.Seq == x3) then
                (impl_goes k (⟨x3, x4, x5, x6⟩ : DTake) y2.Part).bind fun r6 =>
                bif r6 then
                  some false
                else
                  impl_ValidTake_l4 k x0 x1 (IntKind.wrap .i64 (x2 + 1)) x3 x4 x5 x6
              else
                impl_ValidTake_l4 k x0 x1 (IntKind.wrap .i64 (x2 + 1)) x3 x4 x5 x6
    else
      impl_ValidTake_l12 k x6 (x6.length : Int) 0
def impl_ValidTake_l12 : Nat → List ByteArray → Int → Int → Option (Bool)
  | 0, _, _, _ => none
  | k + 1, x0, x1, x2 =>
    bif (decide (x2 < x1)) then
      (idx x0 x2).bind fun y7 =>
      bif (decide ((y7.size : Int) > 200)) then
        some false
      else
        impl_ValidTake_l12 k x0 x1 (IntKind.wrap .i64 (x2 + 1))
    else
      some true
end
def impl_ValidTake (k : Nat) (a0 : DTake) : Option (Bool) :=
  (impl_in k a0.Next 0 1000000).bind fun r1 =>
  bif (!r1) then
    some false
  else
    bif (decide ((a0.Held.length : Int) > 8)) then
      some false
    else
      bif (decide ((a0.Open.size : Int) > 200)) then
        some false
      else
        bif (decide ((a0.Ready.length : Int) > 4)) then
          some false
        else
          impl_ValidTake_l4 k a0.Held (a0.Held.length : Int) 0 a0.Next a0.Held a0.Open a0.Ready
def spec_ValidSend_l4 : Nat → Int → Int → List DItem → Option (Bool)
  | 0, _, _, _ => none
  | k + 1, x0, x1, x2 =>
    bif (decide (x0 < (x2.length : Int))) then
      (idx x2 x0).bind fun y2 =>
      bif (decide ((y2.Part.Text.size : Int) > 20)) then
        some false
      else
        (spec_l1In k y2.Since (-1) 3).bind fun r3 =>
        bif (!r3) then
          some false
        else
          bif (decide (x0 ≥ 8)) then
            bif (y2.Since != (-1)) then
              some false
            else
              bif y2.Has then
                bif (decide (y2.Since < 0)) then
                  some false
                else
                  spec_ValidSend_l4 k (IntKind.wrap .i64 (x0 + 1)) x1 x2
              else
                spec_ValidSend_l4 k (IntKind.wrap .i64 (x0 + 1)) x1 x2
          else
            bif y2.Has then
              bif (decide (y2.Since < 0)) then
                some false
              else
                spec_ValidSend_l4 k (IntKind.wrap .i64 (x0 + 1)) x1 x2
            else
              spec_ValidSend_l4 k (IntKind.wrap .i64 (x0 + 1)) x1 x2
    else
      some true
def spec_ValidSend (k : Nat) (a0 : DSend) : Option (Bool) :=
  bif (decide ((a0.Items.length : Int) > 60)) then
    some false
  else
    (spec_l1In k a0.Base 0 1000000).bind fun r1 =>
    bif (!r1) then
      some false
    else
      bif (decide ((IntKind.wrap .i64 (a0.Base + (a0.Items.length : Int))) > 1000000)) then
        some false
      else
        spec_ValidSend_l4 k 0 a0.Base a0.Items
def spec_l5Near (k : Nat) (a0 : DTake) (a1 : Int) : Option (Bool) :=
  (spec_l1In k a1 a0.Next (IntKind.wrap .i64 ((IntKind.wrap .i64 (a0.Next + 8)) - 1))).bind fun r1 =>
  bif r1 then
    some (decide (a1 ≤ 999999))
  else
    some false
def spec_l5Can (k : Nat) (a0 : DTake) (a1 : DPart) : Option (Bool) :=
  bif (decide ((IntKind.wrap .i64 ((a0.Open.size : Int) + (a1.Text.size : Int))) ≤ 200)) then
    bif (!a1.Last) then
      some true
    else
      some (decide ((a0.Ready.length : Int) < 4))
  else
    some false
mutual
def spec_ValidTake_l4 : Nat → Int → Int → List DHeld → ByteArray → List ByteArray → Option (Bool)
  | 0, _, _, _, _, _ => none
  | k + 1, x0, x1, x2, x3, x4 =>
    bif (decide (x0 < (x4.length : Int))) then
      (idx x4 x0).bind fun y2 =>
      bif (decide ((y2.size : Int) > 200)) then
        some false
      else
        spec_ValidTake_l4 k (IntKind.wrap .i64 (x0 + 1)) x1 x2 x3 x4
    else
      spec_ValidTake_l9 k 0 x1 x2 x3 x4
def spec_ValidTake_l9 : Nat → Int → Int → List DHeld → ByteArray → List ByteArray → Option (Bool)
  | 0, _, _, _, _, _ => none
  | k + 1, x0, x1, x2, x3, x4 =>
    bif (decide (x0 < (x2.length : Int))) then
      (idx x2 x0).bind fun y3 =>
      (spec_l5Near k (⟨x1, x2, x3, x4⟩ : DTake) y3.Seq).bind fun r4 =>
      bif (!r4) then
        some false
      else
        bif (decide ((y3.Part.Text.size : Int) > 20)) then
          some false
        else
          bif (decide (x0 > 0)) then
            (idx x2 (IntKind.wrap .i64 (x0 - 1))).bind fun y5 =>
            bif (decide (y5.Seq ≥ y3.Seq)) then
              some false
            else
              bif (y3.Seq == x1) then
                (spec_l5Can k (⟨x1, x2, x3, x4⟩ : DTake) y3.Part).bind fun r6 =>
                bif r6 then
                  some false
                else
                  spec_ValidTake_l9 k (IntKind.wrap .i64 (x0 + 1)) x1 x2 x3 x4
              else
                spec_ValidTake_l9 k (IntKind.wrap .i64 (x0 + 1)) x1 x2 x3 x4
          else
            bif (y3.Seq == x1) then
              (spec_l5Can k (⟨x1, x2, x3, x4⟩ : DTake) y3.Part).bind fun r7 =>
              bif r7 then
                some false
              else
                spec_ValidTake_l9 k (IntKind.wrap .i64 (x0 + 1)) x1 x2 x3 x4
            else
              spec_ValidTake_l9 k (IntKind.wrap .i64 (x0 + 1)) x1 x2 x3 x4
    else
      some true
end
def spec_ValidTake (k : Nat) (a0 : DTake) : Option (Bool) :=
  (spec_l1In k a0.Next 0 1000000).bind fun r1 =>
  bif (!r1) then
    some false
  else
    bif (decide ((a0.Held.length : Int) > 8)) then
      some false
    else
      bif (decide ((a0.Open.size : Int) > 200)) then
        some false
      else
        bif (decide ((a0.Ready.length : Int) > 4)) then
          some false
        else
          spec_ValidTake_l4 k 0 a0.Next a0.Held a0.Open a0.Ready
def laws_szPart (k : Nat) (a0 : DPart) (a1 : Int) : Option (Int) :=
  bif (decide ((IntKind.wrap .i64 (a1 - (a0.Text.size : Int))) < 0)) then
    some (-1)
  else
    some (IntKind.wrap .i64 (a1 - (a0.Text.size : Int)))
def laws_szItem (k : Nat) (a0 : DItem) (a1 : Int) : Option (Int) :=
  (laws_szPart k a0.Part a1).bind fun r1 =>
  bif (decide (r1 < 0)) then
    some (-1)
  else
    some r1
def laws_szItemS_l5 : Nat → List DItem → Int → Int → Option (Int)
  | 0, _, _, _ => none
  | k + 1, x0, x1, x2 =>
    bif (decide (x2 < (x0.length : Int))) then
      (idx x0 x2).bind fun y1 =>
      (laws_szItem k y1 x1).bind fun r2 =>
      bif (decide (r2 < 0)) then
        some (-1)
      else
        laws_szItemS_l5 k x0 r2 (IntKind.wrap .i64 (x2 + 1))
    else
      some x1
def laws_szItemS (k : Nat) (a0 : List DItem) (a1 : Int) : Option (Int) :=
  bif (decide ((IntKind.wrap .i64 (a1 - (a0.length : Int))) < 0)) then
    some (-1)
  else
    laws_szItemS_l5 k a0 (IntKind.wrap .i64 (a1 - (a0.length : Int))) 0
def laws_szSend (k : Nat) (a0 : DSend) (a1 : Int) : Option (Int) :=
  (laws_szItemS k a0.Items a1).bind fun r1 =>
  bif (decide (r1 < 0)) then
    some (-1)
  else
    some r1
def laws_szHeld (k : Nat) (a0 : DHeld) (a1 : Int) : Option (Int) :=
  (laws_szPart k a0.Part a1).bind fun r1 =>
  bif (decide (r1 < 0)) then
    some (-1)
  else
    some r1
def laws_szHeldS_l5 : Nat → List DHeld → Int → Int → Option (Int)
  | 0, _, _, _ => none
  | k + 1, x0, x1, x2 =>
    bif (decide (x2 < (x0.length : Int))) then
      (idx x0 x2).bind fun y1 =>
      (laws_szHeld k y1 x1).bind fun r2 =>
      bif (decide (r2 < 0)) then
        some (-1)
      else
        laws_szHeldS_l5 k x0 r2 (IntKind.wrap .i64 (x2 + 1))
    else
      some x1
def laws_szHeldS (k : Nat) (a0 : List DHeld) (a1 : Int) : Option (Int) :=
  bif (decide ((IntKind.wrap .i64 (a1 - (a0.length : Int))) < 0)) then
    some (-1)
  else
    laws_szHeldS_l5 k a0 (IntKind.wrap .i64 (a1 - (a0.length : Int))) 0
def laws_szStringS_l5 : Nat → List ByteArray → Int → Int → Option (Int)
  | 0, _, _, _ => none
  | k + 1, x0, x1, x2 =>
    bif (decide (x2 < (x0.length : Int))) then
      (idx x0 x2).bind fun y1 =>
      bif (decide ((IntKind.wrap .i64 (x1 - (y1.size : Int))) < 0)) then
        some (-1)
      else
        laws_szStringS_l5 k x0 (IntKind.wrap .i64 (x1 - (y1.size : Int))) (IntKind.wrap .i64 (x2 + 1))
    else
      some x1
def laws_szStringS (k : Nat) (a0 : List ByteArray) (a1 : Int) : Option (Int) :=
  bif (decide ((IntKind.wrap .i64 (a1 - (a0.length : Int))) < 0)) then
    some (-1)
  else
    laws_szStringS_l5 k a0 (IntKind.wrap .i64 (a1 - (a0.length : Int))) 0
def laws_szTake (k : Nat) (a0 : DTake) (a1 : Int) : Option (Int) :=
  (laws_szHeldS k a0.Held a1).bind fun r1 =>
  bif (decide (r1 < 0)) then
    some (-1)
  else
    bif (decide ((IntKind.wrap .i64 (r1 - (a0.Open.size : Int))) < 0)) then
      some (-1)
    else
      (laws_szStringS k a0.Ready (IntKind.wrap .i64 (r1 - (a0.Open.size : Int)))).bind fun r2 =>
      bif (decide (r2 < 0)) then
        some (-1)
      else
        some r2
def laws_toPart (k : Nat) (a0 : DPart) : Option (DPart) :=
  some a0
def laws_toItem (k : Nat) (a0 : DItem) : Option (DItem) :=
  (laws_toPart k a0.Part).bind fun r1 =>
  some (⟨r1, a0.Has, a0.Since⟩ : DItem)
def laws_toItemS_l3 : Nat → List DItem → Int → List DItem → Option (List DItem)
  | 0, _, _, _ => none
  | k + 1, x0, x1, x2 =>
    bif (decide (x1 < (x0.length : Int))) then
      (idx x0 x1).bind fun y2 =>
      (laws_toItem k y2).bind fun r3 =>
      (idx x2 x1).bind fun _ =>
      (x2[(Int.toNat x1)]?).bind fun y4 =>
      laws_toItemS_l3 k x0 (IntKind.wrap .i64 (x1 + 1)) (x2.set (Int.toNat x1) r3)
    else
      some x2
def laws_toItemS (k : Nat) (a0 : List DItem) : Option (List DItem) :=
  (if ((a0.length : Int) : Int) = (a0.length : Int) then room 40 (a0.length : Int) else none).bind fun n1 =>
  laws_toItemS_l3 k a0 0 (List.replicate n1 (⟨(⟨(⟨#[]⟩ : ByteArray), false⟩ : DPart), false, 0⟩ : DItem))
def laws_toSend (k : Nat) (a0 : DSend) : Option (DSend) :=
  (laws_toItemS k a0.Items).bind fun r1 =>
  some (⟨a0.Base, r1⟩ : DSend)
def laws_toHeld (k : Nat) (a0 : DHeld) : Option (DHeld) :=
  (laws_toPart k a0.Part).bind fun r1 =>
  some (⟨a0.Seq, r1⟩ : DHeld)
def laws_toHeldS_l3 : Nat → List DHeld → Int → List DHeld → Option (List DHeld)
  | 0, _, _, _ => none
  | k + 1, x0, x1, x2 =>
    bif (decide (x1 < (x0.length : Int))) then
      (idx x0 x1).bind fun y2 =>
      (laws_toHeld k y2).bind fun r3 =>
      (idx x2 x1).bind fun _ =>
      (x2[(Int.toNat x1)]?).bind fun y4 =>
      laws_toHeldS_l3 k x0 (IntKind.wrap .i64 (x1 + 1)) (x2.set (Int.toNat x1) r3)
    else
      some x2
def laws_toHeldS (k : Nat) (a0 : List DHeld) : Option (List DHeld) :=
  (if ((a0.length : Int) : Int) = (a0.length : Int) then room 32 (a0.length : Int) else none).bind fun n1 =>
  laws_toHeldS_l3 k a0 0 (List.replicate n1 (⟨0, (⟨(⟨#[]⟩ : ByteArray), false⟩ : DPart)⟩ : DHeld))
def laws_toStringS_l3 : Nat → List ByteArray → Int → List ByteArray → Option (List ByteArray)
  | 0, _, _, _ => none
  | k + 1, x0, x1, x2 =>
    bif (decide (x1 < (x0.length : Int))) then
      (idx x0 x1).bind fun y2 =>
      (idx x2 x1).bind fun _ =>
      (x2[(Int.toNat x1)]?).bind fun y3 =>
      laws_toStringS_l3 k x0 (IntKind.wrap .i64 (x1 + 1)) (x2.set (Int.toNat x1) y2)
    else
      some x2
def laws_toStringS (k : Nat) (a0 : List ByteArray) : Option (List ByteArray) :=
  (if ((a0.length : Int) : Int) = (a0.length : Int) then room 16 (a0.length : Int) else none).bind fun n1 =>
  laws_toStringS_l3 k a0 0 (List.replicate n1 (⟨#[]⟩ : ByteArray))
def laws_toTake (k : Nat) (a0 : DTake) : Option (DTake) :=
  (laws_toHeldS k a0.Held).bind fun r1 =>
  (laws_toStringS k a0.Ready).bind fun r2 =>
  some (⟨a0.Next, r1, a0.Open, r2⟩ : DTake)
def laws_eqPart (k : Nat) (a0 : DPart) (a1 : DPart) : Option (Bool) :=
  bif (!(a0.Text.toList == a1.Text.toList)) then
    some false
  else
    bif (!(a0.Last == a1.Last)) then
      some false
    else
      some true
def laws_eqItem (k : Nat) (a0 : DItem) (a1 : DItem) : Option (Bool) :=
  (laws_eqPart k a0.Part a1.Part).bind fun r1 =>
  bif (!r1) then
    some false
  else
    bif (!(a0.Has == a1.Has)) then
      some false
    else
      bif (a0.Since != a1.Since) then
        some false
      else
        some true
def laws_eqItemS_l4 : Nat → List DItem → List DItem → Int → Option (Bool)
  | 0, _, _, _ => none
  | k + 1, x0, x1, x2 =>
    bif (decide (x2 < (x0.length : Int))) then
      (idx x0 x2).bind fun y1 =>
      (idx x1 x2).bind fun y2 =>
      (laws_eqItem k y1 y2).bind fun r3 =>
      bif (!r3) then
        some false
      else
        laws_eqItemS_l4 k x0 x1 (IntKind.wrap .i64 (x2 + 1))
    else
      some true
def laws_eqItemS (k : Nat) (a0 : List DItem) (a1 : List DItem) : Option (Bool) :=
  bif ((a0.length : Int) != (a1.length : Int)) then
    some false
  else
    laws_eqItemS_l4 k a0 a1 0
def laws_eqSend (k : Nat) (a0 : DSend) (a1 : DSend) : Option (Bool) :=
  bif (a0.Base != a1.Base) then
    some false
  else
    (laws_eqItemS k a0.Items a1.Items).bind fun r1 =>
    bif (!r1) then
      some false
    else
      some true
def laws_eqHeld (k : Nat) (a0 : DHeld) (a1 : DHeld) : Option (Bool) :=
  bif (a0.Seq != a1.Seq) then
    some false
  else
    (laws_eqPart k a0.Part a1.Part).bind fun r1 =>
    bif (!r1) then
      some false
    else
      some true
def laws_eqHeldS_l4 : Nat → List DHeld → List DHeld → Int → Option (Bool)
  | 0, _, _, _ => none
  | k + 1, x0, x1, x2 =>
    bif (decide (x2 < (x0.length : Int))) then
      (idx x0 x2).bind fun y1 =>
      (idx x1 x2).bind fun y2 =>
      (laws_eqHeld k y1 y2).bind fun r3 =>
      bif (!r3) then
        some false
      else
        laws_eqHeldS_l4 k x0 x1 (IntKind.wrap .i64 (x2 + 1))
    else
      some true
def laws_eqHeldS (k : Nat) (a0 : List DHeld) (a1 : List DHeld) : Option (Bool) :=
  bif ((a0.length : Int) != (a1.length : Int)) then
    some false
  else
    laws_eqHeldS_l4 k a0 a1 0
def laws_eqStringS_l4 : Nat → List ByteArray → List ByteArray → Int → Option (Bool)
  | 0, _, _, _ => none
  | k + 1, x0, x1, x2 =>
    bif (decide (x2 < (x0.length : Int))) then
      (idx x0 x2).bind fun y1 =>
      (idx x1 x2).bind fun y2 =>
      bif (!(y1.toList == y2.toList)) then
        some false
      else
        laws_eqStringS_l4 k x0 x1 (IntKind.wrap .i64 (x2 + 1))
    else
      some true
def laws_eqStringS (k : Nat) (a0 : List ByteArray) (a1 : List ByteArray) : Option (Bool) :=
  bif ((a0.length : Int) != (a1.length : Int)) then
    some false
  else
    laws_eqStringS_l4 k a0 a1 0
def laws_eqTake (k : Nat) (a0 : DTake) (a1 : DTake) : Option (Bool) :=
  bif (a0.Next != a1.Next) then
    some false
  else
    (laws_eqHeldS k a0.Held a1.Held).bind fun r1 =>
    bif (!r1) then
      some false
    else
      bif (!(a0.Open.toList == a1.Open.toList)) then
        some false
      else
        (laws_eqStringS k a0.Ready a1.Ready).bind fun r2 =>
        bif (!r2) then
          some false
        else
          some true
end Km.X
namespace Km.X
open Go Km
set_option linter.unusedVariables false
set_option maxRecDepth 100000
def impl_noSend (k : Nat) (a0 : DSend) : Option (Bool) :=
  bif (a0.Base == 0) then
    some ((a0.Items.length : Int) == 0)
  else
    some false
def impl_noTake (k : Nat) (a0 : DTake) : Option (Bool) :=
  bif (a0.Next == 0) then
    bif ((a0.Held.length : Int) == 0) then
      bif (a0.Open.toList == (⟨#[]⟩ : ByteArray).toList) then
        some ((a0.Ready.length : Int) == 0)
      else
        some false
    else
      some false
  else
    some false
def impl_ValidEnd (k : Nat) (a0 : DEnd) : Option (Bool) :=
  bif (a0.Number != 1) then
    bif (a0.Number != 2) then
      some false
    else
      (impl_in k a0.Life 1 1000).bind fun r1 =>
      bif (!r1) then
        some false
      else
        (impl_in k a0.Peer 0 1000).bind fun r2 =>
        bif (!r2) then
          some false
        else
          (impl_in k a0.Since 0 1000000).bind fun r3 =>
          bif (!r3) then
            some false
          else
            (impl_ValidSend k a0.Send).bind fun r4 =>
            bif (!r4) then
              some false
            else
              (impl_ValidTake k a0.Take).bind fun r5 =>
              bif (!r5) then
                some false
              else
                bif (a0.Peer == 0) then
                  (impl_noSend k a0.Send).bind fun r6 =>
                  bif r6 then
                    (impl_noTake k a0.Take).bind fun r7 =>
                    bif (!r7) then
                      some false
                    else
                      bif a0.Up then
                        some true
                      else
                        bif (a0.Peer == 0) then
                          bif (a0.Since == 0) then
                            some (!a0.Owes)
                          else
                            some false
                        else
                          some false
                  else
                    some false
                else
                  bif a0.Up then
                    some true
                  else
                    bif (a0.Peer == 0) then
                      bif (a0.Since == 0) then
                        some (!a0.Owes)
                      else
                        some false
                    else
                      some false
  else
    (impl_in k a0.Life 1 1000).bind fun r8 =>
    bif (!r8) then
      some false
    else
      (impl_in k a0.Peer 0 1000).bind fun r9 =>
      bif (!r9) then
        some false
      else
        (impl_in k a0.Since 0 1000000).bind fun r10 =>
        bif (!r10) then
          some false
        else
          (impl_ValidSend k a0.Send).bind fun r11 =>
          bif (!r11) then
            some false
          else
            (impl_ValidTake k a0.Take).bind fun r12 =>
            bif (!r12) then
              some false
            else
              bif (a0.Peer == 0) then
                (impl_noSend k a0.Send).bind fun r13 =>
                bif r13 then
                  (impl_noTake k a0.Take).bind fun r14 =>
                  bif (!r14) then
                    some false
                  else
                    bif a0.Up then
                      some true
                    else
                      bif (a0.Peer == 0) then
                        bif (a0.Since == 0) then
                          some (!a0.Owes)
                        else
                          some false
                      else
                        some false
                else
                  some false
              else
                bif a0.Up then
                  some true
                else
                  bif (a0.Peer == 0) then
                    bif (a0.Since == 0) then
                      some (!a0.Owes)
                    else
                      some false
                  else
                    some false
def spec_l6NoSend (k : Nat) (a0 : DSend) : Option (Bool) :=
  bif (a0.Base == 0) then
    some ((a0.Items.length : Int) == 0)
  else
    some false
def spec_l6NoTake (k : Nat) (a0 : DTake) : Option (Bool) :=
  bif (a0.Next == 0) then
    bif ((a0.Held.length : Int) == 0) then
      bif (a0.Open.toList == (⟨#[]⟩ : ByteArray).toList) then
        some ((a0.Ready.length : Int) == 0)
      else
        some false
    else
      some false
  else
    some false
def spec_ValidEnd (k : Nat) (a0 : DEnd) : Option (Bool) :=
  (spec_l1In k a0.Number 1 2).bind fun r1 =>
  bif (!r1) then
    some false
  else
    (spec_l1In k a0.Life 1 1000).bind fun r2 =>
    bif (!r2) then
      some false
    else
      (spec_l1In k a0.Peer 0 1000).bind fun r3 =>
      bif (!r3) then
        some false
      else
        (spec_l1In k a0.Since 0 1000000).bind fun r4 =>
        bif (!r4) then
          some false
        else
          (spec_ValidSend k a0.Send).bind fun r5 =>
          bif (!r5) then
            some false
          else
            (spec_ValidTake k a0.Take).bind fun r6 =>
            bif (!r6) then
              some false
            else
              bif (a0.Peer == 0) then
                (spec_l6NoSend k a0.Send).bind fun r7 =>
                bif (!r7) then
                  some false
                else
                  (spec_l6NoTake k a0.Take).bind fun r8 =>
                  bif (!r8) then
                    some false
                  else
                    bif a0.Up then
                      some true
                    else
                      bif (a0.Peer == 0) then
                        bif (a0.Since == 0) then
                          some (!a0.Owes)
                        else
                          some false
                      else
                        some false
              else
                bif a0.Up then
                  some true
                else
                  bif (a0.Peer == 0) then
                    bif (a0.Since == 0) then
                      some (!a0.Owes)
                    else
                      some false
                  else
                    some false
def laws_szEnd (k : Nat) (a0 : DEnd) (a1 : Int) : Option (Int) :=
  (laws_szSend k a0.Send a1).bind fun r1 =>
  bif (decide (r1 < 0)) then
    some (-1)
  else
    (laws_szTake k a0.Take r1).bind fun r2 =>
    bif (decide (r2 < 0)) then
      some (-1)
    else
      some r2
def laws_toEnd (k : Nat) (a0 : DEnd) : Option (DEnd) :=
  (laws_toSend k a0.Send).bind fun r1 =>
  (laws_toTake k a0.Take).bind fun r2 =>
  some (⟨a0.Number, a0.Up, a0.Life, a0.Peer, a0.Since, a0.Owes, r1, r2⟩ : DEnd)
def laws_eqEnd (k : Nat) (a0 : DEnd) (a1 : DEnd) : Option (Bool) :=
  bif (a0.Number != a1.Number) then
    some false
  else
    bif (!(a0.Up == a1.Up)) then
      some false
    else
      bif (a0.Life != a1.Life) then
        some false
      else
        bif (a0.Peer != a1.Peer) then
          some false
        else
          bif (a0.Since != a1.Since) then
            some false
          else
            bif (!(a0.Owes == a1.Owes)) then
              some false
            else
              (laws_eqSend k a0.Send a1.Send).bind fun r1 =>
              bif (!r1) then
                some false
              else
                (laws_eqTake k a0.Take a1.Take).bind fun r2 =>
                bif (!r2) then
                  some false
                else
                  some true
end Km.X
