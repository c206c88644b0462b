/- A part of the proof of FnPackets: plain laws of these functions. There is no condition. -/
import Derived.Test.YtlgdbdkjkjocjaaKmAm3
import Derived.Test.YtlgdbdkjkjocjaaKxDef1
import Derived.Test.YtlgdbdkjkjocjaaKxDef2
namespace Km.X
open Go Km
set_option linter.unusedVariables false
set_option linter.unusedSimpArgs false
def smL {α : Type} (p : α → Prop) (l : List α) : Prop := l.length ≤ 1048576 ∧ ∀ y ∈ l, p y
theorem addk (k : Int) (a b : Int) : k + a + b = k + (a + b) := by omega

def smPart (x : DPart) : Prop := x.Text.size ≤ 1048576
def smItem (x : DItem) : Prop := smPart x.Part
def smHeld (x : DHeld) : Prop := smPart x.Part
def smSend (x : DSend) : Prop := smL smItem x.Items
def smTake (x : DTake) : Prop := smL smHeld x.Held ∧ x.Open.size ≤ 1048576 ∧ smL (fun s : ByteArray => s.size ≤ 1048576) x.Ready
def smPacket (x : DPacket) : Prop := x.Part.size ≤ 1048576
theorem toPart_ok (x : DPart) (h : smPart x) : Wp (fun k => laws_toPart k x) (· = x) := Wp.ret rfl
theorem toItem_ok (x : DItem) (h : smItem x) : Wp (fun k => laws_toItem k x) (· = x) := Wp.ret rfl
theorem toHeld_ok (x : DHeld) (h : smHeld x) : Wp (fun k => laws_toHeld k x) (· = x) := Wp.ret rfl
theorem toPacket_ok (x : DPacket) (h : smPacket x) : Wp (fun k => laws_toPacket k x) (· = x) := Wp.ret rfl
theorem toPartS_ok (xs : List DPart) (h : smL smPart xs) : Wp (fun k => laws_toPartS k xs) (· = xs) := by
  unfold laws_toPartS
  obtain ⟨hl, hp⟩ := h
  refine Wp.opt (x := xs.length) (by rw [if_pos rfl]; exact room_ok (by omega)) ?_
  refine Wp.loop (n := xs.length) (f := fun k i (ys : List DPart) => laws_toPartS_l3 k xs (i : Int) ys) (Inv := fun i ys => ys.length = xs.length ∧ ys.take i = xs.take i) (Q := (· = xs)) ?_ ?_ xs.length 0 _ (by omega) ⟨by simp, by simp⟩
  · rintro i ys hi ⟨h1, h2⟩ ih
    refine Wp.step ?_
    simp only [laws_toPartS_l3]
    simp (disch := omega) only [cbdec, if_pos, idxN, getN, Option.bind_some, w64', castS, Int.ofNat_lt]
    refine Wp.bind (toPart_ok _ (hp _ (List.getElem_mem hi))) (fun _ e => ?_); subst e
    refine ih _ ⟨by simpa using h1, ?_⟩
    rw [Int.toNat_natCast, List.take_add_one, List.take_add_one, List.getElem?_set_self (by omega), List.take_set, List.set_eq_of_length_le (by simp; omega), h2, List.getElem?_eq_getElem hi]
  · rintro ys ⟨h1, h2⟩
    refine Wp.step ?_
    simp only [laws_toPartS_l3]
    simp (disch := omega) only [cbdec, if_neg]
    rw [List.take_of_length_le (by omega), List.take_of_length_le (by omega)] at h2
    exact Wp.ret h2
theorem toItemS_ok (xs : List DItem) (h : smL smItem xs) : Wp (fun k => laws_toItemS k xs) (· = xs) := by
  unfold laws_toItemS
  obtain ⟨hl, hp⟩ := h
  refine Wp.opt (x := xs.length) (by rw [if_pos rfl]; exact room_ok (by omega)) ?_
  refine Wp.loop (n := xs.length) (f := fun k i (ys : List DItem) => laws_toItemS_l3 k xs (i : Int) ys) (Inv := fun i ys => ys.length = xs.length ∧ ys.take i = xs.take i) (Q := (· = xs)) ?_ ?_ xs.length 0 _ (by omega) ⟨by simp, by simp⟩
  · rintro i ys hi ⟨h1, h2⟩ ih
    refine Wp.step ?_
    simp only [laws_toItemS_l3]
    simp (disch := omega) only [cbdec, if_pos, idxN, getN, Option.bind_some, w64', castS, Int.ofNat_lt]
    refine Wp.bind (toItem_ok _ (hp _ (List.getElem_mem hi))) (fun _ e => ?_); subst e
    refine ih _ ⟨by simpa using h1, ?_⟩
    rw [Int.toNat_natCast, List.take_add_one, List.take_add_one, List.getElem?_set_self (by omega), List.take_set, List.set_eq_of_length_le (by simp; omega), h2, List.getElem?_eq_getElem hi]
  · rintro ys ⟨h1, h2⟩
    refine Wp.step ?_
    simp only [laws_toItemS_l3]
    simp (disch := omega) only [cbdec, if_neg]
    rw [List.take_of_length_le (by omega), List.take_of_length_le (by omega)] at h2
    exact Wp.ret h2
theorem toHeldS_ok (xs : List DHeld) (h : smL smHeld xs) : Wp (fun k => laws_toHeldS k xs) (· = xs) := by
  unfold laws_toHeldS
  obtain ⟨hl, hp⟩ := h
  refine Wp.opt (x := xs.length) (by rw [if_pos rfl]; exact room_ok (by omega)) ?_
  refine Wp.loop (n := xs.length) (f := fun k i (ys : List DHeld) => laws_toHeldS_l3 k xs (i : Int) ys) (Inv := fun i ys => ys.length = xs.length ∧ ys.take i = xs.take i) (Q := (· = xs)) ?_ ?_ xs.length 0 _ (by omega) ⟨by simp, by simp⟩
  · rintro i ys hi ⟨h1, h2⟩ ih
    refine Wp.step ?_
    simp only [laws_toHeldS_l3]
    simp (disch := omega) only [cbdec, if_pos, idxN, getN, Option.bind_some, w64', castS, Int.ofNat_lt]
    refine Wp.bind (toHeld_ok _ (hp _ (List.getElem_mem hi))) (fun _ e => ?_); subst e
    refine ih _ ⟨by simpa using h1, ?_⟩
    rw [Int.toNat_natCast, List.take_add_one, List.take_add_one, List.getElem?_set_self (by omega), List.take_set, List.set_eq_of_length_le (by simp; omega), h2, List.getElem?_eq_getElem hi]
  · rintro ys ⟨h1, h2⟩
    refine Wp.step ?_
    simp only [laws_toHeldS_l3]
    simp (disch := omega) only [cbdec, if_neg]
    rw [List.take_of_length_le (by omega), List.take_of_length_le (by omega)] at h2
    exact Wp.ret h2
theorem toStringS_ok (xs : List ByteArray) (h : smL (fun s : ByteArray => s.size ≤ 1048576) xs) : Wp (fun k => laws_toStringS k xs) (· = xs) := by
  unfold laws_toStringS
  obtain ⟨hl, hp⟩ := h
  refine Wp.opt (x := xs.length) (by rw [if_pos rfl]; exact room_ok (by omega)) ?_
  refine Wp.loop (n := xs.length) (f := fun k i (ys : List ByteArray) => laws_toStringS_l3 k xs (i : Int) ys) (Inv := fun i ys => ys.length = xs.length ∧ ys.take i = xs.take i) (Q := (· = xs)) ?_ ?_ xs.length 0 _ (by omega) ⟨by simp, by simp⟩
  · rintro i ys hi ⟨h1, h2⟩ ih
    refine Wp.step ?_
    simp only [laws_toStringS_l3]
    simp (disch := omega) only [cbdec, if_pos, idxN, getN, Option.bind_some, w64', castS, Int.ofNat_lt]
    refine ih _ ⟨by simpa using h1, ?_⟩
    rw [Int.toNat_natCast, List.take_add_one, List.take_add_one, List.getElem?_set_self (by omega), List.take_set, List.set_eq_of_length_le (by simp; omega), h2, List.getElem?_eq_getElem hi]
  · rintro ys ⟨h1, h2⟩
    refine Wp.step ?_
    simp only [laws_toStringS_l3]
    simp (disch := omega) only [cbdec, if_neg]
    rw [List.take_of_length_le (by omega), List.take_of_length_le (by omega)] at h2
    exact Wp.ret h2
theorem toSend_ok (x : DSend) (h : smSend x) : Wp (fun k => laws_toSend k x) (· = x) := by
  unfold smSend at h
  have h0 := h
  unfold laws_toSend
  refine Wp.bind (toItemS_ok _ h0) (fun _ e => ?_); subst e
  exact Wp.ret rfl
theorem toTake_ok (x : DTake) (h : smTake x) : Wp (fun k => laws_toTake k x) (· = x) := by
  unfold smTake at h
  obtain ⟨h0, h1, h2⟩ := h
  unfold laws_toTake
  refine Wp.bind (toHeldS_ok _ h0) (fun _ e => ?_); subst e
  refine Wp.bind (toStringS_ok _ h2) (fun _ e => ?_); subst e
  exact Wp.ret rfl
theorem szPart_ok (x : DPart) (hw : wfDPart x) (a : Int) (ha : 0 ≤ a ∧ a ≤ 1048576) : Wp (fun k => laws_szPart k x a) (fun r => r ≤ 1048576 ∧ (0 ≤ r → smPart x)) := by
  unfold smPart
  unfold wfDPart at hw
  unfold laws_szPart
  have h1 : x.Text.size ≤ 2 ^ 63 - 1 := by first | exact hw.1 | exact hw.2.2.2.2.2.2.2.2 | exact hw.2.2.2.2 | exact hw.2.2.2
  try simp (disch := omega) only [w64', cbdec]
  refine Wp.ite (fun h => Wp.ret ⟨by omega, fun h => by omega⟩) (fun h => Wp.ret ⟨by omega, fun _ => by omega⟩)
theorem szItem_ok (x : DItem) (hw : wfDItem x) (a : Int) (ha : 0 ≤ a ∧ a ≤ 1048576) : Wp (fun k => laws_szItem k x a) (fun r => r ≤ 1048576 ∧ (0 ≤ r → smItem x)) := by
  unfold smItem
  unfold wfDItem at hw
  unfold laws_szItem
  have h1 : wfDPart x.Part := by first | exact hw.1 | exact hw.2
  refine Wp.bind (szPart_ok _ h1 a ha) (fun r hr => ?_)
  refine Wp.dec (fun h => Wp.ret ⟨by omega, fun h => by omega⟩) (fun h => Wp.ret ⟨hr.1, hr.2⟩)
theorem szHeld_ok (x : DHeld) (hw : wfDHeld x) (a : Int) (ha : 0 ≤ a ∧ a ≤ 1048576) : Wp (fun k => laws_szHeld k x a) (fun r => r ≤ 1048576 ∧ (0 ≤ r → smHeld x)) := by
  unfold smHeld
  unfold wfDHeld at hw
  unfold laws_szHeld
  have h1 : wfDPart x.Part := by first | exact hw.1 | exact hw.2
  refine Wp.bind (szPart_ok _ h1 a ha) (fun r hr => ?_)
  refine Wp.dec (fun h => Wp.ret ⟨by omega, fun h => by omega⟩) (fun h => Wp.ret ⟨hr.1, hr.2⟩)
theorem szPacket_ok (x : DPacket) (hw : wfDPacket x) (a : Int) (ha : 0 ≤ a ∧ a ≤ 1048576) : Wp (fun k => laws_szPacket k x a) (fun r => r ≤ 1048576 ∧ (0 ≤ r → smPacket x)) := by
  unfold smPacket
  unfold wfDPacket at hw
  unfold laws_szPacket
  have h1 : x.Part.size ≤ 2 ^ 63 - 1 := by first | exact hw.1 | exact hw.2.2.2.2.2.2.2.2 | exact hw.2.2.2.2 | exact hw.2.2.2
  try simp (disch := omega) only [w64', cbdec]
  refine Wp.ite (fun h => Wp.ret ⟨by omega, fun h => by omega⟩) (fun h => Wp.ret ⟨by omega, fun _ => by omega⟩)
theorem szPartS_ok (xs : List DPart) (hw : xs.length ≤ maxLen ∧ ∀ y ∈ xs, wf_part y) (a : Int) (ha : 0 ≤ a ∧ a ≤ 1048576) : Wp (fun k => laws_szPartS k xs a) (fun r => r ≤ 1048576 ∧ (0 ≤ r → smL smPart xs)) := by
  obtain ⟨hl, hp⟩ := hw
  have hl : xs.length ≤ 2 ^ 63 - 1 := hl
  unfold laws_szPartS
  try simp (disch := omega) only [w64', cbdec]
  refine Wp.ite (fun h => Wp.ret ⟨by omega, fun h => by omega⟩) (fun h => ?_)
  refine Wp.loop (n := xs.length) (f := fun k i (l : Int) => laws_szPartS_l5 k xs l (i : Int)) (Inv := fun i l => (0 ≤ l ∧ l ≤ 1048576) ∧ ∀ j (hj : j < xs.length), j < i → smPart xs[j]) (Q := fun r => r ≤ 1048576 ∧ (0 ≤ r → smL smPart xs)) ?_ ?_ xs.length 0 (a - xs.length) (by omega) ⟨by omega, fun j _ h => by omega⟩
  · rintro i l hi ⟨h1, h2⟩ ih
    refine Wp.step ?_
    simp only [laws_szPartS_l5]
    simp (disch := omega) only [cbdec, if_pos, idxN, Option.bind_some, w64', castS]
    refine Wp.bind (szPart_ok _ (hp _ (List.getElem_mem hi)) l h1) (fun r hr => ?_)
    refine Wp.ite (fun h => Wp.ret ⟨by omega, fun h => by omega⟩) (fun h => ?_)
    refine ih _ ⟨by omega, fun j hj hji => ?_⟩
    by_cases e : j = i
    · subst e; exact hr.2 (by omega)
    · exact h2 j hj (by omega)
  · rintro l ⟨h1, h2⟩
    refine Wp.step ?_
    simp only [laws_szPartS_l5]
    simp (disch := omega) only [cbdec, if_neg]
    refine Wp.ret ⟨by omega, fun _ => ⟨by omega, fun y hy => ?_⟩⟩
    obtain ⟨j, hj, rfl⟩ := List.getElem_of_mem hy
    exact h2 j hj hj
theorem szItemS_ok (xs : List DItem) (hw : xs.length ≤ maxLen ∧ ∀ y ∈ xs, wf_item y) (a : Int) (ha : 0 ≤ a ∧ a ≤ 1048576) : Wp (fun k => laws_szItemS k xs a) (fun r => r ≤ 1048576 ∧ (0 ≤ r → smL smItem xs)) := by
  obtain ⟨hl, hp⟩ := hw
  have hl : xs.length ≤ 2 ^ 63 - 1 := hl
  unfold laws_szItemS
  try simp (disch := omega) only [w64', cbdec]
  refine Wp.ite (fun h => Wp.ret ⟨by omega, fun h => by omega⟩) (fun h => ?_)
  refine Wp.loop (n := xs.length) (f := fun k i (l : Int) => laws_szItemS_l5 k xs l (i : Int)) (Inv := fun i l => (0 ≤ l ∧ l ≤ 1048576) ∧ ∀ j (hj : j < xs.length), j < i → smItem xs[j]) (Q := fun r => r ≤ 1048576 ∧ (0 ≤ r → smL smItem xs)) ?_ ?_ xs.length 0 (a - xs.length) (by omega) ⟨by omega, fun j _ h => by omega⟩
  · rintro i l hi ⟨h1, h2⟩ ih
    refine Wp.step ?_
    simp only [laws_szItemS_l5]
    simp (disch := omega) only [cbdec, if_pos, idxN, Option.bind_some, w64', castS]
    refine Wp.bind (szItem_ok _ (hp _ (List.getElem_mem hi)) l h1) (fun r hr => ?_)
    refine Wp.ite (fun h => Wp.ret ⟨by omega, fun h => by omega⟩) (fun h => ?_)
    refine ih _ ⟨by omega, fun j hj hji => ?_⟩
    by_cases e : j = i
    · subst e; exact hr.2 (by omega)
    · exact h2 j hj (by omega)
  · rintro l ⟨h1, h2⟩
    refine Wp.step ?_
    simp only [laws_szItemS_l5]
    simp (disch := omega) only [cbdec, if_neg]
    refine Wp.ret ⟨by omega, fun _ => ⟨by omega, fun y hy => ?_⟩⟩
    obtain ⟨j, hj, rfl⟩ := List.getElem_of_mem hy
    exact h2 j hj hj
theorem szHeldS_ok (xs : List DHeld) (hw : xs.length ≤ maxLen ∧ ∀ y ∈ xs, wf_held y) (a : Int) (ha : 0 ≤ a ∧ a ≤ 1048576) : Wp (fun k => laws_szHeldS k xs a) (fun r => r ≤ 1048576 ∧ (0 ≤ r → smL smHeld xs)) := by
  obtain ⟨hl, hp⟩ := hw
  have hl : xs.length ≤ 2 ^ 63 - 1 := hl
  unfold laws_szHeldS
  try simp (disch := omega) only [w64', cbdec]
  refine Wp.ite (fun h => Wp.ret ⟨by omega, fun h => by omega⟩) (fun h => ?_)
  refine Wp.loop (n := xs.length) (f := fun k i (l : Int) => laws_szHeldS_l5 k xs l (i : Int)) (Inv := fun i l => (0 ≤ l ∧ l ≤ 1048576) ∧ ∀ j (hj : j < xs.length), j < i → smHeld xs[j]) (Q := fun r => r ≤ 1048576 ∧ (0 ≤ r → smL smHeld xs)) ?_ ?_ xs.length 0 (a - xs.length) (by omega) ⟨by omega, fun j _ h => by omega⟩
  · rintro i l hi ⟨h1, h2⟩ ih
    refine Wp.step ?_
    simp only [laws_szHeldS_l5]
    simp (disch := omega) only [cbdec, if_pos, idxN, Option.bind_some, w64', castS]
    refine Wp.bind (szHeld_ok _ (hp _ (List.getElem_mem hi)) l h1) (fun r hr => ?_)
    refine Wp.ite (fun h => Wp.ret ⟨by omega, fun h => by omega⟩) (fun h => ?_)
    refine ih _ ⟨by omega, fun j hj hji => ?_⟩
    by_cases e : j = i
    · subst e; exact hr.2 (by omega)
    · exact h2 j hj (by omega)
  · rintro l ⟨h1, h2⟩
    refine Wp.step ?_
    simp only [laws_szHeldS_l5]
    simp (disch := omega) only [cbdec, if_neg]
    refine Wp.ret ⟨by omega, fun _ => ⟨by omega, fun y hy => ?_⟩⟩
    obtain ⟨j, hj, rfl⟩ := List.getElem_of_mem hy
    exact h2 j hj hj
theorem szStringS_ok (xs : List ByteArray) (hw : xs.length ≤ maxLen ∧ ∀ y ∈ xs, wf_str y) (a : Int) (ha : 0 ≤ a ∧ a ≤ 1048576) : Wp (fun k => laws_szStringS k xs a) (fun r => r ≤ 1048576 ∧ (0 ≤ r → smL (fun s : ByteArray => s.size ≤ 1048576) xs)) := by
  obtain ⟨hl, hp⟩ := hw
  have hl : xs.length ≤ 2 ^ 63 - 1 := hl
  unfold laws_szStringS
  try simp (disch := omega) only [w64', cbdec]
  refine Wp.ite (fun h => Wp.ret ⟨by omega, fun h => by omega⟩) (fun h => ?_)
  refine Wp.loop (n := xs.length) (f := fun k i (l : Int) => laws_szStringS_l5 k xs l (i : Int)) (Inv := fun i l => (0 ≤ l ∧ l ≤ 1048576) ∧ ∀ j (hj : j < xs.length), j < i → (fun s : ByteArray => s.size ≤ 1048576) xs[j]) (Q := fun r => r ≤ 1048576 ∧ (0 ≤ r → smL (fun s : ByteArray => s.size ≤ 1048576) xs)) ?_ ?_ xs.length 0 (a - xs.length) (by omega) ⟨by omega, fun j _ h => by omega⟩
  · rintro i l hi ⟨h1, h2⟩ ih
    refine Wp.step ?_
    simp only [laws_szStringS_l5]
    simp (disch := omega) only [cbdec, if_pos, idxN, Option.bind_some, w64', castS]
    have h3 : xs[i].size ≤ 2 ^ 63 - 1 := hp _ (List.getElem_mem hi)
    try simp (disch := omega) only [w64']
    refine Wp.ite (fun h => Wp.ret ⟨by omega, fun h => by omega⟩) (fun h => ?_)
    refine ih _ ⟨by omega, fun j hj hji => ?_⟩
    by_cases e : j = i
    · subst e; show xs[j].size ≤ 1048576; omega
    · exact h2 j hj (by omega)
  · rintro l ⟨h1, h2⟩
    refine Wp.step ?_
    simp only [laws_szStringS_l5]
    simp (disch := omega) only [cbdec, if_neg]
    refine Wp.ret ⟨by omega, fun _ => ⟨by omega, fun y hy => ?_⟩⟩
    obtain ⟨j, hj, rfl⟩ := List.getElem_of_mem hy
    exact h2 j hj hj
theorem szSend_ok (x : DSend) (hw : wfDSend x) (a : Int) (ha : 0 ≤ a ∧ a ≤ 1048576) : Wp (fun k => laws_szSend k x a) (fun r => r ≤ 1048576 ∧ (0 ≤ r → smSend x)) := by
  unfold smSend
  obtain ⟨w0, w1⟩ := hw
  unfold laws_szSend
  refine Wp.bind (szItemS_ok _ w1 a (by omega)) (fun r0 e0 => ?_)
  first | refine Wp.dec (fun h => Wp.ret ⟨by omega, fun h => by omega⟩) (fun h0 => Wp.ret ⟨by omega, fun _ => ?_⟩) | refine Wp.ite (fun h => Wp.ret ⟨by omega, fun h => by omega⟩) (fun h0 => Wp.ret ⟨by omega, fun _ => ?_⟩)
  exact e0.2 (by omega)
theorem szTake_ok (x : DTake) (hw : wfDTake x) (a : Int) (ha : 0 ≤ a ∧ a ≤ 1048576) : Wp (fun k => laws_szTake k x a) (fun r => r ≤ 1048576 ∧ (0 ≤ r → smTake x)) := by
  unfold smTake
  obtain ⟨w0, w1, w2, w3⟩ := hw
  unfold laws_szTake
  refine Wp.bind (szHeldS_ok _ w1 a (by omega)) (fun r0 e0 => ?_)
  first | refine Wp.dec (fun h => Wp.ret ⟨by omega, fun h => by omega⟩) (fun h0 => ?_) | refine Wp.ite (fun h => Wp.ret ⟨by omega, fun h => by omega⟩) (fun h0 => ?_)
  have s1 : x.Open.size ≤ 2 ^ 63 - 1 := w2
  try simp (disch := omega) only [w64', cbdec]
  refine Wp.ite (fun h => Wp.ret ⟨by omega, fun h => by omega⟩) (fun h1 => ?_)
  refine Wp.bind (szStringS_ok _ w3 (r0 - (x.Open.size : Int)) (by omega)) (fun r2 e2 => ?_)
  first | refine Wp.dec (fun h => Wp.ret ⟨by omega, fun h => by omega⟩) (fun h2 => Wp.ret ⟨by omega, fun _ => ?_⟩) | refine Wp.ite (fun h => Wp.ret ⟨by omega, fun h => by omega⟩) (fun h2 => Wp.ret ⟨by omega, fun _ => ?_⟩)
  exact ⟨e0.2 (by omega), (by omega), e2.2 (by omega)⟩
theorem eqPart_ok (x : DPart) (h : smPart x) : Wp (fun k => laws_eqPart k x x) (· = true) := by
  unfold laws_eqPart
  unfold smPart at h
  have h0 := h
  simp only [w64', cbdec, cbnot, cbeq, cbne, cbseq, cbbeq, cond_true, cond_false, Option.bind_some, Bool.not_true, Bool.not_false, if_true, if_false]
  exact Wp.ret rfl
theorem eqItem_ok (x : DItem) (h : smItem x) : Wp (fun k => laws_eqItem k x x) (· = true) := by
  unfold laws_eqItem
  unfold smItem at h
  have h0 := h
  simp only [w64', cbdec, cbnot, cbeq, cbne, cbseq, cbbeq, cond_true, cond_false, Option.bind_some, Bool.not_true, Bool.not_false, if_true, if_false]
  refine Wp.bind (eqPart_ok _ h0) (fun _ e => ?_); subst e
  simp only [w64', cbdec, cbnot, cbeq, cbne, cbseq, cbbeq, cond_true, cond_false, Option.bind_some, Bool.not_true, Bool.not_false, if_true, if_false]
  exact Wp.ret rfl
theorem eqHeld_ok (x : DHeld) (h : smHeld x) : Wp (fun k => laws_eqHeld k x x) (· = true) := by
  unfold laws_eqHeld
  unfold smHeld at h
  have h0 := h
  simp only [w64', cbdec, cbnot, cbeq, cbne, cbseq, cbbeq, cond_true, cond_false, Option.bind_some, Bool.not_true, Bool.not_false, if_true, if_false]
  refine Wp.bind (eqPart_ok _ h0) (fun _ e => ?_); subst e
  simp only [w64', cbdec, cbnot, cbeq, cbne, cbseq, cbbeq, cond_true, cond_false, Option.bind_some, Bool.not_true, Bool.not_false, if_true, if_false]
  exact Wp.ret rfl
theorem eqPacket_ok (x : DPacket) (h : smPacket x) : Wp (fun k => laws_eqPacket k x x) (· = true) := by
  unfold laws_eqPacket
  unfold smPacket at h
  have h0 := h
  simp only [w64', cbdec, cbnot, cbeq, cbne, cbseq, cbbeq, cond_true, cond_false, Option.bind_some, Bool.not_true, Bool.not_false, if_true, if_false]
  exact Wp.ret rfl
theorem eqPartS_ok (xs : List DPart) (h : smL smPart xs) : Wp (fun k => laws_eqPartS k xs xs) (· = true) := by
  unfold laws_eqPartS
  obtain ⟨hl, hp⟩ := h
  simp only [cbne, if_true]
  refine Wp.loop (n := xs.length) (f := fun k i (_ : Unit) => laws_eqPartS_l4 k xs xs (i : Int)) (Inv := fun _ _ => True) (Q := (· = true)) ?_ ?_ xs.length 0 () (by omega) trivial
  · rintro i _ hi _ ih
    refine Wp.step ?_
    simp only [laws_eqPartS_l4]
    simp (disch := omega) only [cbdec, if_pos, idxN, Option.bind_some, w64', castS]
    refine Wp.bind (eqPart_ok _ (hp _ (List.getElem_mem hi))) (fun _ e => ?_); subst e
    simp only [w64', cbdec, cbnot, cbeq, cbne, cbseq, cbbeq, cond_true, cond_false, Option.bind_some, Bool.not_true, Bool.not_false, if_true, if_false]
    exact ih () trivial
  · rintro _ _
    refine Wp.step ?_
    simp only [laws_eqPartS_l4]
    simp (disch := omega) only [cbdec, if_neg]
    exact Wp.ret rfl
theorem eqItemS_ok (xs : List DItem) (h : smL smItem xs) : Wp (fun k => laws_eqItemS k xs xs) (· = true) := by
  unfold laws_eqItemS
  obtain ⟨hl, hp⟩ := h
  simp only [cbne, if_true]
  refine Wp.loop (n := xs.length) (f := fun k i (_ : Unit) => laws_eqItemS_l4 k xs xs (i : Int)) (Inv := fun _ _ => True) (Q := (· = true)) ?_ ?_ xs.length 0 () (by omega) trivial
  · rintro i _ hi _ ih
    refine Wp.step ?_
    simp only [laws_eqItemS_l4]
    simp (disch := omega) only [cbdec, if_pos, idxN, Option.bind_some, w64', castS]
    refine Wp.bind (eqItem_ok _ (hp _ (List.getElem_mem hi))) (fun _ e => ?_); subst e
    simp only [w64', cbdec, cbnot, cbeq, cbne, cbseq, cbbeq, cond_true, cond_false, Option.bind_some, Bool.not_true, Bool.not_false, if_true, if_false]
    exact ih () trivial
  · rintro _ _
    refine Wp.step ?_
    simp only [laws_eqItemS_l4]
    simp (disch := omega) only [cbdec, if_neg]
    exact Wp.ret rfl
theorem eqHeldS_ok (xs : List DHeld) (h : smL smHeld xs) : Wp (fun k => laws_eqHeldS k xs xs) (· = true) := by
  unfold laws_eqHeldS
  obtain ⟨hl, hp⟩ := h
  simp only [cbne, if_true]
  refine Wp.loop (n := xs.length) (f := fun k i (_ : Unit) => laws_eqHeldS_l4 k xs xs (i : Int)) (Inv := fun _ _ => True) (Q := (· = true)) ?_ ?_ xs.length 0 () (by omega) trivial
  · rintro i _ hi _ ih
    refine Wp.step ?_
    simp only [laws_eqHeldS_l4]
    simp (disch := omega) only [cbdec, if_pos, idxN, Option.bind_some, w64', castS]
    refine Wp.bind (eqHeld_ok _ (hp _ (List.getElem_mem hi))) (fun _ e => ?_); subst e
    simp only [w64', cbdec, cbnot, cbeq, cbne, cbseq, cbbeq, cond_true, cond_false, Option.bind_some, Bool.not_true, Bool.not_false, if_true, if_false]
    exact ih () trivial
  · rintro _ _
    refine Wp.step ?_
    simp only [laws_eqHeldS_l4]
    simp (disch := omega) only [cbdec, if_neg]
    exact Wp.ret rfl
theorem eqStringS_ok (xs : List ByteArray) (h : smL (fun s : ByteArray => s.size ≤ 1048576) xs) : Wp (fun k => laws_eqStringS k xs xs) (· = true) := by
  unfold laws_eqStringS
  obtain ⟨hl, hp⟩ := h
  simp only [cbne, if_true]
  refine Wp.loop (n := xs.length) (f := fun k i (_ : Unit) => laws_eqStringS_l4 k xs xs (i : Int)) (Inv := fun _ _ => True) (Q := (· = true)) ?_ ?_ xs.length 0 () (by omega) trivial
  · rintro i _ hi _ ih
    refine Wp.step ?_
    simp only [laws_eqStringS_l4]
    simp (disch := omega) only [cbdec, if_pos, idxN, Option.bind_some, w64', castS]
    simp only [w64', cbdec, cbnot, cbeq, cbne, cbseq, cbbeq, cond_true, cond_false, Option.bind_some, Bool.not_true, Bool.not_false, if_true, if_false]
    exact ih () trivial
  · rintro _ _
    refine Wp.step ?_
    simp only [laws_eqStringS_l4]
    simp (disch := omega) only [cbdec, if_neg]
    exact Wp.ret rfl
theorem eqIntS_ok (xs : List Int) (h : smL (fun _ : Int => True) xs) : Wp (fun k => laws_eqIntS k xs xs) (· = true) := by
  unfold laws_eqIntS
  obtain ⟨hl, hp⟩ := h
  simp only [cbne, if_true]
  refine Wp.loop (n := xs.length) (f := fun k i (_ : Unit) => laws_eqIntS_l4 k xs xs (i : Int)) (Inv := fun _ _ => True) (Q := (· = true)) ?_ ?_ xs.length 0 () (by omega) trivial
  · rintro i _ hi _ ih
    refine Wp.step ?_
    simp only [laws_eqIntS_l4]
    simp (disch := omega) only [cbdec, if_pos, idxN, Option.bind_some, w64', castS]
    simp only [w64', cbdec, cbnot, cbeq, cbne, cbseq, cbbeq, cond_true, cond_false, Option.bind_some, Bool.not_true, Bool.not_false, if_true, if_false]
    exact ih () trivial
  · rintro _ _
    refine Wp.step ?_
    simp only [laws_eqIntS_l4]
    simp (disch := omega) only [cbdec, if_neg]
    exact Wp.ret rfl
theorem eqSend_ok (x : DSend) (h : smSend x) : Wp (fun k => laws_eqSend k x x) (· = true) := by
  unfold laws_eqSend
  unfold smSend at h
  have h0 := h
  simp only [w64', cbdec, cbnot, cbeq, cbne, cbseq, cbbeq, cond_true, cond_false, Option.bind_some, Bool.not_true, Bool.not_false, if_true, if_false]
  refine Wp.bind (eqItemS_ok _ h0) (fun _ e => ?_); subst e
  simp only [w64', cbdec, cbnot, cbeq, cbne, cbseq, cbbeq, cond_true, cond_false, Option.bind_some, Bool.not_true, Bool.not_false, if_true, if_false]
  exact Wp.ret rfl
theorem eqTake_ok (x : DTake) (h : smTake x) : Wp (fun k => laws_eqTake k x x) (· = true) := by
  unfold laws_eqTake
  unfold smTake at h
  obtain ⟨h0, h1, h2⟩ := h
  simp only [w64', cbdec, cbnot, cbeq, cbne, cbseq, cbbeq, cond_true, cond_false, Option.bind_some, Bool.not_true, Bool.not_false, if_true, if_false]
  refine Wp.bind (eqHeldS_ok _ h0) (fun _ e => ?_); subst e
  simp only [w64', cbdec, cbnot, cbeq, cbne, cbseq, cbbeq, cond_true, cond_false, Option.bind_some, Bool.not_true, Bool.not_false, if_true, if_false]
  refine Wp.bind (eqStringS_ok _ h2) (fun _ e => ?_); subst e
  simp only [w64', cbdec, cbnot, cbeq, cbne, cbseq, cbbeq, cond_true, cond_false, Option.bind_some, Bool.not_true, Bool.not_false, if_true, if_false]
  exact Wp.ret rfl
end Km.X
namespace Km.X
open Go Km
set_option linter.unusedVariables false
set_option linter.unusedSimpArgs false
theorem markText_loop : ∀ (d : Nat) (k : Int) (s : ByteArray), k < 10 ^ d → k ≤ 9223372036854775807 → d + s.size ≤ 1000 → Wp (fun n => laws_markText_l4 n k s) (fun _ => True)
  | 0, k, s, hk, hb, hs => by
    refine Wp.step ?_
    simp only [laws_markText_l4]
    have hk0 : ¬ (k > 0) := by simp at hk; omega
    simp only [cbdec, if_neg hk0, sadd_ok (x := ⟨#[109]⟩) (y := s) (by show (1 : Nat) + s.size ≤ _; omega), Option.bind_some]
    exact Wp.ret trivial
  | d + 1, k, s, hk, hb, hs => by
    refine Wp.step ?_
    simp only [laws_markText_l4, cbdec]
    refine Wp.ite (fun h => ?_) (fun h => ?_)
    · have hs1 : sadd (bstr [IntKind.wrap .u8 (IntKind.wrap .i64 (48 + k % 10))]) s = some _ := sadd_ok (by rw [bstr_size]; simp; omega)
      simp (disch := omega) only [qrem_nn, qdiv_nn, Option.bind_some]
      rw [hs1]
      simp (disch := omega) only [Option.bind_some, w64']
      refine markText_loop d (k / 10) _ ?_ (by omega) ?_
      · rw [Int.pow_succ] at hk; omega
      · rw [ba_size_append, bstr_size]; simp; omega
    · simp only [sadd_ok (x := ⟨#[109]⟩) (y := s) (by show (1 : Nat) + s.size ≤ _; omega), Option.bind_some]
      exact Wp.ret trivial
noncomputable def mt (k : Int) : ByteArray := ans (fun n => laws_markText n k)
theorem markText_ok {k : Int} (h : 0 ≤ k ∧ k ≤ 1000000000000) : Wp (fun n => laws_markText n k) (· = mt k) := by
  have : Wp (fun n => laws_markText n k) (fun _ => True) := by
    unfold laws_markText
    simp only [cbdec]
    refine Wp.ite (fun h => Wp.ret trivial) (fun h => markText_loop 13 k _ (by omega) (by omega) (by decide))
  exact (Wp.ans_eq this).2

def MkSPart : Int → List DPart → Prop
  | _, [] => True
  | k, x :: t => (x.Text = mt k ∧ x.Last = ((k + 1) % 3 == 0)) ∧ MkSPart (k + 2) t
theorem heldPartS_loop : ∀ (t pre : List DPart) (k : Int), (pre ++ t).length ≤ 100000000 → 0 ≤ k → k + 2 * t.length ≤ 1000000000000 → MkSPart k t → Wp (fun n => laws_heldPartS_l2 n (pre ++ t) k (pre.length : Int)) (· = k + 2 * t.length)
  | [], pre, k, hl, h0, hk, _ => by
    refine Wp.step ?_
    simp only [laws_heldPartS_l2, List.append_nil]
    simp (disch := omega) only [cbdec, if_neg]
    exact Wp.ret (by simp)
  | x :: t, pre, k, hl, h0, hk, hm => by
    simp only [MkSPart] at hm
    obtain ⟨hm, hm2⟩ := hm
    simp only [List.length_append, List.length_cons] at hl hk
    refine Wp.step ?_
    simp only [laws_heldPartS_l2]
    have hlt := lt_mid (pre := pre) (t := t) (x := x)
    obtain ⟨m0, m1⟩ := hm
    simp (disch := first | omega | rfl | assumption) only [cbdec, cbne, cbnot, cbbeq, cbseq, if_pos, if_neg, if_true, eq_self, Int.reduceAdd, idx_mid, Option.bind_some, w64', qrem_nn, addk, hlt, m0, m1]
    refine Wp.bind (markText_ok (by omega)) (fun _ e => ?_); subst e
    try simp (disch := first | omega | rfl | assumption) only [cbdec, cbne, cbnot, cbbeq, cbseq, if_pos, if_neg, if_true, eq_self, Int.reduceAdd, idx_mid, Option.bind_some, w64', qrem_nn, addk, hlt, m0, m1]
    have ih : Wp (fun n => laws_heldPartS_l2 n (pre ++ x :: t) (k + 2) ((pre.length : Int) + 1)) (· = k + 2 + 2 * t.length) := by
      have := heldPartS_loop t (pre ++ [x]) (k + 2) (by simp; omega) (by omega) (by omega) hm2
      rwa [← mid_succ, ← mid_len] at this
    exact ih.mono (fun r hr => by simp only [List.length_cons]; omega)
theorem heldPartS_ok {k : Int} {l : List DPart} (h0 : 0 ≤ k) (hk : k + 2 * l.length ≤ 1000000000000) (hl : l.length ≤ 100000000) (hm : MkSPart k l) : Wp (fun n => laws_heldPartS n l k) (· = k + 2 * l.length) := by
  unfold laws_heldPartS
  exact heldPartS_loop l [] k (by simpa using hl) h0 hk hm
theorem markPartS_loop : ∀ (t pre : List DPart) (k : Int), (pre ++ t).length ≤ 100000000 → 0 ≤ k → k + 2 * t.length ≤ 1000000000000 → Wp (fun n => laws_markPartS_l2 n k (pre.length : Int) (pre ++ t)) (fun r => r.1 = k + 2 * t.length ∧ ∃ t', r.2 = pre ++ t' ∧ t'.length = t.length ∧ MkSPart k t')
  | [], pre, k, hl, h0, hk => by
    refine Wp.step ?_
    simp only [laws_markPartS_l2, List.append_nil]
    simp (disch := omega) only [cbdec, if_neg]
    exact Wp.ret ⟨by simp, [], by simp, rfl, trivial⟩
  | x :: t, pre, k, hl, h0, hk => by
    simp only [List.length_append, List.length_cons] at hl hk
    refine Wp.step ?_
    simp only [laws_markPartS_l2]
    simp (disch := omega) only [cbdec, if_pos, if_true, Int.reduceAdd, lt_mid, idx_mid, get_mid, set_mid, Option.bind_some, w64', qrem_nn, addk]
    refine Wp.bind (markText_ok (by omega)) (fun _ e => ?_); subst e
    try simp (disch := omega) only [cbdec, if_pos, if_true, Int.reduceAdd, lt_mid, idx_mid, get_mid, set_mid, Option.bind_some, w64', qrem_nn, addk]
    have key : ∀ y : DPart, (y.Text = mt k ∧ y.Last = ((k + 1) % 3 == 0)) → Wp (fun n => laws_markPartS_l2 n (k + 2) ((pre.length : Int) + 1) (pre ++ y :: t)) (fun r => r.1 = k + 2 * (x :: t).length ∧ ∃ t', r.2 = pre ++ t' ∧ t'.length = (x :: t).length ∧ MkSPart k t') := fun y hy => by
      have := markPartS_loop t (pre ++ [y]) (k + 2) (by simp; omega) (by omega) (by omega)
      rw [← mid_succ, ← mid_len] at this
      refine this.mono ?_
      rintro ⟨r1, r2⟩ ⟨e1, t', e2, e3, e4⟩
      refine ⟨by simp only [List.length_cons] at *; omega, y :: t', by rw [e2]; simp, by simp [e3], ?_⟩
      simp only [MkSPart]
      exact ⟨hy, e4⟩
    exact key _ (by simp)
theorem markPartS_ok {k : Int} {l : List DPart} (h0 : 0 ≤ k) (hk : k + 2 * l.length ≤ 1000000000000) (hl : l.length ≤ 100000000) : Wp (fun n => laws_markPartS n l k) (fun r => r.1 = k + 2 * l.length ∧ r.2.length = l.length ∧ MkSPart k r.2) := by
  unfold laws_markPartS
  refine (markPartS_loop l [] k (by simpa using hl) h0 hk).mono ?_
  rintro ⟨r1, r2⟩ ⟨e1, t', e2, e3, e4⟩
  simp only [List.nil_append] at e2
  subst e2
  exact ⟨e1, e3, e4⟩
def MkSItem : Int → List DItem → Prop
  | _, [] => True
  | k, x :: t => (x.Part.Text = mt k ∧ x.Part.Last = ((k + 1) % 3 == 0) ∧ x.Has = ((k + 2) % 3 == 0) ∧ x.Since = (k + 3)) ∧ MkSItem (k + 4) t
theorem heldItemS_loop : ∀ (t pre : List DItem) (k : Int), (pre ++ t).length ≤ 100000000 → 0 ≤ k → k + 4 * t.length ≤ 1000000000000 → MkSItem k t → Wp (fun n => laws_heldItemS_l2 n (pre ++ t) k (pre.length : Int)) (· = k + 4 * t.length)
  | [], pre, k, hl, h0, hk, _ => by
    refine Wp.step ?_
    simp only [laws_heldItemS_l2, List.append_nil]
    simp (disch := omega) only [cbdec, if_neg]
    exact Wp.ret (by simp)
  | x :: t, pre, k, hl, h0, hk, hm => by
    simp only [MkSItem] at hm
    obtain ⟨hm, hm2⟩ := hm
    simp only [List.length_append, List.length_cons] at hl hk
    refine Wp.step ?_
    simp only [laws_heldItemS_l2]
    have hlt := lt_mid (pre := pre) (t := t) (x := x)
    obtain ⟨m0, m1, m2, m3⟩ := hm
    simp (disch := first | omega | rfl | assumption) only [cbdec, cbne, cbnot, cbbeq, cbseq, if_pos, if_neg, if_true, eq_self, Int.reduceAdd, idx_mid, Option.bind_some, w64', qrem_nn, addk, hlt, m0, m1, m2, m3]
    refine Wp.bind (markText_ok (by omega)) (fun _ e => ?_); subst e
    try simp (disch := first | omega | rfl | assumption) only [cbdec, cbne, cbnot, cbbeq, cbseq, if_pos, if_neg, if_true, eq_self, Int.reduceAdd, idx_mid, Option.bind_some, w64', qrem_nn, addk, hlt, m0, m1, m2, m3]
    have ih : Wp (fun n => laws_heldItemS_l2 n (pre ++ x :: t) (k + 4) ((pre.length : Int) + 1)) (· = k + 4 + 4 * t.length) := by
      have := heldItemS_loop t (pre ++ [x]) (k + 4) (by simp; omega) (by omega) (by omega) hm2
      rwa [← mid_succ, ← mid_len] at this
    exact ih.mono (fun r hr => by simp only [List.length_cons]; omega)
theorem heldItemS_ok {k : Int} {l : List DItem} (h0 : 0 ≤ k) (hk : k + 4 * l.length ≤ 1000000000000) (hl : l.length ≤ 100000000) (hm : MkSItem k l) : Wp (fun n => laws_heldItemS n l k) (· = k + 4 * l.length) := by
  unfold laws_heldItemS
  exact heldItemS_loop l [] k (by simpa using hl) h0 hk hm
theorem markItemS_loop : ∀ (t pre : List DItem) (k : Int), (pre ++ t).length ≤ 100000000 → 0 ≤ k → k + 4 * t.length ≤ 1000000000000 → Wp (fun n => laws_markItemS_l2 n k (pre.length : Int) (pre ++ t)) (fun r => r.1 = k + 4 * t.length ∧ ∃ t', r.2 = pre ++ t' ∧ t'.length = t.length ∧ MkSItem k t')
  | [], pre, k, hl, h0, hk => by
    refine Wp.step ?_
    simp only [laws_markItemS_l2, List.append_nil]
    simp (disch := omega) only [cbdec, if_neg]
    exact Wp.ret ⟨by simp, [], by simp, rfl, trivial⟩
  | x :: t, pre, k, hl, h0, hk => by
    simp only [List.length_append, List.length_cons] at hl hk
    refine Wp.step ?_
    simp only [laws_markItemS_l2]
    simp (disch := omega) only [cbdec, if_pos, if_true, Int.reduceAdd, lt_mid, idx_mid, get_mid, set_mid, Option.bind_some, w64', qrem_nn, addk]
    refine Wp.bind (markText_ok (by omega)) (fun _ e => ?_); subst e
    try simp (disch := omega) only [cbdec, if_pos, if_true, Int.reduceAdd, lt_mid, idx_mid, get_mid, set_mid, Option.bind_some, w64', qrem_nn, addk]
    have key : ∀ y : DItem, (y.Part.Text = mt k ∧ y.Part.Last = ((k + 1) % 3 == 0) ∧ y.Has = ((k + 2) % 3 == 0) ∧ y.Since = (k + 3)) → Wp (fun n => laws_markItemS_l2 n (k + 4) ((pre.length : Int) + 1) (pre ++ y :: t)) (fun r => r.1 = k + 4 * (x :: t).length ∧ ∃ t', r.2 = pre ++ t' ∧ t'.length = (x :: t).length ∧ MkSItem k t') := fun y hy => by
      have := markItemS_loop t (pre ++ [y]) (k + 4) (by simp; omega) (by omega) (by omega)
      rw [← mid_succ, ← mid_len] at this
      refine this.mono ?_
      rintro ⟨r1, r2⟩ ⟨e1, t', e2, e3, e4⟩
      refine ⟨by simp only [List.length_cons] at *; omega, y :: t', by rw [e2]; simp, by simp [e3], ?_⟩
      simp only [MkSItem]
      exact ⟨hy, e4⟩
    exact key _ (by simp)
theorem markItemS_ok {k : Int} {l : List DItem} (h0 : 0 ≤ k) (hk : k + 4 * l.length ≤ 1000000000000) (hl : l.length ≤ 100000000) : Wp (fun n => laws_markItemS n l k) (fun r => r.1 = k + 4 * l.length ∧ r.2.length = l.length ∧ MkSItem k r.2) := by
  unfold laws_markItemS
  refine (markItemS_loop l [] k (by simpa using hl) h0 hk).mono ?_
  rintro ⟨r1, r2⟩ ⟨e1, t', e2, e3, e4⟩
  simp only [List.nil_append] at e2
  subst e2
  exact ⟨e1, e3, e4⟩
def MkSHeld : Int → List DHeld → Prop
  | _, [] => True
  | k, x :: t => (x.Seq = k ∧ x.Part.Text = mt (k + 1) ∧ x.Part.Last = ((k + 2) % 3 == 0)) ∧ MkSHeld (k + 3) t
theorem heldHeldS_loop : ∀ (t pre : List DHeld) (k : Int), (pre ++ t).length ≤ 100000000 → 0 ≤ k → k + 3 * t.length ≤ 1000000000000 → MkSHeld k t → Wp (fun n => laws_heldHeldS_l2 n (pre ++ t) k (pre.length : Int)) (· = k + 3 * t.length)
  | [], pre, k, hl, h0, hk, _ => by
    refine Wp.step ?_
    simp only [laws_heldHeldS_l2, List.append_nil]
    simp (disch := omega) only [cbdec, if_neg]
    exact Wp.ret (by simp)
  | x :: t, pre, k, hl, h0, hk, hm => by
    simp only [MkSHeld] at hm
    obtain ⟨hm, hm2⟩ := hm
    simp only [List.length_append, List.length_cons] at hl hk
    refine Wp.step ?_
    simp only [laws_heldHeldS_l2]
    have hlt := lt_mid (pre := pre) (t := t) (x := x)
    obtain ⟨m0, m1, m2⟩ := hm
    simp (disch := first | omega | rfl | assumption) only [cbdec, cbne, cbnot, cbbeq, cbseq, if_pos, if_neg, if_true, eq_self, Int.reduceAdd, idx_mid, Option.bind_some, w64', qrem_nn, addk, hlt, m0, m1, m2]
    refine Wp.bind (markText_ok (by omega)) (fun _ e => ?_); subst e
    try simp (disch := first | omega | rfl | assumption) only [cbdec, cbne, cbnot, cbbeq, cbseq, if_pos, if_neg, if_true, eq_self, Int.reduceAdd, idx_mid, Option.bind_some, w64', qrem_nn, addk, hlt, m0, m1, m2]
    have ih : Wp (fun n => laws_heldHeldS_l2 n (pre ++ x :: t) (k + 3) ((pre.length : Int) + 1)) (· = k + 3 + 3 * t.length) := by
      have := heldHeldS_loop t (pre ++ [x]) (k + 3) (by simp; omega) (by omega) (by omega) hm2
      rwa [← mid_succ, ← mid_len] at this
    exact ih.mono (fun r hr => by simp only [List.length_cons]; omega)
theorem heldHeldS_ok {k : Int} {l : List DHeld} (h0 : 0 ≤ k) (hk : k + 3 * l.length ≤ 1000000000000) (hl : l.length ≤ 100000000) (hm : MkSHeld k l) : Wp (fun n => laws_heldHeldS n l k) (· = k + 3 * l.length) := by
  unfold laws_heldHeldS
  exact heldHeldS_loop l [] k (by simpa using hl) h0 hk hm
theorem markHeldS_loop : ∀ (t pre : List DHeld) (k : Int), (pre ++ t).length ≤ 100000000 → 0 ≤ k → k + 3 * t.length ≤ 1000000000000 → Wp (fun n => laws_markHeldS_l2 n k (pre.length : Int) (pre ++ t)) (fun r => r.1 = k + 3 * t.length ∧ ∃ t', r.2 = pre ++ t' ∧ t'.length = t.length ∧ MkSHeld k t')
  | [], pre, k, hl, h0, hk => by
    refine Wp.step ?_
    simp only [laws_markHeldS_l2, List.append_nil]
    simp (disch := omega) only [cbdec, if_neg]
    exact Wp.ret ⟨by simp, [], by simp, rfl, trivial⟩
  | x :: t, pre, k, hl, h0, hk => by
    simp only [List.length_append, List.length_cons] at hl hk
    refine Wp.step ?_
    simp only [laws_markHeldS_l2]
    simp (disch := omega) only [cbdec, if_pos, if_true, Int.reduceAdd, lt_mid, idx_mid, get_mid, set_mid, Option.bind_some, w64', qrem_nn, addk]
    refine Wp.bind (markText_ok (by omega)) (fun _ e => ?_); subst e
    try simp (disch := omega) only [cbdec, if_pos, if_true, Int.reduceAdd, lt_mid, idx_mid, get_mid, set_mid, Option.bind_some, w64', qrem_nn, addk]
    have key : ∀ y : DHeld, (y.Seq = k ∧ y.Part.Text = mt (k + 1) ∧ y.Part.Last = ((k + 2) % 3 == 0)) → Wp (fun n => laws_markHeldS_l2 n (k + 3) ((pre.length : Int) + 1) (pre ++ y :: t)) (fun r => r.1 = k + 3 * (x :: t).length ∧ ∃ t', r.2 = pre ++ t' ∧ t'.length = (x :: t).length ∧ MkSHeld k t') := fun y hy => by
      have := markHeldS_loop t (pre ++ [y]) (k + 3) (by simp; omega) (by omega) (by omega)
      rw [← mid_succ, ← mid_len] at this
      refine this.mono ?_
      rintro ⟨r1, r2⟩ ⟨e1, t', e2, e3, e4⟩
      refine ⟨by simp only [List.length_cons] at *; omega, y :: t', by rw [e2]; simp, by simp [e3], ?_⟩
      simp only [MkSHeld]
      exact ⟨hy, e4⟩
    exact key _ (by simp)
theorem markHeldS_ok {k : Int} {l : List DHeld} (h0 : 0 ≤ k) (hk : k + 3 * l.length ≤ 1000000000000) (hl : l.length ≤ 100000000) : Wp (fun n => laws_markHeldS n l k) (fun r => r.1 = k + 3 * l.length ∧ r.2.length = l.length ∧ MkSHeld k r.2) := by
  unfold laws_markHeldS
  refine (markHeldS_loop l [] k (by simpa using hl) h0 hk).mono ?_
  rintro ⟨r1, r2⟩ ⟨e1, t', e2, e3, e4⟩
  simp only [List.nil_append] at e2
  subst e2
  exact ⟨e1, e3, e4⟩
def MkSString : Int → List ByteArray → Prop
  | _, [] => True
  | k, x :: t => (x = mt k) ∧ MkSString (k + 1) t
theorem heldStringS_loop : ∀ (t pre : List ByteArray) (k : Int), (pre ++ t).length ≤ 100000000 → 0 ≤ k → k + 1 * t.length ≤ 1000000000000 → MkSString k t → Wp (fun n => laws_heldStringS_l2 n (pre ++ t) k (pre.length : Int)) (· = k + 1 * t.length)
  | [], pre, k, hl, h0, hk, _ => by
    refine Wp.step ?_
    simp only [laws_heldStringS_l2, List.append_nil]
    simp (disch := omega) only [cbdec, if_neg]
    exact Wp.ret (by simp)
  | x :: t, pre, k, hl, h0, hk, hm => by
    simp only [MkSString] at hm
    obtain ⟨hm, hm2⟩ := hm
    simp only [List.length_append, List.length_cons] at hl hk
    refine Wp.step ?_
    simp only [laws_heldStringS_l2]
    have hlt := lt_mid (pre := pre) (t := t) (x := x)
    have m0 := hm
    simp (disch := first | omega | rfl | assumption) only [cbdec, cbne, cbnot, cbbeq, cbseq, if_pos, if_neg, if_true, eq_self, Int.reduceAdd, idx_mid, Option.bind_some, w64', qrem_nn, addk, hlt, true_and]
    refine Wp.bind (markText_ok (by omega)) (fun _ e => ?_); subst e
    try simp (disch := first | omega | rfl | assumption) only [cbdec, cbne, cbnot, cbbeq, cbseq, if_pos, if_neg, if_true, eq_self, Int.reduceAdd, idx_mid, Option.bind_some, w64', qrem_nn, addk, hlt, true_and]
    have ih : Wp (fun n => laws_heldStringS_l2 n (pre ++ x :: t) (k + 1) ((pre.length : Int) + 1)) (· = k + 1 + 1 * t.length) := by
      have := heldStringS_loop t (pre ++ [x]) (k + 1) (by simp; omega) (by omega) (by omega) hm2
      rwa [← mid_succ, ← mid_len] at this
    exact ih.mono (fun r hr => by simp only [List.length_cons]; omega)
theorem heldStringS_ok {k : Int} {l : List ByteArray} (h0 : 0 ≤ k) (hk : k + 1 * l.length ≤ 1000000000000) (hl : l.length ≤ 100000000) (hm : MkSString k l) : Wp (fun n => laws_heldStringS n l k) (· = k + 1 * l.length) := by
  unfold laws_heldStringS
  exact heldStringS_loop l [] k (by simpa using hl) h0 hk hm
theorem markStringS_loop : ∀ (t pre : List ByteArray) (k : Int), (pre ++ t).length ≤ 100000000 → 0 ≤ k → k + 1 * t.length ≤ 1000000000000 → Wp (fun n => laws_markStringS_l2 n k (pre.length : Int) (pre ++ t)) (fun r => r.1 = k + 1 * t.length ∧ ∃ t', r.2 = pre ++ t' ∧ t'.length = t.length ∧ MkSString k t')
  | [], pre, k, hl, h0, hk => by
    refine Wp.step ?_
    simp only [laws_markStringS_l2, List.append_nil]
    simp (disch := omega) only [cbdec, if_neg]
    exact Wp.ret ⟨by simp, [], by simp, rfl, trivial⟩
  | x :: t, pre, k, hl, h0, hk => by
    simp only [List.length_append, List.length_cons] at hl hk
    refine Wp.step ?_
    simp only [laws_markStringS_l2]
    simp (disch := omega) only [cbdec, if_pos, if_true, Int.reduceAdd, lt_mid, idx_mid, get_mid, set_mid, Option.bind_some, w64', qrem_nn, addk]
    refine Wp.bind (markText_ok (by omega)) (fun _ e => ?_); subst e
    try simp (disch := omega) only [cbdec, if_pos, if_true, Int.reduceAdd, lt_mid, idx_mid, get_mid, set_mid, Option.bind_some, w64', qrem_nn, addk]
    have key : ∀ y : ByteArray, (y = mt k) → Wp (fun n => laws_markStringS_l2 n (k + 1) ((pre.length : Int) + 1) (pre ++ y :: t)) (fun r => r.1 = k + 1 * (x :: t).length ∧ ∃ t', r.2 = pre ++ t' ∧ t'.length = (x :: t).length ∧ MkSString k t') := fun y hy => by
      have := markStringS_loop t (pre ++ [y]) (k + 1) (by simp; omega) (by omega) (by omega)
      rw [← mid_succ, ← mid_len] at this
      refine this.mono ?_
      rintro ⟨r1, r2⟩ ⟨e1, t', e2, e3, e4⟩
      refine ⟨by simp only [List.length_cons] at *; omega, y :: t', by rw [e2]; simp, by simp [e3], ?_⟩
      simp only [MkSString]
      exact ⟨hy, e4⟩
    exact key _ (by simp)
theorem markStringS_ok {k : Int} {l : List ByteArray} (h0 : 0 ≤ k) (hk : k + 1 * l.length ≤ 1000000000000) (hl : l.length ≤ 100000000) : Wp (fun n => laws_markStringS n l k) (fun r => r.1 = k + 1 * l.length ∧ r.2.length = l.length ∧ MkSString k r.2) := by
  unfold laws_markStringS
  refine (markStringS_loop l [] k (by simpa using hl) h0 hk).mono ?_
  rintro ⟨r1, r2⟩ ⟨e1, t', e2, e3, e4⟩
  simp only [List.nil_append] at e2
  subst e2
  exact ⟨e1, e3, e4⟩
def MkSInt : Int → List Int → Prop
  | _, [] => True
  | k, x :: t => (x = k) ∧ MkSInt (k + 1) t
theorem heldIntS_loop : ∀ (t pre : List Int) (k : Int), (pre ++ t).length ≤ 100000000 → 0 ≤ k → k + 1 * t.length ≤ 1000000000000 → MkSInt k t → Wp (fun n => laws_heldIntS_l2 n (pre ++ t) k (pre.length : Int)) (· = k + 1 * t.length)
  | [], pre, k, hl, h0, hk, _ => by
    refine Wp.step ?_
    simp only [laws_heldIntS_l2, List.append_nil]
    simp (disch := omega) only [cbdec, if_neg]
    exact Wp.ret (by simp)
  | x :: t, pre, k, hl, h0, hk, hm => by
    simp only [MkSInt] at hm
    obtain ⟨hm, hm2⟩ := hm
    simp only [List.length_append, List.length_cons] at hl hk
    refine Wp.step ?_
    simp only [laws_heldIntS_l2]
    have hlt := lt_mid (pre := pre) (t := t) (x := x)
    have m0 := hm
    simp (disch := first | omega | rfl | assumption) only [cbdec, cbne, cbnot, cbbeq, cbseq, if_pos, if_neg, if_true, eq_self, Int.reduceAdd, idx_mid, Option.bind_some, w64', qrem_nn, addk, hlt, true_and]
    have ih : Wp (fun n => laws_heldIntS_l2 n (pre ++ x :: t) (k + 1) ((pre.length : Int) + 1)) (· = k + 1 + 1 * t.length) := by
      have := heldIntS_loop t (pre ++ [x]) (k + 1) (by simp; omega) (by omega) (by omega) hm2
      rwa [← mid_succ, ← mid_len] at this
    exact ih.mono (fun r hr => by simp only [List.length_cons]; omega)
theorem heldIntS_ok {k : Int} {l : List Int} (h0 : 0 ≤ k) (hk : k + 1 * l.length ≤ 1000000000000) (hl : l.length ≤ 100000000) (hm : MkSInt k l) : Wp (fun n => laws_heldIntS n l k) (· = k + 1 * l.length) := by
  unfold laws_heldIntS
  exact heldIntS_loop l [] k (by simpa using hl) h0 hk hm
theorem markIntS_loop : ∀ (t pre : List Int) (k : Int), (pre ++ t).length ≤ 100000000 → 0 ≤ k → k + 1 * t.length ≤ 1000000000000 → Wp (fun n => laws_markIntS_l2 n k (pre.length : Int) (pre ++ t)) (fun r => r.1 = k + 1 * t.length ∧ ∃ t', r.2 = pre ++ t' ∧ t'.length = t.length ∧ MkSInt k t')
  | [], pre, k, hl, h0, hk => by
    refine Wp.step ?_
    simp only [laws_markIntS_l2, List.append_nil]
    simp (disch := omega) only [cbdec, if_neg]
    exact Wp.ret ⟨by simp, [], by simp, rfl, trivial⟩
  | x :: t, pre, k, hl, h0, hk => by
    simp only [List.length_append, List.length_cons] at hl hk
    refine Wp.step ?_
    simp only [laws_markIntS_l2]
    simp (disch := omega) only [cbdec, if_pos, if_true, Int.reduceAdd, lt_mid, idx_mid, get_mid, set_mid, Option.bind_some, w64', qrem_nn, addk]
    have key : ∀ y : Int, (y = k) → Wp (fun n => laws_markIntS_l2 n (k + 1) ((pre.length : Int) + 1) (pre ++ y :: t)) (fun r => r.1 = k + 1 * (x :: t).length ∧ ∃ t', r.2 = pre ++ t' ∧ t'.length = (x :: t).length ∧ MkSInt k t') := fun y hy => by
      have := markIntS_loop t (pre ++ [y]) (k + 1) (by simp; omega) (by omega) (by omega)
      rw [← mid_succ, ← mid_len] at this
      refine this.mono ?_
      rintro ⟨r1, r2⟩ ⟨e1, t', e2, e3, e4⟩
      refine ⟨by simp only [List.length_cons] at *; omega, y :: t', by rw [e2]; simp, by simp [e3], ?_⟩
      simp only [MkSInt]
      exact ⟨hy, e4⟩
    exact key _ (by simp)
theorem markIntS_ok {k : Int} {l : List Int} (h0 : 0 ≤ k) (hk : k + 1 * l.length ≤ 1000000000000) (hl : l.length ≤ 100000000) : Wp (fun n => laws_markIntS n l k) (fun r => r.1 = k + 1 * l.length ∧ r.2.length = l.length ∧ MkSInt k r.2) := by
  unfold laws_markIntS
  refine (markIntS_loop l [] k (by simpa using hl) h0 hk).mono ?_
  rintro ⟨r1, r2⟩ ⟨e1, t', e2, e3, e4⟩
  simp only [List.nil_append] at e2
  subst e2
  exact ⟨e1, e3, e4⟩
end Km.X
namespace Km.X
open Go Km
set_option linter.unusedVariables false
set_option linter.unusedSimpArgs false
abbrev noB : ByteArray := ⟨#[]⟩
theorem noB_size : noB.size = 0 := rfl
theorem bstr_fold (bs : List Int) : ∀ (s : ByteArray), bs.foldl (fun r n => r.push (UInt8.ofNat n.toNat)) s = s ++ bstr bs := by
  induction bs with
  | nil => intro s; simp [bstr]
  | cons b bs ih =>
    intro s
    simp only [List.foldl_cons, bstr]
    rw [ih, ih]
    apply ByteArray.ext; apply Array.ext'
    simp
theorem bstr_cons (b : Int) (bs : List Int) : bstr [b] ++ bstr bs = bstr (b :: bs) := by
  have := bstr_fold bs (bstr [b])
  rw [← this]; rfl
theorem bstr_nil : bstr [] = noB := rfl
/-- the w lowest bytes, the highest first -/
def bytesL : Nat → Nat → List Int
  | 0, _ => []
  | w + 1, n => bytesL w (n / 256) ++ [((n % 256 : Nat) : Int)]
theorem bytesL_length : ∀ (w n : Nat), (bytesL w n).length = w
  | 0, _ => rfl
  | w + 1, n => by simp [bytesL, bytesL_length w]
theorem bytesL_drop (d : Nat) : ∀ (w n : Nat), (bytesL (w + d) n).drop d = bytesL w n
  | 0, n => by
    rw [Nat.zero_add, List.drop_eq_nil_of_le (by rw [bytesL_length]; exact Nat.le_refl _)]; rfl
  | w + 1, n => by
    rw [show w + 1 + d = (w + d) + 1 by omega]
    simp only [bytesL]
    rw [List.drop_append_of_le_length (by rw [bytesL_length]; omega), bytesL_drop d w]
theorem wu8 (n : Nat) : IntKind.wrap .u8 (n : Int) = ((n % 256 : Nat) : Int) := by rw [IntKind.wrap_u8]; omega
theorem wu64 {n : Int} (h1 : 0 ≤ n) (h2 : n ≤ 18446744073709551615) : IntKind.wrap .u64 n = n := IntWalk.u64_in n ⟨h1, h2⟩
theorem wu64_range (n : Int) : 0 ≤ IntKind.wrap .u64 n ∧ IntKind.wrap .u64 n ≤ 18446744073709551615 := by
  simp only [IntKind.wrap, IntKind.signed, IntKind.bits, Bool.false_and]
  rw [if_neg (by simp)]; omega
theorem qrem_nat (n : Nat) : qrem (n : Int) 256 = some ((n % 256 : Nat) : Int) := by rw [qrem_nn (by omega) (by omega)]; simp
theorem qdiv_nat (n : Nat) : qdiv (n : Int) 256 = some ((n / 256 : Nat) : Int) := by rw [qdiv_nn (by omega) (by omega)]; simp
theorem wu8_mod (n : Nat) : IntKind.wrap .u8 ((n % 256 : Nat) : Int) = ((n % 256 : Nat) : Int) := by rw [wu8, Nat.mod_mod]
theorem shr8 {k : IntKind} (hk : 8 ≤ k.bits) (n : Nat) : shift .shr k (n : Int) 8 = some ((n / 256 : Nat) : Int) := by
  simp only [shift]
  rw [if_neg (by omega)]
  congr 1
  rw [show (Int.toNat 8) = 8 from rfl, Nat.min_eq_left hk, Int.fdiv_eq_ediv_of_nonneg _ (by simp)]
  simp
theorem sadd_bstr (b : Int) (bs : List Int) (h : bs.length ≤ 1000) : sadd (bstr [b]) (bstr bs) = some (bstr (b :: bs)) := by
  rw [sadd_ok (by rw [bstr_size, bstr_size]; simp; omega), bstr_cons]
theorem set_bytes {d n : Nat} {b : List Int} (hlt : d < b.length) : bytesL d (n / 256) ++ (b.set d ((n % 256 : Nat) : Int)).drop d = bytesL (d + 1) n ++ b.drop (d + 1) := by
  simp only [bytesL, List.append_assoc, List.cons_append, List.nil_append]
  congr 1
  rw [List.drop_eq_getElem_cons (by simpa using hlt), List.drop_set_of_lt (by omega)]
  simp

theorem specTag11 : ∀ (d w i n : Nat) (tail : List Int), i + d = w → w ≤ 8 → n ≤ 18446744073709551615 → tail.length + d ≤ 100 →
    Wp (fun k => spec_Tag_l11 k (w : Int) (n : Int) (bstr tail) (i : Int)) (· = bstr (bytesL d n ++ tail))
  | 0, w, i, n, tail, h, hw, hn, ht => by
    refine Wp.step ?_
    simp only [spec_Tag_l11]
    simp (disch := omega) only [cbdec, if_neg]
    exact Wp.ret rfl
  | d + 1, w, i, n, tail, h, hw, hn, ht => by
    refine Wp.step ?_
    simp only [spec_Tag_l11]
    simp (disch := omega) only [cbdec, if_pos, qrem_nat, qdiv_nat, Option.bind_some, wu8_mod, sadd_bstr, wu64, w64', castS]
    have ih := specTag11 d w (i + 1) (n / 256) (((n % 256 : Nat) : Int) :: tail) (by omega) hw (by omega) (by simp; omega)
    simpa [bytesL] using ih
theorem implTag11 : ∀ (d w n : Nat) (b : List Int), b.length = 8 → d ≤ 8 → 1 ≤ w → w ≤ 8 → n ≤ 18446744073709551615 →
    Wp (fun k => impl_Tag_l11 k (w : Int) (n : Int) ((d : Int) - 1) b) (· = bstr ((bytesL d n ++ b.drop d).drop (8 - w)))
  | 0, w, n, b, hb, hd, hw1, hw, hn => by
    refine Wp.step ?_
    simp only [impl_Tag_l11]
    simp (disch := omega) only [cbdec, if_neg, if_pos hb, w64', wnd_ok, Option.bind_some]
    refine Wp.ret ?_
    simp only [bytesL, List.nil_append, List.drop_zero, dcut]
    rw [show ((8 : Int) - (w : Int)).toNat = 8 - w by omega, show Int.toNat 8 = 8 from rfl, List.take_of_length_le (by omega)]
  | d + 1, w, n, b, hb, hd, hw1, hw, hn => by
    refine Wp.step ?_
    simp only [impl_Tag_l11]
    rw [show ((d + 1 : Nat) : Int) - 1 = (d : Int) by omega]
    have hlt : d < b.length := by omega
    simp (disch := first | omega | decide) only [cbdec, if_pos, if_pos hb, idxN, getN, Option.bind_some, shr8, w64', wu8]
    have ih := implTag11 d w (n / 256) (b.set d ((n % 256 : Nat) : Int)) (by simpa using hb) (by omega) hw1 hw (by omega)
    rw [set_bytes hlt] at ih
    rw [Int.toNat_natCast]
    exact ih

def hstep (v : Int) (c : UInt8) : Int := IntKind.wrap .u64 ((bitsXor .u64 v (IntKind.wrap .u64 (c.toNat : Int))) * 1099511628211)
def hashL (l : List UInt8) : Int := l.foldl hstep 14695981039346656037
theorem hash_range : ∀ (l : List UInt8) (v : Int), 0 ≤ v ∧ v ≤ 18446744073709551615 → 0 ≤ l.foldl hstep v ∧ l.foldl hstep v ≤ 18446744073709551615
  | [], v, h => h
  | c :: l, v, h => hash_range l _ (wu64_range _)
theorem bidx_mid {pre t : List UInt8} {c : UInt8} {all : ByteArray} (h : all.data.toList = pre ++ c :: t) : bidx all (pre.length : Int) = some c := by
  have hl : pre.length < all.size := by
    have := congrArg List.length h
    simp at this
    have e : all.size = all.data.size := rfl
    omega
  have hg : all.data[pre.length]? = some c := by
    rw [← Array.getElem?_toList, h]; simp
  unfold bidx
  rw [if_neg (by omega), Int.toNat_natCast]
  have e : all[pre.length]? = some (all[pre.length]'hl) := by simp [hl]
  rw [e]
  rw [Array.getElem?_eq_getElem (by exact hl)] at hg
  exact hg
theorem size_mid {pre t : List UInt8} {all : ByteArray} (h : all.data.toList = pre ++ t) : all.size = pre.length + t.length := by
  have := congrArg List.length h
  simp at this
  exact this
theorem specTag6 (all : ByteArray) (w : Nat) (hw : w ≤ 8) (hs : all.size ≤ 10000000) : ∀ (t pre : List UInt8) (v : Int), all.data.toList = pre ++ t → 0 ≤ v ∧ v ≤ 18446744073709551615 →
    Wp (fun k => spec_Tag_l6 k (w : Int) all v (pre.length : Int)) (· = bstr (bytesL w (t.foldl hstep v).toNat))
  | [], pre, v, h, hv => by
    refine Wp.step ?_
    have := size_mid h
    simp only [List.length_nil] at this
    simp only [spec_Tag_l6]
    simp (disch := omega) only [cbdec, if_neg]
    have h11 := specTag11 w w 0 v.toNat [] (by omega) hw (by omega) (by simp; omega)
    rw [List.append_nil, show ((v.toNat : Nat) : Int) = v by omega, bstr_nil] at h11
    exact h11
  | c :: t, pre, v, h, hv => by
    refine Wp.step ?_
    have hl := size_mid h
    simp only [List.length_cons] at hl
    simp only [spec_Tag_l6]
    simp (disch := omega) only [cbdec, if_pos, bidx_mid h, Option.bind_some, w64']
    have ih := specTag6 all w hw hs t (pre ++ [c]) (hstep v c) (by simpa using h) (wu64_range _)
    rwa [← mid_len] at ih
theorem implTag6 (all : ByteArray) (w : Nat) (hw1 : 1 ≤ w) (hw : w ≤ 8) (hs : all.size ≤ 10000000) : ∀ (t pre : List UInt8) (v : Int), all.data.toList = pre ++ t → 0 ≤ v ∧ v ≤ 18446744073709551615 →
    Wp (fun k => impl_Tag_l6 k (w : Int) v all (pre.length : Int)) (· = bstr (bytesL w (t.foldl hstep v).toNat))
  | [], pre, v, h, hv => by
    refine Wp.step ?_
    have := size_mid h
    simp only [List.length_nil] at this
    simp only [impl_Tag_l6]
    simp (disch := omega) only [cbdec, if_neg]
    have h11 := implTag11 8 w v.toNat (List.replicate 8 0) (by simp) (by omega) hw1 hw (by omega)
    rw [show ((v.toNat : Nat) : Int) = v by omega] at h11
    have hd := bytesL_drop (8 - w) w v.toNat
    rw [show w + (8 - w) = 8 by omega] at hd
    refine Wp.mono h11 fun r hr => ?_
    rw [hr, show List.drop 8 (List.replicate 8 (0 : Int)) = [] from rfl, List.append_nil, hd]
    rfl
  | c :: t, pre, v, h, hv => by
    refine Wp.step ?_
    have hl := size_mid h
    simp only [List.length_cons] at hl
    simp only [impl_Tag_l6]
    simp (disch := omega) only [cbdec, if_pos, bidx_mid h, Option.bind_some, w64']
    have ih := implTag6 all w hw1 hw hs t (pre ++ [c]) (hstep v c) (by simpa using h) (wu64_range _)
    rwa [← mid_len] at ih

theorem l1In_ok (a b c : Int) : Wp (fun k => spec_l1In k a b c) (· = (decide (b ≤ a) && decide (a ≤ c))) := by
  unfold spec_l1In
  refine Wp.dec (fun h => Wp.ret ?_) (fun h => Wp.ret ?_)
  · rw [decide_eq_true (show b ≤ a by omega)]; rfl
  · rw [decide_eq_false (show ¬ b ≤ a by omega)]; rfl
theorem in_ok (a b c : Int) : Wp (fun k => impl_in k a b c) (· = (decide (b ≤ a) && decide (a ≤ c))) := l1In_ok a b c
theorem inB {a b c : Int} : (decide (b ≤ a) && decide (a ≤ c)) = decide (b ≤ a ∧ a ≤ c) := by rw [Bool.decide_and]

/-- the tag -/
def tagM (a b : ByteArray) (w : Int) : ByteArray := if w < 1 ∨ 8 < w ∨ 30 < b.size then noB else bstr (bytesL w.toNat (hashL (b ++ ⟨#[0]⟩ ++ a).data.toList).toNat)
theorem specTag_ok (a b : ByteArray) (w : Int) (ha : a.size ≤ 1048576) : Wp (fun k => spec_Tag k a b w) (· = tagM a b w) := by
  unfold spec_Tag tagM
  refine Wp.bind (l1In_ok _ _ _) (fun _ e => ?_); subst e
  simp only [inB, cbnot, cbdec]
  refine Wp.ite (fun h1 => ?_) (fun h1 => ?_)
  · refine Wp.ite (fun h2 => ?_) (fun h2 => ?_)
    · rw [if_pos (by omega)]; exact Wp.ret rfl
    · rw [if_neg (by omega)]
      have e0 : (⟨#[0]⟩ : ByteArray).size = 1 := rfl
      have hsz : (b ++ ⟨#[0]⟩ ++ a).size = b.size + 1 + a.size := by rw [ba_size_append, ba_size_append, e0]
      refine Wp.opt (sadd_ok (by rw [e0]; omega)) ?_
      refine Wp.opt (sadd_ok (by rw [ba_size_append, e0]; omega)) ?_
      obtain ⟨n, rfl⟩ : ∃ n : Nat, w = n := ⟨w.toNat, by omega⟩
      exact specTag6 _ n (by omega) (by omega) _ [] _ rfl (by omega)
  · rw [if_pos (by omega)]; exact Wp.ret rfl
theorem implTag_ok (a b : ByteArray) (w : Int) (ha : a.size ≤ 1048576) : Wp (fun k => impl_Tag k a b w) (· = tagM a b w) := by
  unfold impl_Tag tagM
  simp only [cbdec]
  refine Wp.ite (fun h1 => ?_) (fun h1 => ?_)
  · rw [if_pos (by omega)]; exact Wp.ret rfl
  refine Wp.ite (fun h2 => ?_) (fun h2 => ?_)
  · rw [if_pos (by omega)]; exact Wp.ret rfl
  refine Wp.ite (fun h3 => ?_) (fun h3 => ?_)
  · rw [if_pos (by omega)]; exact Wp.ret rfl
  rw [if_neg (by omega)]
  have e0 : (⟨#[0]⟩ : ByteArray).size = 1 := rfl
  have hsz : (b ++ ⟨#[0]⟩ ++ a).size = b.size + 1 + a.size := by rw [ba_size_append, ba_size_append, e0]
  refine Wp.opt (sadd_ok (by rw [e0]; omega)) ?_
  refine Wp.opt (sadd_ok (by rw [ba_size_append, e0]; omega)) ?_
  obtain ⟨n, rfl⟩ : ∃ n : Nat, w = n := ⟨w.toNat, by omega⟩
  exact implTag6 _ n (by omega) (by omega) (by omega) _ [] _ rfl (by omega)
theorem tagM_size (a b : ByteArray) (w : Int) : (tagM a b w).size ≤ 8 := by
  unfold tagM
  split
  · simp [noB_size]
  · rw [bstr_size, bytesL_length]; omega
theorem tagM_size' (a b : ByteArray) (w : Int) (hw : 1 ≤ w ∧ w ≤ 8) (hb : b.size ≤ 30) : (tagM a b w).size = w.toNat := by
  unfold tagM
  rw [if_neg (by omega), bstr_size, bytesL_length]
end Km.X
namespace Km.X
open Go Km
set_option linter.unusedVariables false
set_option linter.unusedSimpArgs false
def joinL : List DPart → ByteArray → List ByteArray → List ByteArray × ByteArray × Bool
  | [], o, out => (out, o, true)
  | p :: ps, o, out => if 20 < p.Text.size ∨ 200 < o.size + p.Text.size then ([], noB, false) else if p.Last then joinL ps noB (out ++ [o ++ p.Text]) else joinL ps (o ++ p.Text) out
def joinM (xs : List DPart) : List ByteArray × ByteArray × Bool := if 1000000 < xs.length then ([], noB, false) else joinL xs noB []
theorem joinL_spec : ∀ (t pre : List DPart) (o : ByteArray) (out : List ByteArray), (pre ++ t).length ≤ 1000000 → o.size ≤ 200 → out.length ≤ pre.length →
    Wp (fun k => spec_Join_l6 k (pre ++ t) o (pre.length : Int) out) (· = joinL t o out)
  | [], pre, o, out, hl, ho, hout => by
    refine Wp.step ?_
    simp only [spec_Join_l6, List.append_nil]
    simp (disch := omega) only [cbdec, if_neg]
    exact Wp.ret rfl
  | x :: t, pre, o, out, hl, ho, hout => by
    refine Wp.step ?_
    simp only [spec_Join_l6, joinL]
    simp only [List.length_append, List.length_cons] at hl
    simp only [cbdec, lt_mid, if_true, idx_mid, Option.bind_some]
    refine Wp.ite (fun h => ?_) (fun h => ?_)
    · rw [if_pos (.inl (by omega))]; exact Wp.ret rfl
    simp (disch := omega) only [w64']
    refine Wp.ite (fun h2 => ?_) (fun h2 => ?_)
    · rw [if_pos (.inr (by omega))]; exact Wp.ret rfl
    simp (disch := omega) only [sadd_ok, Option.bind_some]
    rw [if_neg (by omega)]
    cases hx : x.Last
    · simp only [cond_false]
      refine Wp.step ?_
      simp (disch := omega) only [spec_Join_l7, w64']
      have ih := joinL_spec t (pre ++ [x]) (o ++ x.Text) out (by simp; omega) (by rw [ba_size_append]; omega) (by simp; omega)
      rwa [← mid_succ, ← mid_len] at ih
    · simp only [cond_true]
      refine Wp.opt (app_ok (by simp; omega)) ?_
      refine Wp.step ?_
      simp (disch := omega) only [spec_Join_l7, w64']
      have ih := joinL_spec t (pre ++ [x]) noB (out ++ [o ++ x.Text]) (by simp; omega) (by simp [noB_size]) (by simp; omega)
      rwa [← mid_succ, ← mid_len] at ih
theorem specJoin_ok (xs : List DPart) (h : xs.length ≤ 1048576) : Wp (fun k => spec_Join k xs) (· = joinM xs) := by
  unfold spec_Join joinM
  simp only [cbdec]
  refine Wp.ite (fun h => ?_) (fun h => ?_)
  · rw [if_pos (by omega)]; exact Wp.ret rfl
  · rw [if_neg (by omega)]; exact joinL_spec xs [] noB [] (by simp; omega) (by simp [noB_size]) (by simp)
theorem joinL_impl : ∀ (t pre : List DPart) (o : ByteArray) (out : List ByteArray), (pre ++ t).length ≤ 1000000 → (∀ y ∈ t, y.Text.size ≤ 1048576) → o.size ≤ 200 → out.length ≤ pre.length →
    Wp (fun k => impl_Join_l6 k o (pre ++ t) ((pre ++ t).length : Int) (pre.length : Int) out) (· = joinL t o out)
  | [], pre, o, out, hl, hy, ho, hout => by
    refine Wp.step ?_
    simp only [impl_Join_l6, List.append_nil]
    simp (disch := omega) only [cbdec, if_neg]
    exact Wp.ret rfl
  | x :: t, pre, o, out, hl, hy, ho, hout => by
    refine Wp.step ?_
    simp only [impl_Join_l6, joinL]
    have hx1 := hy x (List.mem_cons_self ..)
    have hl' := hl
    simp only [List.length_append, List.length_cons] at hl
    simp only [cbdec, lt_mid, if_true, idx_mid, Option.bind_some]
    simp (disch := omega) only [sadd_ok, Option.bind_some]
    refine Wp.ite (fun h => ?_) (fun h => ?_)
    · rw [if_pos (.inl (by omega))]; exact Wp.ret rfl
    simp only [ba_size_append]
    refine Wp.ite (fun h2 => ?_) (fun h2 => ?_)
    · rw [if_pos (.inr (by omega))]; exact Wp.ret rfl
    rw [if_neg (by omega)]
    cases hx : x.Last
    · simp only [cond_false]
      refine Wp.step ?_
      simp (disch := omega) only [impl_Join_l14, w64']
      have ih := joinL_impl t (pre ++ [x]) (o ++ x.Text) out (by simp; omega) (fun y h => hy y (List.mem_cons_of_mem _ h)) (by rw [ba_size_append]; omega) (by simp; omega)
      rwa [← mid_succ, ← mid_len] at ih
    · simp only [cond_true]
      refine Wp.opt (app_ok (by simp; omega)) ?_
      refine Wp.step ?_
      simp (disch := omega) only [impl_Join_l14, w64']
      have ih := joinL_impl t (pre ++ [x]) noB (out ++ [o ++ x.Text]) (by simp; omega) (fun y h => hy y (List.mem_cons_of_mem _ h)) (by simp [noB_size]) (by simp; omega)
      rwa [← mid_succ, ← mid_len] at ih
theorem implJoin_ok (xs : List DPart) (h : smL smPart xs) : Wp (fun k => impl_Join k xs) (· = joinM xs) := by
  unfold impl_Join joinM
  simp only [cbdec]
  refine Wp.ite (fun h => ?_) (fun h => ?_)
  · rw [if_pos (by omega)]; exact Wp.ret rfl
  · rw [if_neg (by omega)]; exact joinL_impl xs [] noB [] (by simp; omega) (fun y hy => by have := ‹smL smPart xs›.2 y hy; exact this) (by simp [noB_size]) (by simp)
theorem joinL_sm : ∀ (t : List DPart) (o : ByteArray) (out : List ByteArray), o.size ≤ 200 → (∀ y ∈ out, y.size ≤ 200) → ((joinL t o out).1.length ≤ out.length + t.length) ∧ (∀ y ∈ (joinL t o out).1, y.size ≤ 200) ∧ (joinL t o out).2.1.size ≤ 200
  | [], o, out, ho, hout => ⟨by simp [joinL], hout, ho⟩
  | x :: t, o, out, ho, hout => by
    simp only [joinL]
    split
    · exact ⟨by simp, fun y hy => by simp at hy, by simp [noB_size]⟩
    · rename_i h
      split
      · have := joinL_sm t noB (out ++ [o ++ x.Text]) (by simp [noB_size]) (fun y hy => by
          simp only [List.mem_append, List.mem_singleton] at hy
          rcases hy with hy | rfl
          · exact hout y hy
          · rw [ba_size_append]; omega)
        refine ⟨?_, this.2⟩
        have h1 := this.1
        simp only [List.length_append, List.length_cons, List.length_nil] at h1 ⊢
        omega
      · have := joinL_sm t (o ++ x.Text) out (by rw [ba_size_append]; omega) hout
        refine ⟨?_, this.2⟩
        have h1 := this.1
        simp only [List.length_cons] at h1 ⊢
        omega
theorem joinM_sm (xs : List DPart) : (joinM xs).1.length ≤ 1000000 ∧ (∀ y ∈ (joinM xs).1, y.size ≤ 200) ∧ (joinM xs).2.1.size ≤ 200 := by
  unfold joinM
  split
  · exact ⟨by simp, fun y hy => by simp at hy, by simp [noB_size]⟩
  · have := joinL_sm xs noB [] (by simp [noB_size]) (fun y hy => by simp at hy)
    exact ⟨by simp at this; omega, this.2⟩
theorem exact_FnExactJoin (a : List DPart) (h : a.length ≤ maxLen ∧ ∀ y ∈ a, wf_part y) : ∃ k, laws_FnExactJoin k a = some true := by
  refine Wp.exists (f := fun k => laws_FnExactJoin k a) ?_
  unfold laws_FnExactJoin
  refine Wp.bind (szPartS_ok a h 1048576 (by omega)) ?_
  rintro r ⟨_, hr⟩
  refine Wp.dec (fun h => Wp.ret rfl) (fun h0 => ?_)
  have ha := hr (by omega)
  have hal := ha.1
  have hs := specJoin_ok a ha.1
  have hi := implJoin_ok a ha
  obtain ⟨v1, v2, v3⟩ := joinM_sm a
  have hv : smL (fun s : ByteArray => s.size ≤ 1048576) (joinM a).1 := ⟨by omega, fun y hy => by have := v2 y hy; omega⟩
  repeat' (first
    | exact Wp.ret rfl
    | (refine Wp.bind hs ?_; rintro _ rfl)
    | (refine Wp.bind hi ?_; rintro _ rfl)
    | (refine Wp.bind (toPartS_ok _ (by assumption)) ?_; rintro _ rfl)
    | (refine Wp.bind (eqStringS_ok _ (by assumption)) ?_; rintro _ rfl)
    | (refine Wp.bind (eqPartS_ok _ (by assumption)) ?_; rintro _ rfl)
    | (refine Wp.bind (heldStringS_ok (by omega) (by omega) (by omega) (by assumption)) ?_; rintro _ rfl)
    | (refine Wp.bind (markStringS_ok (by omega) (by omega) (by omega)) ?_; rintro ⟨_, _⟩ ⟨rfl, _, _⟩; dsimp only at *)
    | (refine Wp.bind (heldPartS_ok (by omega) (by omega) (by omega) (by assumption)) ?_; rintro _ rfl)
    | (refine Wp.bind (markPartS_ok (by omega) (by omega) (by omega)) ?_; rintro ⟨_, _⟩ ⟨rfl, _, _⟩; dsimp only at *)
    | simp (disch := first | omega | rfl) only [cbdec, cbnot, cbeq, cbne, cbseq, cbbeq, cond_true, cond_false, Option.bind_some, Bool.not_true, Bool.not_false, if_true, if_false, if_neg, if_pos])
end Km.X
namespace Km.X
open Go Km
set_option linter.unusedVariables false
set_option linter.unusedSimpArgs false
/-! ### Send -/
def OkItem (i : Nat) (x : DItem) : Prop := x.Part.Text.size ≤ 20 ∧ (-1 ≤ x.Since ∧ x.Since ≤ 3) ∧ (8 ≤ i → x.Since = -1) ∧ (x.Has = true → 0 ≤ x.Since)
def OkItems : Nat → List DItem → Prop
  | _, [] => True
  | i, x :: t => OkItem i x ∧ OkItems (i + 1) t
instance (i : Nat) (x : DItem) : Decidable (OkItem i x) := by unfold OkItem; infer_instance
instance decOkItems : (i : Nat) → (l : List DItem) → Decidable (OkItems i l)
  | _, [] => .isTrue trivial
  | i, x :: t => by
    have := decOkItems (i + 1) t
    unfold OkItems; infer_instance
def VSend (s : DSend) : Prop := s.Items.length ≤ 60 ∧ (0 ≤ s.Base ∧ s.Base ≤ 1000000) ∧ s.Base + s.Items.length ≤ 1000000 ∧ OkItems 0 s.Items
instance (s : DSend) : Decidable (VSend s) := by unfold VSend; infer_instance
theorem okItems_get : ∀ {l : List DItem} {i : Nat}, OkItems i l → ∀ (j : Nat) (x : DItem), l[j]? = some x → OkItem (i + j) x
  | [], _, _, j, x, h => by simp at h
  | y :: t, i, ⟨h1, h2⟩, j, x, h => by
    cases j with
    | zero => simp at h; subst h; exact h1
    | succ j => have := okItems_get h2 j x (by simpa using h); rwa [show i + 1 + j = i + (j + 1) by omega] at this
theorem okItems_of : ∀ {l : List DItem} {i : Nat}, (∀ (j : Nat) (x : DItem), l[j]? = some x → OkItem (i + j) x) → OkItems i l
  | [], _, _ => trivial
  | y :: t, i, h => ⟨h 0 y rfl, okItems_of fun j x hx => by have := h (j + 1) x (by simpa using hx); rwa [show i + 1 + j = i + (j + 1) by omega]⟩
theorem validSend_loop (b : Int) : ∀ (t pre : List DItem), (pre ++ t).length ≤ 60 → Wp (fun k => spec_ValidSend_l4 k (pre.length : Int) b (pre ++ t)) (· = decide (OkItems pre.length t))
  | [], pre, hl => by
    refine Wp.step ?_
    simp only [spec_ValidSend_l4, List.append_nil]
    simp (disch := omega) only [cbdec, if_neg]
    exact Wp.ret rfl
  | x :: t, pre, hl => by
    refine Wp.step ?_
    have hl' := hl
    simp only [List.length_append, List.length_cons] at hl
    simp only [spec_ValidSend_l4, OkItems]
    simp (disch := omega) only [cbdec, lt_mid, if_true, idx_mid, Option.bind_some, w64', cbnot, cbne]
    have F : ¬ OkItem pre.length x → Wp (fun _ => some false) (· = decide (OkItem pre.length x ∧ OkItems (pre.length + 1) t)) := fun h => Wp.ret (decide_eq_false fun h' => h h'.1).symm
    have ih := validSend_loop b t (pre ++ [x]) (by simpa using hl')
    rw [← mid_succ, ← mid_len, List.length_append, List.length_singleton] at ih
    have G : OkItem pre.length x → Wp (fun k => spec_ValidSend_l4 k ((pre.length : Int) + 1) b (pre ++ x :: t)) (· = decide (OkItem pre.length x ∧ OkItems (pre.length + 1) t)) := fun h => by
      refine Wp.mono ih fun r hr => ?_
      rw [hr, decide_eq_decide]
      exact ⟨fun g => ⟨h, g⟩, fun g => g.2⟩
    refine Wp.ite (fun h => F fun h' => by have := h'.1; omega) (fun h1 => ?_)
    refine Wp.bind (l1In_ok _ _ _) (fun _ e => ?_); subst e
    simp only [inB, cbdec]
    refine Wp.ite (fun h2 => ?_) (fun h2 => F fun h' => h2 h'.2.1)
    refine Wp.ite (fun h3 => ?_) (fun h3 => ?_)
    · refine Wp.ite (fun h4 => ?_) (fun h4 => F fun h' => h4 (h'.2.2.1 (by omega)))
      refine Wp.bif (fun h5 => ?_) (fun h5 => ?_)
      · refine Wp.ite (fun h6 => F fun h' => by have := h'.2.2.2 h5; omega) (fun h6 => by omega)
      · exact G ⟨by omega, h2, fun _ => h4, fun h => by rw [h5] at h; cases h⟩
    · refine Wp.bif (fun h5 => ?_) (fun h5 => ?_)
      · refine Wp.ite (fun h6 => F fun h' => by have := h'.2.2.2 h5; omega) (fun h6 => ?_)
        exact G ⟨by omega, h2, fun h => by omega, fun _ => by omega⟩
      · exact G ⟨by omega, h2, fun h => by omega, fun h => by rw [h5] at h; cases h⟩
theorem specValidSend_ok (s : DSend) : Wp (fun k => spec_ValidSend k s) (· = decide (VSend s)) := by
  unfold spec_ValidSend
  simp only [cbdec, cbnot]
  have F : ¬ VSend s → Wp (fun _ => some false) (· = decide (VSend s)) := fun h => Wp.ret (decide_eq_false h).symm
  refine Wp.ite (fun h => F fun h' => by have := h'.1; omega) (fun h1 => ?_)
  refine Wp.bind (l1In_ok _ _ _) (fun _ e => ?_); subst e
  simp only [inB, cbdec]
  refine Wp.ite (fun h2 => ?_) (fun h2 => F fun h' => h2 h'.2.1)
  rw [w64' (by omega) (by omega)]
  refine Wp.ite (fun h3 => F fun h' => by have := h'.2.2.1; omega) (fun h3 => ?_)
  refine Wp.mono (validSend_loop s.Base s.Items [] (by simp; omega)) fun r hr => ?_
  rw [hr, decide_eq_decide]
  exact ⟨fun h => ⟨by omega, h2, by omega, h⟩, fun h => h.2.2.2⟩
theorem validSend_same_l (xs : List DItem) (b : Int) : ∀ (k : Nat) (j : Int), impl_ValidSend_l4 k xs (xs.length : Int) j = spec_ValidSend_l4 k j b xs
  | 0, _ => rfl
  | k + 1, j => by
    have hi : ∀ a b c, impl_in k a b c = spec_l1In k a b c := fun _ _ _ => rfl
    simp only [impl_ValidSend_l4, spec_ValidSend_l4, validSend_same_l xs b k, hi]
theorem validSend_same (k : Nat) (s : DSend) : impl_ValidSend k s = spec_ValidSend k s := by
  have hi : ∀ a b c, impl_in k a b c = spec_l1In k a b c := fun _ _ _ => rfl
  simp only [impl_ValidSend, spec_ValidSend, hi, validSend_same_l s.Items s.Base]
theorem implValidSend_ok (s : DSend) : Wp (fun k => impl_ValidSend k s) (· = decide (VSend s)) := by
  have : (fun k => impl_ValidSend k s) = fun k => spec_ValidSend k s := funext fun k => validSend_same k s
  rw [this]; exact specValidSend_ok s
theorem l4Copy_ok (s : DSend) (h : s.Items.length ≤ 1048576) : Wp (fun k => spec_l4Copy k s) (· = s) := by
  unfold spec_l4Copy
  refine Wp.opt (app_ok (by simp; omega)) ?_
  exact Wp.ret (by rw [List.nil_append])
theorem copySend_ok (s : DSend) (h : s.Items.length ≤ 1048576) : Wp (fun k => impl_copySend k s) (· = s) := l4Copy_ok s h
abbrev noSend : DSend := ⟨0, []⟩

/-! ### SendTick -/
def tickI (x : DItem) : DItem := if x.Has = true then x else if x.Since = -1 then ⟨x.Part, x.Has, 0⟩ else if x.Since = 3 then ⟨x.Part, x.Has, 0⟩ else ⟨x.Part, x.Has, x.Since + 1⟩
def sendsI (x : DItem) : Prop := ¬ x.Has = true ∧ (x.Since = -1 ∨ x.Since = 3)
instance (x : DItem) : Decidable (sendsI x) := by unfold sendsI; infer_instance
def tickL : Nat → Int → List DItem → List DItem × List Int
  | _, _, [] => ([], [])
  | i, b, x :: t => if 8 ≤ i then (x :: t, []) else (tickI x :: (tickL (i + 1) b t).1, (if sendsI x then [b + i] else []) ++ (tickL (i + 1) b t).2)
def tickM (s : DSend) : DSend × List Int := if VSend s then (⟨s.Base, (tickL 0 s.Base s.Items).1⟩, (tickL 0 s.Base s.Items).2) else (noSend, [])
theorem tick_specL (b : Int) (xs ys : List DItem) (c d : Int) (hb : 0 ≤ b ∧ b ≤ 1000000) : ∀ (t pre : List DItem) (sent : List Int), (pre ++ t).length ≤ 60 → sent.length ≤ pre.length → OkItems pre.length t →
    Wp (fun k => spec_SendTick_l6 k (pre.length : Int) b xs c sent d ys (pre ++ t)) (· = (⟨d, pre ++ (tickL pre.length b t).1⟩, sent ++ (tickL pre.length b t).2))
  | [], pre, sent, hl, hs, hok => by
    refine Wp.step ?_
    simp only [spec_SendTick_l6, List.append_nil]
    simp (disch := omega) only [cbdec, if_neg]
    exact Wp.ret (by simp [tickL])
  | x :: t, pre, sent, hl, hs, hok => by
    refine Wp.step ?_
    have hl' := hl
    simp only [List.length_append, List.length_cons] at hl
    simp only [spec_SendTick_l6]
    simp only [cbdec, lt_mid, if_true, idx_mid, get_mid, Option.bind_some, cbeq, set_mid]
    simp (disch := omega) only [w64']
    refine Wp.ite (fun h8 => ?_) (fun h8 => ?_)
    · have ih := fun y sent' hs' => tick_specL b xs ys c d hb t (pre ++ [y]) sent' (by simpa using hl') hs' (by rw [List.length_append, List.length_singleton]; exact hok.2)
      have ih' : ∀ (y : DItem) (sent' : List Int), sent'.length ≤ pre.length + 1 → tickI x = y → sent' = sent ++ (if sendsI x then [b + (pre.length : Int)] else []) →
          Wp (fun k => spec_SendTick_l7 k (pre.length : Int) b xs c sent' d ys (pre ++ y :: t)) (· = (⟨d, pre ++ (tickL pre.length b (x :: t)).1⟩, sent ++ (tickL pre.length b (x :: t)).2)) := by
        intro y sent' hs' hy hs2
        refine Wp.step ?_
        simp only [spec_SendTick_l7]
        have := ih y sent' (by simpa using hs')
        rw [← mid_succ, ← mid_len, List.length_append, List.length_singleton] at this
        rw [w64' (by omega) (by omega)]
        refine this.mono fun r hr => ?_
        rw [hr]
        simp only [tickL]
        rw [if_neg (by omega), hs2, hy]
        simp
      refine Wp.bif (fun hh => ih' x sent (by omega) (by simp [tickI, hh]) (by simp [sendsI, hh])) (fun hh => ?_)
      have hx := hok.1
      refine Wp.ite (fun h1 => ?_) (fun h1 => ?_)
      · refine Wp.opt (app_ok (by simp; omega)) ?_
        exact ih' _ _ (by simp; omega) (by simp [tickI, hh, h1]) (by simp [sendsI, hh, h1])
      refine Wp.ite (fun h2 => ?_) (fun h2 => ?_)
      · refine Wp.opt (app_ok (by simp; omega)) ?_
        exact ih' _ _ (by simp; omega) (by simp [tickI, hh, h2]) (by simp [sendsI, hh, h2])
      · have := hx.2.1
        rw [w64' (by omega) (by omega)]
        exact ih' _ _ (by omega) (by simp [tickI, hh, h1, h2]) (by simp [sendsI, hh, h1, h2])
    · refine Wp.ret ?_
      simp only [tickL]
      rw [if_pos (by omega)]; simp
theorem tick_implL (ys : List DItem) (c d : Int) (hb : 0 ≤ d ∧ d ≤ 1000000) : ∀ (t pre : List DItem) (sent : List Int), (pre ++ t).length ≤ 60 → sent.length ≤ pre.length → OkItems pre.length t →
    Wp (fun k => impl_SendTick_l6 k (pre.length : Int) c d sent ys (pre ++ t)) (· = (⟨d, pre ++ (tickL pre.length d t).1⟩, sent ++ (tickL pre.length d t).2))
  | [], pre, sent, hl, hs, hok => by
    refine Wp.step ?_
    simp only [impl_SendTick_l6, List.append_nil]
    simp (disch := omega) only [cbdec, if_neg]
    exact Wp.ret (by simp [tickL])
  | x :: t, pre, sent, hl, hs, hok => by
    refine Wp.step ?_
    have hl' := hl
    simp only [List.length_append, List.length_cons] at hl
    simp only [impl_SendTick_l6]
    simp only [cbdec, lt_mid, if_true, idx_mid, get_mid, Option.bind_some, cbeq, set_mid]
    simp (disch := omega) only [w64']
    refine Wp.ite (fun h8 => ?_) (fun h8 => ?_)
    · have ih := fun y sent' hs' => tick_implL ys c d hb t (pre ++ [y]) sent' (by simpa using hl') hs' (by rw [List.length_append, List.length_singleton]; exact hok.2)
      have ih' : ∀ (y : DItem) (sent' : List Int), sent'.length ≤ pre.length + 1 → tickI x = y → sent' = sent ++ (if sendsI x then [d + (pre.length : Int)] else []) →
          Wp (fun k => impl_SendTick_l7 k (pre.length : Int) c d sent' ys (pre ++ y :: t)) (· = (⟨d, pre ++ (tickL pre.length d (x :: t)).1⟩, sent ++ (tickL pre.length d (x :: t)).2)) := by
        intro y sent' hs' hy hs2
        refine Wp.step ?_
        simp only [impl_SendTick_l7]
        have := ih y sent' (by simpa using hs')
        rw [← mid_succ, ← mid_len, List.length_append, List.length_singleton] at this
        rw [w64' (by omega) (by omega)]
        refine this.mono fun r hr => ?_
        rw [hr]
        simp only [tickL]
        rw [if_neg (by omega), hs2, hy]
        simp
      refine Wp.bif (fun hh => ih' x sent (by omega) (by simp [tickI, hh]) (by simp [sendsI, hh])) (fun hh => ?_)
      have hx := hok.1
      refine Wp.ite (fun h1 => ?_) (fun h1 => ?_)
      · refine Wp.opt (app_ok (by simp; omega)) ?_
        exact ih' _ _ (by simp; omega) (by simp [tickI, hh, h1]) (by simp [sendsI, hh, h1])
      refine Wp.ite (fun h2 => ?_) (fun h2 => ?_)
      · refine Wp.opt (app_ok (by simp; omega)) ?_
        exact ih' _ _ (by simp; omega) (by simp [tickI, hh, h2]) (by simp [sendsI, hh, h2])
      · have := hx.2.1
        rw [w64' (by omega) (by omega)]
        exact ih' _ _ (by omega) (by simp [tickI, hh, h1, h2]) (by simp [sendsI, hh, h1, h2])
    · refine Wp.ret ?_
      simp only [tickL]
      rw [if_pos (by omega)]; simp
theorem specTick_ok (s : DSend) : Wp (fun k => spec_SendTick k s) (· = tickM s) := by
  unfold spec_SendTick tickM
  refine Wp.bind (specValidSend_ok s) (fun _ e => ?_); subst e
  simp only [cbnot, cbdec]
  refine Wp.ite (fun h => ?_) (fun h => Wp.ret (by rw [if_neg h]))
  rw [if_pos h]
  refine Wp.bind (l4Copy_ok s (by have := h.1; omega)) (fun _ e => ?_); subst e
  exact tick_specL _ _ _ _ _ h.2.1 _ [] [] (by simpa using h.1) (by simp) h.2.2.2
theorem implTick_ok (s : DSend) : Wp (fun k => impl_SendTick k s) (· = tickM s) := by
  unfold impl_SendTick tickM
  refine Wp.bind (implValidSend_ok s) (fun _ e => ?_); subst e
  simp only [cbnot, cbdec]
  refine Wp.ite (fun h => ?_) (fun h => Wp.ret (by rw [if_neg h]))
  rw [if_pos h]
  refine Wp.bind (copySend_ok s (by have := h.1; omega)) (fun _ e => ?_); subst e
  exact tick_implL _ _ _ h.2.1 _ [] [] (by simpa using h.1) (by simp) h.2.2.2
end Km.X
namespace Km.X
open Go Km
set_option linter.unusedVariables false
set_option linter.unusedSimpArgs false
/-! ### marks of composite values -/
theorem markSend_ok {k : Int} {b : Int} {l : List DItem} (h0 : 0 ≤ k) (hk : k + 4 * l.length ≤ 1000000000000) (hl : l.length ≤ 100000000) : Wp (fun n => laws_markSend n ⟨b, l⟩ k) (fun r => r.1 = k + 4 * l.length ∧ r.2.length = l.length ∧ MkSItem k r.2) := by
  unfold laws_markSend
  refine Wp.bind (markItemS_ok h0 hk hl) ?_
  exact fun r hr => Wp.ret hr
theorem heldSend_ok {k : Int} {b : Int} {l : List DItem} (h0 : 0 ≤ k) (hk : k + 4 * l.length ≤ 1000000000000) (hl : l.length ≤ 100000000) (hm : MkSItem k l) : Wp (fun n => laws_heldSend n ⟨b, l⟩ k) (· = k + 4 * l.length) := by
  unfold laws_heldSend
  refine Wp.bind (heldItemS_ok h0 hk hl hm) ?_
  rintro _ rfl
  simp (disch := omega) only [cbdec, if_neg]
  exact Wp.ret rfl
theorem markTake_ok {k : Int} {n : Int} {h : List DHeld} {o : ByteArray} {l : List ByteArray} (h0 : 0 ≤ k) (hk : k + 3 * h.length + 1 * l.length ≤ 1000000000000) (hh : h.length ≤ 100000000) (hl : l.length ≤ 100000000) : Wp (fun f => laws_markTake f ⟨n, h, o, l⟩ k) (fun r => r.1 = k + 3 * h.length + 1 * l.length ∧ r.2.1.length = h.length ∧ MkSHeld k r.2.1 ∧ r.2.2.length = l.length ∧ MkSString (k + 3 * h.length) r.2.2) := by
  unfold laws_markTake
  dsimp only
  refine Wp.bind (markHeldS_ok h0 (by omega) hh) ?_
  rintro ⟨a, b⟩ ⟨rfl, h1, h2⟩
  refine Wp.bind (markStringS_ok (by omega) (by omega) hl) ?_
  rintro ⟨a', b'⟩ ⟨rfl, h3, h4⟩
  exact Wp.ret ⟨rfl, h1, h2, h3, h4⟩
theorem heldTake_ok {k j : Int} {n : Int} {h : List DHeld} {o : ByteArray} {l : List ByteArray} (hm : MkSHeld k h) (hm' : MkSString j l) (hj : j = k + 3 * h.length) (h0 : 0 ≤ k) (hk : k + 3 * h.length + 1 * l.length ≤ 1000000000000) (hh : h.length ≤ 100000000) (hl : l.length ≤ 100000000) : Wp (fun f => laws_heldTake f ⟨n, h, o, l⟩ k) (· = k + 3 * h.length + 1 * l.length) := by
  unfold laws_heldTake
  dsimp only
  subst hj
  refine Wp.bind (heldHeldS_ok h0 (by omega) hh hm) ?_
  rintro _ rfl
  simp (disch := omega) only [cbdec, if_neg]
  refine Wp.bind (heldStringS_ok (by omega) (by omega) hl hm') ?_
  rintro _ rfl
  simp (disch := omega) only [cbdec, if_neg]
  exact Wp.ret rfl
theorem markEnd_ok {k : Int} {n : Int} {u : Bool} {li p s : Int} {ow : Bool} {b : Int} {i : List DItem} {nn : Int} {h : List DHeld} {o : ByteArray} {l : List ByteArray} (h0 : 0 ≤ k) (hk : k + 4 * i.length + 3 * h.length + 1 * l.length ≤ 1000000000000) (hi : i.length ≤ 100000000) (hh : h.length ≤ 100000000) (hl : l.length ≤ 100000000) :
    Wp (fun f => laws_markEnd f ⟨n, u, li, p, s, ow, ⟨b, i⟩, ⟨nn, h, o, l⟩⟩ k) (fun r => r.1 = k + 4 * i.length + 3 * h.length + 1 * l.length ∧ r.2.1.length = i.length ∧ MkSItem k r.2.1 ∧ r.2.2.1.length = h.length ∧ MkSHeld (k + 4 * i.length) r.2.2.1 ∧ r.2.2.2.length = l.length ∧ MkSString (k + 4 * i.length + 3 * h.length) r.2.2.2) := by
  unfold laws_markEnd
  dsimp only
  refine Wp.bind (markSend_ok h0 (by omega) hi) ?_
  rintro ⟨a, b⟩ ⟨rfl, h1, h2⟩
  refine Wp.bind (markTake_ok (by omega) (by omega) hh hl) ?_
  rintro ⟨a', b', c'⟩ ⟨rfl, h3, h4, h5, h6⟩
  exact Wp.ret ⟨rfl, h1, h2, h3, h4, h5, h6⟩
theorem heldEnd_ok {k j j' : Int} {n : Int} {u : Bool} {li p s : Int} {ow : Bool} {b : Int} {i : List DItem} {nn : Int} {h : List DHeld} {o : ByteArray} {l : List ByteArray} (hm : MkSItem k i) (hm1 : MkSHeld j h) (hm2 : MkSString j' l) (hj : j = k + 4 * i.length) (hj' : j' = k + 4 * i.length + 3 * h.length) (h0 : 0 ≤ k) (hk : k + 4 * i.length + 3 * h.length + 1 * l.length ≤ 1000000000000) (hi : i.length ≤ 100000000) (hh : h.length ≤ 100000000) (hl : l.length ≤ 100000000) :
    Wp (fun f => laws_heldEnd f ⟨n, u, li, p, s, ow, ⟨b, i⟩, ⟨nn, h, o, l⟩⟩ k) (· = k + 4 * i.length + 3 * h.length + 1 * l.length) := by
  unfold laws_heldEnd
  dsimp only
  subst hj
  refine Wp.bind (heldSend_ok h0 (by omega) hi hm) ?_
  rintro _ rfl
  simp (disch := omega) only [cbdec, if_neg]
  refine Wp.bind (heldTake_ok hm1 hm2 hj' (by omega) (by omega) hh hl) ?_
  rintro _ rfl
  simp (disch := omega) only [cbdec, if_neg]
  exact Wp.ret rfl
theorem heldSend_ok' {k : Int} {b : Int} {l : List DItem} {m : Nat} (hm : MkSItem k l) (e : l.length = m) (h0 : 0 ≤ k) (hk : k + 4 * m ≤ 1000000000000) (hl : m ≤ 100000000) : Wp (fun n => laws_heldSend n ⟨b, l⟩ k) (· = k + 4 * m) := by
  subst e; exact heldSend_ok h0 hk hl hm
theorem heldTake_ok' {k j : Int} {n : Int} {h : List DHeld} {o : ByteArray} {l : List ByteArray} {m m' : Nat} (hm : MkSHeld k h) (hm' : MkSString j l) (e : h.length = m) (e' : l.length = m') (hj : j = k + 3 * m) (h0 : 0 ≤ k) (hk : k + 3 * m + 1 * m' ≤ 1000000000000) (hh : m ≤ 100000000) (hl : m' ≤ 100000000) : Wp (fun f => laws_heldTake f ⟨n, h, o, l⟩ k) (· = k + 3 * m + 1 * m') := by
  subst e e'; exact heldTake_ok hm hm' hj h0 hk hh hl
theorem heldEnd_ok' {k j j' : Int} {n : Int} {u : Bool} {li p s : Int} {ow : Bool} {b : Int} {i : List DItem} {nn : Int} {h : List DHeld} {o : ByteArray} {l : List ByteArray} {m1 m2 m3 : Nat} (hm : MkSItem k i) (hm1 : MkSHeld j h) (hm2 : MkSString j' l) (e1 : i.length = m1) (e2 : h.length = m2) (e3 : l.length = m3) (hj : j = k + 4 * m1) (hj' : j' = k + 4 * m1 + 3 * m2) (h0 : 0 ≤ k) (hk : k + 4 * m1 + 3 * m2 + 1 * m3 ≤ 1000000000000) (hi : m1 ≤ 100000000) (hh : m2 ≤ 100000000) (hl : m3 ≤ 100000000) :
    Wp (fun f => laws_heldEnd f ⟨n, u, li, p, s, ow, ⟨b, i⟩, ⟨nn, h, o, l⟩⟩ k) (· = k + 4 * m1 + 3 * m2 + 1 * m3) := by
  subst e1 e2 e3; exact heldEnd_ok hm hm1 hm2 hj hj' h0 hk hi hh hl
/-! ### a tick keeps it valid -/
theorem noSend_V : VSend noSend := ⟨by simp, by simp, by simp, trivial⟩
theorem okItems_mem : ∀ {l : List DItem} {i : Nat}, OkItems i l → ∀ x ∈ l, x.Part.Text.size ≤ 20
  | [], _, _, x, h => by simp at h
  | y :: t, i, ⟨h1, h2⟩, x, h => by
    rcases List.mem_cons.mp h with rfl | h
    · exact h1.1
    · exact okItems_mem h2 x h
theorem VSend.sm {s : DSend} (h : VSend s) : smSend s := by
  unfold smSend smL
  refine ⟨by have := h.1; omega, fun x hx => ?_⟩
  have := okItems_mem h.2.2.2 x hx
  show x.Part.Text.size ≤ 1048576
  omega
theorem tickI_part (x : DItem) : (tickI x).Part = x.Part := by unfold tickI; repeat' split <;> try rfl
theorem tickL_ok : ∀ (t : List DItem) (i : Nat) (b : Int), OkItems i t → OkItems i (tickL i b t).1 ∧ (tickL i b t).1.length = t.length ∧ (tickL i b t).2.length ≤ t.length
  | [], i, b, h => ⟨trivial, rfl, by simp [tickL]⟩
  | x :: t, i, b, ⟨h1, h2⟩ => by
    simp only [tickL]
    split
    · exact ⟨⟨h1, h2⟩, rfl, by simp⟩
    · have := tickL_ok t (i + 1) b h2
      refine ⟨⟨?_, this.1⟩, by simp [this.2.1], ?_⟩
      · obtain ⟨a1, a2, a3, a4⟩ := h1
        refine ⟨by rw [tickI_part]; exact a1, ?_, fun _ => by omega, ?_⟩
        · unfold tickI; split
          · exact a2
          · split
            · simp
            · split
              · simp
              · simp only; omega
        · unfold tickI; split
          · exact a4
          · rename_i hh
            split
            · intro h; exact absurd h hh
            · split <;> (intro h; exact absurd h hh)
      · have h3 := this.2.2
        simp only [List.length_append, List.length_cons]
        split <;> simp <;> omega
theorem tickM_ok (s : DSend) : VSend (tickM s).1 ∧ (tickM s).2.length ≤ 60 := by
  unfold tickM
  split
  · rename_i h
    have := tickL_ok s.Items 0 s.Base h.2.2.2
    refine ⟨⟨by simp only; rw [this.2.1]; exact h.1, h.2.1, by simp only; rw [this.2.1]; exact h.2.2.1, this.1⟩, by have := h.1; simp only; omega⟩
  · exact ⟨noSend_V, by simp⟩
end Km.X
namespace Km.X
open Go Km
set_option linter.unusedVariables false
set_option linter.unusedSimpArgs false
/-! ### Cut -/
def cutL : Nat → ByteArray → List DPart
  | 0, _ => []
  | n + 1, s => if 20 < s.size then ⟨s.extract 0 20, false⟩ :: cutL n (s.extract 20 s.size) else [⟨s, true⟩]
theorem cut_spec : ∀ (n : Nat) (s : ByteArray) (acc : List DPart), s.size ≤ 20 * n → acc.length + n ≤ 100 → 0 < n → Wp (fun k => spec_Cut_l4 k s acc) (· = acc ++ cutL n s)
  | 0, s, acc, h, hl, h0 => by omega
  | n + 1, s, acc, h, hl, h0 => by
    refine Wp.step ?_
    simp only [spec_Cut_l4, cutL]
    simp only [cbdec]
    refine Wp.ite (fun h1 => ?_) (fun h1 => ?_)
    · have h1' : 20 < s.size := by omega
      rw [if_pos h1']
      refine Wp.opt (wnd_ok (by omega)) ?_
      refine Wp.opt (app_ok (by simp; omega)) ?_
      refine Wp.opt (wnd_ok (by omega)) ?_
      have := cut_spec n (s.extract 20 s.size) (acc ++ [⟨s.extract 0 20, false⟩]) (by rw [ByteArray.size_extract]; omega) (by simp; omega) (by omega)
      simp only [List.append_assoc, List.cons_append, List.nil_append] at this
      exact this
    · rw [if_neg (by omega)]
      refine Wp.opt (app_ok (by simp; omega)) ?_
      exact Wp.ret rfl
theorem cut_same : ∀ (k : Nat) (s : ByteArray) (acc : List DPart), impl_Cut_l4 k s acc = spec_Cut_l4 k s acc
  | 0, _, _ => rfl
  | k + 1, s, acc => by
    simp only [impl_Cut_l4, spec_Cut_l4, cut_same k]
def cutM (s : ByteArray) : List DPart := if 200 < s.size then [] else cutL 10 s
theorem specCut_ok (s : ByteArray) : Wp (fun k => spec_Cut k s) (· = cutM s) := by
  unfold spec_Cut cutM
  simp only [cbdec]
  refine Wp.ite (fun h => ?_) (fun h => ?_)
  · rw [if_pos (by omega)]; exact Wp.ret rfl
  · rw [if_neg (by omega)]; exact cut_spec 10 s [] (by omega) (by simp) (by omega)
theorem implCut_ok (s : ByteArray) : Wp (fun k => impl_Cut k s) (· = cutM s) := by
  have : (fun k => impl_Cut k s) = fun k => spec_Cut k s := funext fun k => by simp only [impl_Cut, spec_Cut, cut_same]
  rw [this]; exact specCut_ok s
theorem cutL_ok : ∀ (n : Nat) (s : ByteArray), s.size ≤ 20 * n → (cutL n s).length ≤ n ∧ ∀ p ∈ cutL n s, p.Text.size ≤ 20
  | 0, s, h => ⟨by simp [cutL], fun p hp => by simp [cutL] at hp⟩
  | n + 1, s, h => by
    simp only [cutL]
    split
    · have := cutL_ok n (s.extract 20 s.size) (by rw [ByteArray.size_extract]; omega)
      refine ⟨by simp [this.1], fun p hp => ?_⟩
      rcases List.mem_cons.mp hp with rfl | hp
      · simp only [ByteArray.size_extract]; omega
      · exact this.2 p hp
    · refine ⟨by simp, fun p hp => ?_⟩
      simp only [List.mem_singleton] at hp
      subst hp; simp only; omega
theorem cutM_ok (s : ByteArray) : (cutM s).length ≤ 10 ∧ ∀ p ∈ cutM s, p.Text.size ≤ 20 := by
  unfold cutM
  split
  · exact ⟨by simp, fun p hp => by simp at hp⟩
  · exact cutL_ok 10 s (by omega)
/-! ### SendPush -/
def newI (p : DPart) : DItem := ⟨p, false, -1⟩
def pushM (s : DSend) (t : ByteArray) : DSend × Int :=
  if VSend s ∧ t.size ≤ 200 then
    if s.Items.length + (cutM t).length ≤ 60 ∧ s.Base + (s.Items.length + (cutM t).length : Nat) ≤ 1000000 then (⟨s.Base, s.Items ++ (cutM t).map newI⟩, 0) else (noSend, 3)
  else (noSend, 1)
theorem push_spec (c b : Int) (e : List DItem) : ∀ (t pre : List DPart) (acc : List DItem), (pre ++ t).length ≤ 100 → acc.length + t.length ≤ 1000 →
    Wp (fun k => spec_SendPush_l9 k (pre.length : Int) c (pre ++ t) b e acc) (· = (⟨b, acc ++ t.map newI⟩, 0))
  | [], pre, acc, hl, ha => by
    refine Wp.step ?_
    simp only [spec_SendPush_l9, List.append_nil]
    simp (disch := omega) only [cbdec, if_neg]
    exact Wp.ret (by simp)
  | x :: t, pre, acc, hl, ha => by
    refine Wp.step ?_
    have hl' := hl
    simp only [List.length_append, List.length_cons] at hl ha
    simp only [spec_SendPush_l9]
    simp only [cbdec, lt_mid, if_true, idx_mid, get_mid, Option.bind_some]
    refine Wp.opt (app_ok (by simp; omega)) ?_
    simp (disch := omega) only [w64']
    have ih := push_spec c b e t (pre ++ [x]) (acc ++ [newI x]) (by simpa using hl') (by simp; omega)
    rw [← mid_succ, ← mid_len] at ih
    simp only [List.append_assoc, List.cons_append, List.nil_append] at ih
    exact ih
theorem push_impl (c b : Int) (e : List DItem) : ∀ (t pre : List DPart) (acc : List DItem), (pre ++ t).length ≤ 100 → acc.length + t.length ≤ 1000 →
    Wp (fun k => impl_SendPush_l9 k ((pre ++ t).length : Int) (pre.length : Int) c b (pre ++ t) e acc) (· = (⟨b, acc ++ t.map newI⟩, 0))
  | [], pre, acc, hl, ha => by
    refine Wp.step ?_
    simp only [impl_SendPush_l9, List.append_nil]
    simp (disch := omega) only [cbdec, if_neg]
    exact Wp.ret (by simp)
  | x :: t, pre, acc, hl, ha => by
    refine Wp.step ?_
    have hl' := hl
    simp only [List.length_append, List.length_cons] at hl ha
    simp only [impl_SendPush_l9]
    simp only [cbdec, lt_mid, if_true, idx_mid, get_mid, Option.bind_some]
    refine Wp.opt (app_ok (by simp; omega)) ?_
    simp (disch := omega) only [w64']
    have ih := push_impl c b e t (pre ++ [x]) (acc ++ [newI x]) (by simpa using hl') (by simp; omega)
    rw [← mid_succ, ← mid_len] at ih
    simp only [List.append_assoc, List.cons_append, List.nil_append] at ih
    exact ih
theorem specPush_ok (s : DSend) (t : ByteArray) : Wp (fun k => spec_SendPush k s t) (· = pushM s t) := by
  unfold spec_SendPush pushM
  refine Wp.bind (specValidSend_ok s) (fun _ e => ?_); subst e
  simp only [cbnot, cbdec]
  refine Wp.ite (fun h => ?_) (fun h => Wp.ret (by rw [if_neg (fun g => h g.1)]))
  refine Wp.ite (fun h2 => Wp.ret (by rw [if_neg (fun g => by omega)])) (fun h2 => ?_)
  rw [if_pos ⟨h, by omega⟩]
  refine Wp.bind (specCut_ok t) (fun _ e => ?_); subst e
  have := h.1; have hb := h.2.1; have hc := (cutM_ok t).1
  simp (disch := omega) only [w64']
  refine Wp.ite (fun h3 => Wp.ret (by rw [if_neg (fun g => by omega)])) (fun h3 => ?_)
  refine Wp.ite (fun h4 => Wp.ret (by rw [if_neg (fun g => by omega)])) (fun h4 => ?_)
  rw [if_pos ⟨by omega, by omega⟩]
  refine Wp.bind (l4Copy_ok s (by omega)) (fun _ e => ?_); subst e
  exact push_spec _ _ _ (cutM t) [] _ (by simp; omega) (by omega)
theorem implPush_ok (s : DSend) (t : ByteArray) : Wp (fun k => impl_SendPush k s t) (· = pushM s t) := by
  unfold impl_SendPush pushM
  refine Wp.bind (implValidSend_ok s) (fun _ e => ?_); subst e
  simp only [cbnot, cbdec]
  refine Wp.ite (fun h => ?_) (fun h => Wp.ret (by rw [if_neg (fun g => h g.1)]))
  refine Wp.ite (fun h2 => Wp.ret (by rw [if_neg (fun g => by omega)])) (fun h2 => ?_)
  rw [if_pos ⟨h, by omega⟩]
  refine Wp.bind (implCut_ok t) (fun _ e => ?_); subst e
  have := h.1; have hb := h.2.1; have hc := (cutM_ok t).1
  simp (disch := omega) only [w64']
  refine Wp.ite (fun h3 => Wp.ret (by rw [if_neg (fun g => by omega)])) (fun h3 => ?_)
  refine Wp.ite (fun h4 => Wp.ret (by rw [if_neg (fun g => by omega)])) (fun h4 => ?_)
  rw [if_pos ⟨by omega, by omega⟩]
  refine Wp.bind (copySend_ok s (by omega)) (fun _ e => ?_); subst e
  exact push_impl _ _ _ (cutM t) [] _ (by simp; omega) (by omega)
theorem okItems_app : ∀ {l r : List DItem} {i : Nat}, OkItems i l → OkItems (i + l.length) r → OkItems i (l ++ r)
  | [], r, i, _, h => by simpa using h
  | x :: l, r, i, ⟨h1, h2⟩, h => ⟨h1, okItems_app h2 (by rwa [show i + 1 + l.length = i + (x :: l).length by simp; omega])⟩
theorem okItems_new : ∀ {l : List DPart} {i : Nat}, (∀ p ∈ l, p.Text.size ≤ 20) → OkItems i (l.map newI)
  | [], i, h => trivial
  | p :: l, i, h => ⟨⟨h p (List.mem_cons_self ..), by simp [newI], fun _ => rfl, fun h => by simp [newI] at h⟩, okItems_new fun q hq => h q (List.mem_cons_of_mem _ hq)⟩
theorem pushM_ok (s : DSend) (t : ByteArray) : VSend (pushM s t).1 := by
  unfold pushM
  split
  · rename_i h
    split
    · rename_i h2
      refine ⟨by simp only [List.length_append, List.length_map]; omega, h.1.2.1, ?_, okItems_app h.1.2.2.2 (okItems_new (cutM_ok t).2)⟩
      simp only [List.length_append, List.length_map]
      exact h2.2
    · exact noSend_V
  · exact noSend_V
/-! ### SendWord -/
def frontL : List DItem → Nat
  | [] => 0
  | x :: t => if 0 ≤ x.Since then frontL t + 1 else 0
theorem frontL_le : ∀ l : List DItem, frontL l ≤ l.length
  | [] => Nat.le_refl _
  | x :: t => by have := frontL_le t; simp only [frontL, List.length_cons]; split <;> omega
theorem frontL_lt : ∀ {l : List DItem} {i : Nat}, OkItems i l → i ≤ 8 → frontL l + i ≤ 8
  | [], i, _, h => by simp only [frontL]; omega
  | x :: t, i, ⟨h1, h2⟩, h => by
    simp only [frontL]
    split
    · by_cases h8 : 8 ≤ i
      · have := h1.2.2.1 h8; omega
      · have := frontL_lt h2 (by omega); omega
    · omega
def hasL : Nat → Nat → List DItem → List DItem
  | _, _, [] => []
  | i, m, x :: t => (if i < 8 ∧ m % 2 = 1 ∧ 0 ≤ x.Since then ⟨x.Part, true, x.Since⟩ else x) :: hasL (i + 1) (m / 2) t
theorem hasL_ge : ∀ (i m : Nat) (l : List DItem), 8 ≤ i → hasL i m l = l
  | i, m, [], h => rfl
  | i, m, x :: t, h => by simp only [hasL]; rw [if_neg (by omega), hasL_ge (i + 1) _ t (by omega)]
def wordM (s : DSend) (n m : Int) : DSend :=
  if VSend s then
    if s.Base ≤ n ∧ n ≤ s.Base + frontL s.Items ∧ 0 ≤ m ∧ m ≤ 255 then ⟨n, hasL 0 m.toNat (s.Items.drop (n - s.Base).toNat)⟩ else s
  else noSend
theorem front_spec (b : Int) : ∀ (t pre : List DItem), (pre ++ t).length ≤ 1000 → Wp (fun k => spec_l4Front_l2 k (pre.length : Int) b (pre ++ t)) (· = ((pre.length + frontL t : Nat) : Int))
  | [], pre, hl => by
    refine Wp.step ?_
    simp only [spec_l4Front_l2, List.append_nil]
    simp (disch := omega) only [cbdec, if_neg]
    exact Wp.ret rfl
  | x :: t, pre, hl => by
    refine Wp.step ?_
    have hl' := hl
    simp only [List.length_append, List.length_cons] at hl
    simp only [spec_l4Front_l2]
    simp only [cbdec, lt_mid, if_true, idx_mid, get_mid, Option.bind_some]
    simp only [frontL]
    refine Wp.ite (fun h => ?_) (fun h => ?_)
    · rw [if_pos (by omega)]
      simp (disch := omega) only [w64']
      have ih := front_spec b t (pre ++ [x]) (by simpa using hl')
      rw [← mid_succ, ← mid_len] at ih
      refine ih.mono fun r hr => ?_
      rw [hr, List.length_append, List.length_singleton]; omega
    · rw [if_neg (by omega)]; exact Wp.ret rfl
theorem qrem2 (m : Nat) : qrem (m : Int) 2 = some ((m % 2 : Nat) : Int) := by rw [qrem_nn (by omega) (by omega)]; simp
theorem qdiv2 (m : Nat) : qdiv (m : Int) 2 = some ((m / 2 : Nat) : Int) := by rw [qdiv_nn (by omega) (by omega)]; simp
theorem word_spec_end (c b : Int) (e : List DItem) (xs : List DItem) (hx : xs.length ≤ 1000) : ∀ (d i m : Nat), i + d = 8 → xs.length ≤ i → m ≤ 255 →
    Wp (fun k => spec_SendWord_l9 k (m : Int) (i : Int) c b e xs) (· = ⟨b, xs⟩)
  | 0, i, m, h, hi, hm => by
    refine Wp.step ?_
    simp only [spec_SendWord_l9]
    simp (disch := omega) only [cbdec, if_neg]
    exact Wp.ret rfl
  | d + 1, i, m, h, hi, hm => by
    refine Wp.step ?_
    simp only [spec_SendWord_l9]
    simp (disch := omega) only [cbdec, if_pos, qrem2, Option.bind_some, cbeq]
    have ih := word_spec_end c b e xs hx d (i + 1) (m / 2) (by omega) (by omega) (by omega)
    have G : Wp (fun k => spec_SendWord_l13 k (m : Int) (i : Int) c b e xs) (· = ⟨b, xs⟩) := by
      refine Wp.step ?_
      simp only [spec_SendWord_l13]
      simp (disch := omega) only [qdiv2, Option.bind_some, w64', castS]
      exact ih
    refine Wp.ite (fun h1 => ?_) (fun h1 => G)
    simp (disch := omega) only [if_neg]
    exact G
theorem word_spec (c b : Int) (e : List DItem) : ∀ (t pre : List DItem) (m : Nat), (pre ++ t).length ≤ 1000 → m ≤ 255 →
    Wp (fun k => spec_SendWord_l9 k (m : Int) (pre.length : Int) c b e (pre ++ t)) (· = ⟨b, pre ++ hasL pre.length m t⟩)
  | [], pre, m, hl, hm => by
    rw [List.append_nil] at hl ⊢
    simp only [hasL, List.append_nil]
    by_cases h8 : pre.length ≤ 8
    · exact word_spec_end c b e pre hl (8 - pre.length) pre.length m (by omega) (Nat.le_refl _) hm
    · refine Wp.step ?_
      simp only [spec_SendWord_l9]
      simp (disch := omega) only [cbdec, if_neg]
      exact Wp.ret rfl
  | x :: t, pre, m, hl, hm => by
    refine Wp.step ?_
    have hl' := hl
    simp only [List.length_append, List.length_cons] at hl
    simp only [spec_SendWord_l9]
    simp only [cbdec, lt_mid, if_true, idx_mid, get_mid, Option.bind_some, set_mid, cbeq]
    refine Wp.ite (fun h8 => ?_) (fun h8 => Wp.ret (by rw [hasL_ge _ _ _ (by omega)]))
    have ih : ∀ y : DItem, (if pre.length < 8 ∧ m % 2 = 1 ∧ 0 ≤ x.Since then ⟨x.Part, true, x.Since⟩ else x) = y →
        Wp (fun k => spec_SendWord_l13 k (m : Int) (pre.length : Int) c b e (pre ++ y :: t)) (· = ⟨b, pre ++ hasL pre.length m (x :: t)⟩) := by
      intro y hy
      refine Wp.step ?_
      simp only [spec_SendWord_l13]
      simp (disch := omega) only [qdiv2, Option.bind_some, w64']
      have := word_spec c b e t (pre ++ [y]) (m / 2) (by simpa using hl') (by omega)
      rw [← mid_succ, ← mid_len, List.length_append, List.length_singleton] at this
      refine this.mono fun r hr => ?_
      rw [hr]
      simp only [hasL, List.append_assoc, List.cons_append, List.nil_append, hy]
    simp (disch := omega) only [qrem2, Option.bind_some]
    refine Wp.ite (fun h1 => ?_) (fun h1 => ih x (by rw [if_neg (by omega)]))
    refine Wp.ite (fun h2 => ih _ (by rw [if_pos (by omega)])) (fun h2 => ih x (by rw [if_neg (by omega)]))
theorem specWord_ok (s : DSend) (n m : Int) : Wp (fun k => spec_SendWord k s n m) (· = wordM s n m) := by
  unfold spec_SendWord wordM
  refine Wp.bind (specValidSend_ok s) (fun _ e => ?_); subst e
  simp only [cbnot, cbdec]
  refine Wp.ite (fun h => ?_) (fun h => Wp.ret (by rw [if_neg h]))
  rw [if_pos h]
  have := h.1; have hb := h.2.1
  refine Wp.bind (l4Copy_ok s (by omega)) (fun r2 e => ?_); rw [e]
  refine Wp.ite (fun h2 => Wp.ret (by rw [if_neg (by omega)])) (fun h2 => ?_)
  refine Wp.bind (P := fun r => r = ((0 + frontL s.Items : Nat) : Int)) (front_spec s.Base s.Items [] (by simp; omega)) (fun _ e => ?_); subst e
  have hf := frontL_le s.Items
  simp (disch := omega) only [w64']
  refine Wp.ite (fun h3 => Wp.ret (by rw [if_neg (by omega)])) (fun h3 => ?_)
  refine Wp.bind (l1In_ok _ _ _) (fun _ e => ?_); subst e
  simp only [inB, cbdec]
  refine Wp.ite (fun h4 => ?_) (fun h4 => Wp.ret (by rw [if_neg (by omega)]))
  rw [if_pos (by omega)]
  refine Wp.opt (wnd_ok (by omega)) ?_
  refine Wp.opt (app_ok (by simp [dcut]; omega)) ?_
  have e1 : ([] : List DItem) ++ dcut s.Items (n - s.Base).toNat (s.Items.length : Int).toNat = s.Items.drop (n - s.Base).toNat := by simp [dcut]
  rw [e1]
  have := word_spec 0 n [] (s.Items.drop (n - s.Base).toNat) [] m.toNat (by simp; omega) (by omega)
  simp only [List.nil_append, List.length_nil, Int.toNat_of_nonneg h4.1] at this
  exact this
theorem bitsAnd1 (n : Nat) (hn : n < 281474976710656) : bitsAnd .i64 (n : Int) 1 = ((n % 2 : Nat) : Int) := by
  have e : ∀ m : Nat, BitVec.ofInt 64 (m : Int) = BitVec.ofNat 64 m := fun m => by
    apply BitVec.eq_of_toNat_eq
    simp [BitVec.toNat_ofInt]
  show IntKind.wrap .i64 ((BitVec.ofInt 64 (n : Int) &&& BitVec.ofInt 64 ((1 : Nat) : Int)).toNat : Int) = _
  rw [e, e, BitVec.toNat_and, BitVec.toNat_ofNat, BitVec.toNat_ofNat, Nat.mod_eq_of_lt (by omega), Nat.mod_eq_of_lt (by omega), Nat.and_one_is_mod]
  exact w64' (by omega) (by omega)
theorem shr_at (n i : Nat) (h : i ≤ 64) : shift .shr .i64 (n : Int) (i : Int) = some ((n / 2 ^ i : Nat) : Int) := by
  simp only [shift]
  rw [if_neg (by omega)]
  congr 1
  rw [Int.toNat_natCast, show IntKind.i64.bits = 64 from rfl, Nat.min_eq_left h, Int.fdiv_eq_ediv_of_nonneg _ (by exact Int.le_of_lt (Int.pow_pos (by decide)))]
  simp
theorem word_impl12 (c b d : Int) (e : List DItem) (M : Nat) (hM : M ≤ 255) : ∀ (t pre : List DItem), (pre ++ t).length ≤ 1000 →
    Wp (fun k => impl_SendWord_l12 k (M : Int) (pre.length : Int) c b e (pre ++ t)) (· = ⟨b, pre ++ hasL pre.length (M / 2 ^ pre.length) t⟩)
  | [], pre, hl => by
    refine Wp.step ?_
    rw [List.append_nil] at hl ⊢
    simp only [impl_SendWord_l12, hasL, List.append_nil]
    simp (disch := omega) only [cbdec, if_neg]
    exact Wp.ite (fun h => Wp.ret rfl) (fun h => Wp.ret rfl)
  | x :: t, pre, hl => by
    refine Wp.step ?_
    have hl' := hl
    simp only [List.length_append, List.length_cons] at hl
    simp only [impl_SendWord_l12]
    simp only [cbdec, lt_mid, if_true, idx_mid, get_mid, Option.bind_some, set_mid, cbeq]
    refine Wp.ite (fun h8 => ?_) (fun h8 => Wp.ret (by rw [hasL_ge _ _ _ (by omega)]))
    have ih : ∀ y : DItem, (if pre.length < 8 ∧ M / 2 ^ pre.length % 2 = 1 ∧ 0 ≤ x.Since then ⟨x.Part, true, x.Since⟩ else x) = y →
        Wp (fun k => impl_SendWord_l13 k (M : Int) (pre.length : Int) c b e (pre ++ y :: t)) (· = ⟨b, pre ++ hasL pre.length (M / 2 ^ pre.length) (x :: t)⟩) := by
      intro y hy
      refine Wp.step ?_
      simp only [impl_SendWord_l13]
      simp (disch := omega) only [w64']
      have := word_impl12 c b d e M hM t (pre ++ [y]) (by simpa using hl')
      rw [← mid_succ, ← mid_len, List.length_append, List.length_singleton] at this
      refine this.mono fun r hr => ?_
      rw [hr]
      simp only [hasL, List.append_assoc, List.cons_append, List.nil_append, hy, Nat.div_div_eq_div_mul, Nat.pow_succ]
    have hlt : M / 2 ^ pre.length < 281474976710656 := Nat.lt_of_le_of_lt (Nat.div_le_self _ _) (by omega)
    rw [shr_at _ _ (by omega)]
    simp only [Option.bind_some]
    rw [bitsAnd1 _ hlt]
    refine Wp.ite (fun h1 => ?_) (fun h1 => ih x (by rw [if_neg (by omega)]))
    refine Wp.ite (fun h2 => ih _ (by rw [if_pos (by omega)])) (fun h2 => ih x (by rw [if_neg (by omega)]))
theorem word_impl5 (n m c b : Int) (e : List DItem) (hb : 0 ≤ b ∧ b ≤ 1000000) : ∀ (t pre : List DItem), (pre ++ t).length ≤ 1000 →
    Wp (fun k => impl_SendWord_l5 k n m (pre.length : Int) c b e (pre ++ t)) (· = if b ≤ n ∧ n ≤ b + (pre.length + frontL t : Nat) ∧ 0 ≤ m ∧ m ≤ 255 then ⟨n, hasL 0 m.toNat ((pre ++ t).drop (n - b).toNat)⟩ else ⟨b, pre ++ t⟩) := by
  have F : ∀ (xs : List DItem) (j : Nat), xs.length ≤ 1000 → j ≤ xs.length → Wp (fun k => if n < b then some (⟨b, xs⟩ : DSend) else if n > IntKind.wrap .i64 (b + (j : Int)) then some ⟨b, xs⟩ else
      (impl_in k m 0 255).bind fun r4 => bif !r4 then some ⟨b, xs⟩ else
        (wnd xs.length (IntKind.wrap .i64 (n - b)) (xs.length : Int)).bind fun p5 =>
        (app 40 ([] : List DItem) (dcut xs p5.1 p5.2)).bind fun l6 => impl_SendWord_l12 k m 0 c n e l6)
      (· = if b ≤ n ∧ n ≤ b + (j : Nat) ∧ 0 ≤ m ∧ m ≤ 255 then ⟨n, hasL 0 m.toNat (xs.drop (n - b).toNat)⟩ else ⟨b, xs⟩) := by
    intro xs j hx hj
    refine Wp.ite (fun h2 => Wp.ret (by rw [if_neg (by omega)])) (fun h2 => ?_)
    simp (disch := omega) only [w64']
    refine Wp.ite (fun h3 => Wp.ret (by rw [if_neg (by omega)])) (fun h3 => ?_)
    refine Wp.bind (in_ok _ _ _) (fun _ e => ?_); subst e
    simp only [inB, cbdec, cbnot]
    refine Wp.ite (fun h4 => ?_) (fun h4 => Wp.ret (by rw [if_neg (by omega)]))
    rw [if_pos (by omega)]
    refine Wp.opt (wnd_ok (by omega)) ?_
    refine Wp.opt (app_ok (by simp [dcut]; omega)) ?_
    have e1 : ([] : List DItem) ++ dcut xs (n - b).toNat (xs.length : Int).toNat = xs.drop (n - b).toNat := by simp [dcut]
    rw [e1]
    have := word_impl12 c n 0 e m.toNat (by omega) (xs.drop (n - b).toNat) [] (by simp; omega)
    simp only [List.nil_append, List.length_nil, Int.toNat_of_nonneg h4.1, Nat.pow_zero, Nat.div_one] at this
    exact this
  intro t
  induction t with
  | nil =>
    intro pre hl
    refine Wp.step ?_
    simp only [impl_SendWord_l5]
    rw [List.append_nil] at hl ⊢
    simp (disch := omega) only [cbdec, if_neg]
    exact F pre pre.length hl (Nat.le_refl _)
  | cons x t ih =>
    intro pre hl
    refine Wp.step ?_
    simp only [impl_SendWord_l5]
    simp only [cbdec, lt_mid, if_true, idx_mid, get_mid, Option.bind_some]
    have hl' := hl
    simp only [List.length_append, List.length_cons] at hl
    refine Wp.ite (fun h => ?_) (fun h => ?_)
    · rw [w64' (by omega) (by omega)]
      have := ih (pre ++ [x]) (by simpa using hl')
      rw [← mid_succ, ← mid_len, List.length_append, List.length_singleton] at this
      have e : pre.length + frontL (x :: t) = pre.length + 1 + frontL t := by simp only [frontL]; rw [if_pos h]; omega
      simp only [e]
      exact this
    · have e : frontL (x :: t) = 0 := by simp only [frontL]; rw [if_neg h]
      simp only [e]
      exact F (pre ++ x :: t) pre.length (by simpa using hl') (by simp)
theorem implWord_ok (s : DSend) (n m : Int) : Wp (fun k => impl_SendWord k s n m) (· = wordM s n m) := by
  unfold impl_SendWord wordM
  refine Wp.bind (implValidSend_ok s) (fun _ e => ?_); subst e
  simp only [cbnot, cbdec]
  refine Wp.ite (fun h => ?_) (fun h => Wp.ret (by rw [if_neg h]))
  rw [if_pos h]
  have := h.1; have hb := h.2.1
  refine Wp.bind (copySend_ok s (by omega)) (fun r2 e => ?_); rw [e]
  have := word_impl5 n m 0 s.Base [] hb s.Items [] (by simp; omega)
  simp only [List.nil_append, List.length_nil, Nat.zero_add] at this
  exact this
theorem OkItem.mono {i j : Nat} {x : DItem} (h : OkItem j x) (hij : i ≤ j) : OkItem i x := ⟨h.1, h.2.1, fun h8 => h.2.2.1 (by omega), h.2.2.2⟩
theorem OkItems.mono : ∀ {l : List DItem} {i j : Nat}, OkItems j l → i ≤ j → OkItems i l
  | [], _, _, _, _ => trivial
  | x :: t, i, j, ⟨h1, h2⟩, hij => ⟨h1.mono hij, h2.mono (by omega)⟩
theorem OkItems.drop : ∀ {l : List DItem} {i : Nat} (d : Nat), OkItems i l → OkItems i (l.drop d)
  | l, i, 0, h => h
  | [], i, d + 1, h => trivial
  | x :: t, i, d + 1, ⟨_, h2⟩ => (OkItems.drop d h2).mono (by omega)
theorem okItems_has : ∀ {l : List DItem} {i m : Nat}, OkItems i l → OkItems i (hasL i m l)
  | [], _, _, _ => trivial
  | x :: t, i, m, ⟨h1, h2⟩ => by
    refine ⟨?_, okItems_has h2⟩
    split
    · rename_i h; exact ⟨h1.1, h1.2.1, h1.2.2.1, fun _ => h.2.2⟩
    · exact h1
theorem hasL_length : ∀ (i m : Nat) (l : List DItem), (hasL i m l).length = l.length
  | _, _, [] => rfl
  | i, m, x :: t => by simp [hasL, hasL_length (i + 1) (m / 2) t]
theorem wordM_ok (s : DSend) (n m : Int) : VSend (wordM s n m) := by
  unfold wordM
  split
  · rename_i h
    split
    · rename_i h2
      have hf := frontL_le s.Items
      obtain ⟨v1, v2, v3, v4⟩ := h
      refine ⟨?_, ?_, ?_, okItems_has (v4.drop _)⟩
      · simp only [hasL_length, List.length_drop]; omega
      · simp only; omega
      · simp only [hasL_length, List.length_drop]; omega
    · assumption
  · exact noSend_V
end Km.X
namespace Km.X
open Go Km
set_option linter.unusedVariables false
set_option linter.unusedSimpArgs false
/-! ### draws -/
theorem byte_range {y : Int} (h : wf_byte y) : 0 ≤ y ∧ y ≤ 255 := by
  unfold wf_byte at h
  simp [Lit.wf, IntKind.min, IntKind.max, IntKind.signed, IntKind.bits] at h
  omega
def Rd (n : Int) (r : DL1Rd) : Prop := r.b.length ≤ 2000 ∧ (∀ y ∈ r.b, 0 ≤ y ∧ y ≤ 255) ∧ 0 ≤ r.p ∧ r.p ≤ n
theorem Rd.mono {n m : Int} {r : DL1Rd} (h : Rd n r) (hm : n ≤ m) : Rd m r := ⟨h.1, h.2.1, h.2.2.1, by have := h.2.2.2; omega⟩
theorem xor_ok (n m : Nat) (hn : n < 2 ^ 62) (hm : m < 2 ^ 62) : bitsXor .i64 (n : Int) (m : Int) = ((n ^^^ m : Nat) : Int) := by
  have e : ∀ m : Nat, BitVec.ofInt 64 (m : Int) = BitVec.ofNat 64 m := fun m => by
    apply BitVec.eq_of_toNat_eq
    simp [BitVec.toNat_ofInt]
  have hx := Nat.xor_lt_two_pow hn hm
  show IntKind.wrap .i64 ((BitVec.ofInt 64 ((n : Nat) : Int) ^^^ BitVec.ofInt 64 ((m : Nat) : Int)).toNat : Int) = _
  rw [e, e, BitVec.toNat_xor, BitVec.toNat_ofNat, BitVec.toNat_ofNat, Nat.mod_eq_of_lt (by omega), Nat.mod_eq_of_lt (by omega)]
  exact w64' (by omega) (by omega)
theorem idx_get {xs : List Int} {i : Int} (h : 0 ≤ i) (h' : i < xs.length) : ∃ y ∈ xs, idx xs i = some y := by
  have hlt : i.toNat < xs.length := by omega
  have := idx_at hlt
  rw [Int.toNat_of_nonneg h] at this
  exact ⟨_, List.getElem_mem hlt, this⟩
theorem pick_ok (r : DL1Rd) (n a : Int) (h : Rd n r) (hn : n ≤ 1000000) (ha : 1 ≤ a ∧ a ≤ 1000000) : Wp (fun k => spec_l1Rd_pick k r a) (fun v => (0 ≤ v.1 ∧ v.1 < a) ∧ Rd (n + 1) v.2) := by
  obtain ⟨h1, h2, h3, h4⟩ := h
  have R1 : Rd (n + 1) ⟨r.b, r.p + 1⟩ := ⟨h1, h2, by simp only; omega, by simp only; omega⟩
  unfold spec_l1Rd_pick
  rw [w64' (n := r.p + 1) (by omega) (by omega), w64' (n := r.p + 1 - 1) (by omega) (by omega), show r.p + 1 - 1 = r.p by omega]
  simp only [cbdec, cbeq]
  refine Wp.ite (fun h => by omega) (fun _ => ?_)
  refine Wp.ite (fun h => Wp.ret ⟨⟨by omega, by omega⟩, R1⟩) (fun h5 => ?_)
  refine Wp.ite (fun h6 => ?_) (fun h6 => ?_)
  · obtain ⟨y, hy, e⟩ := idx_get h3 h6
    have hy := h2 y hy
    refine Wp.opt e ?_
    rw [w64' (by omega) (by omega)]
    refine Wp.opt (qrem_nn (by omega) (by omega)) ?_
    exact Wp.ret ⟨⟨Int.emod_nonneg _ (by omega), Int.emod_lt_of_pos _ (by omega)⟩, R1⟩
  · refine Wp.opt (qrem_nn h3 (by omega)) ?_
    obtain ⟨y, hy, e⟩ := idx_get (xs := r.b) (Int.emod_nonneg r.p (b := r.b.length) (by omega)) (Int.emod_lt_of_pos _ (by omega))
    have hy := h2 y hy
    refine Wp.opt e ?_
    rw [w64' (n := r.p * 7) (by omega) (by omega), w64' (n := r.p * 7 + 3) (by omega) (by omega)]
    refine Wp.opt (qrem_nn (by omega) (by omega)) ?_
    obtain ⟨z, hz, e⟩ := idx_get (xs := r.b) (Int.emod_nonneg (r.p * 7 + 3) (b := r.b.length) (by omega)) (Int.emod_lt_of_pos _ (by omega))
    have hz := h2 z hz
    refine Wp.opt e ?_
    refine Wp.opt (qdiv_nn h3 (by omega)) ?_
    have hd0 : 0 ≤ r.p / (r.b.length : Int) := Int.ediv_nonneg h3 (by omega)
    have hd1 : r.p / (r.b.length : Int) ≤ r.p := Int.ediv_le_self _ h3
    generalize r.p / (r.b.length : Int) = d at *
    rw [w64' (n := y) (by omega) (by omega), w64' (n := z) (by omega) (by omega), w64' (n := d) (by omega) (by omega), w64' (n := y * 131) (by omega) (by omega), w64' (n := z * 1117) (by omega) (by omega), w64' (n := r.p * 29) (by omega) (by omega), w64' (n := d * 53) (by omega) (by omega), w64' (n := y * 131 + z * 1117) (by omega) (by omega), w64' (n := y * 131 + z * 1117 + r.p * 29) (by omega) (by omega), w64' (n := y * 131 + z * 1117 + r.p * 29 + d * 53) (by omega) (by omega)]
    have hv : 0 ≤ y * 131 + z * 1117 + r.p * 29 + d * 53 ∧ y * 131 + z * 1117 + r.p * 29 + d * 53 ≤ 1000000000 := by omega
    generalize y * 131 + z * 1117 + r.p * 29 + d * 53 = v at *
    refine Wp.opt (qdiv_nn hv.1 (by omega)) ?_
    rw [w64' (n := v / 64) (by omega) (by omega)]
    obtain ⟨m, rfl⟩ := Int.eq_ofNat_of_zero_le hv.1
    rw [show ((m : Int) / 64) = ((m / 64 : Nat) : Int) by omega, xor_ok _ _ (by omega) (by omega)]
    refine Wp.opt (qrem_nn (by omega) (by omega)) ?_
    exact Wp.ret ⟨⟨Int.emod_nonneg _ (by omega), Int.emod_lt_of_pos _ (by omega)⟩, R1⟩
theorem open_ok (a : List Int) (h : ∀ y ∈ a, wf_byte y) : Wp (fun k => spec_l1Open k a) (Rd 0) := by
  unfold spec_l1Open
  simp only [cbdec]
  refine Wp.ite (fun h1 => ?_) (fun h1 => ?_)
  · refine Wp.opt (wnd_ok (by omega)) ?_
    refine Wp.step ?_
    simp only [spec_l1Open_l3]
    refine Wp.ret ⟨by simp [dcut]; omega, fun y hy => byte_range (h y ?_), by simp, by simp⟩
    simp only [dcut] at hy
    exact List.mem_of_mem_take (List.mem_of_mem_drop hy)
  · refine Wp.step ?_
    simp only [spec_l1Open_l3]
    exact Wp.ret ⟨by simp only; omega, fun y hy => byte_range (h y hy), by simp, by simp⟩
theorem many_loop : ∀ (n : Nat) (s acc : ByteArray), n ≤ 1000000 → acc.size + s.size * n ≤ 1000000 → Wp (fun k => spec_l1Many_l2 k s (n : Int) acc) (fun r => r.size = acc.size + s.size * n)
  | 0, s, acc, hn, h => by
    refine Wp.step ?_
    simp only [spec_l1Many_l2]
    simp (disch := omega) only [cbdec, if_neg]
    exact Wp.ret (by simp)
  | n + 1, s, acc, hn, h => by
    have hs : s.size ≤ s.size * (n + 1) := Nat.le_mul_of_pos_right _ (by omega)
    have hle : (s ++ s).size * ((n + 1) / 2) + s.size * ((n + 1) % 2) = s.size * (n + 1) := by
      rw [ba_size_append]
      have := Nat.div_add_mod (n + 1) 2
      calc (s.size + s.size) * ((n + 1) / 2) + s.size * ((n + 1) % 2) = s.size * (2 * ((n + 1) / 2) + (n + 1) % 2) := by rw [Nat.mul_add, ← Nat.two_mul, Nat.mul_comm 2 s.size, Nat.mul_assoc]
        _ = s.size * (n + 1) := by rw [this]
    have G : ∀ acc' : ByteArray, acc'.size = acc.size + s.size * ((n + 1) % 2) → Wp (fun k => spec_l1Many_l5 k s ((n + 1 : Nat) : Int) acc') (fun r => r.size = acc.size + s.size * (n + 1)) := fun acc' h' => by
      refine Wp.step ?_
      simp only [spec_l1Many_l5]
      refine Wp.opt (sadd_ok (by omega)) ?_
      refine Wp.opt (qdiv_nn (by omega) (by omega)) ?_
      rw [w64' (by omega) (by omega), show ((n + 1 : Nat) : Int) / 2 = (((n + 1) / 2 : Nat) : Int) by omega]
      exact (many_loop ((n + 1) / 2) (s ++ s) acc' (by omega) (by omega)).mono fun r hr => by rw [hr]; omega
    refine Wp.step ?_
    simp only [spec_l1Many_l2]
    simp (disch := omega) only [cbdec, if_pos, cbeq]
    refine Wp.opt (qrem_nn (by omega) (by omega)) ?_
    refine Wp.ite (fun h1 => ?_) (fun h1 => ?_)
    · have e : (n + 1) % 2 = 1 := by omega
      refine Wp.opt (sadd_ok (by omega)) ?_
      exact G _ (by rw [ba_size_append, e]; omega)
    · have e : (n + 1) % 2 = 0 := by omega
      exact G _ (by rw [e]; omega)
theorem many_ok (s : ByteArray) (n : Int) (B : Nat) (hB : B ≤ 1000000) (h : s.size * n.toNat ≤ B) (hn1 : n ≤ 1000000) : Wp (fun k => spec_l1Many k s n) (fun r => r.size ≤ B) := by
  unfold spec_l1Many
  by_cases hn : 0 ≤ n
  · have e0 : (⟨#[]⟩ : ByteArray).size = 0 := rfl
    have := many_loop n.toNat s (⟨#[]⟩ : ByteArray) (by omega) (by rw [e0]; omega)
    rw [Int.toNat_of_nonneg hn] at this
    exact this.mono fun r hr => by rw [hr, e0]; omega
  · refine Wp.step ?_
    simp only [spec_l1Many_l2]
    simp (disch := omega) only [cbdec, if_neg]
    exact Wp.ret (Nat.zero_le _)
theorem letters_loop : ∀ (d : Nat) (n : Int) (r : DL1Rd) (s : ByteArray), Rd n r → n + d ≤ 1000 → s.size + d ≤ 100 → Wp (fun k => spec_l1Message_l12 k s (d : Int) r.b r.p) (fun v => v.1.size ≤ s.size + d ∧ Rd (n + d) v.2)
  | 0, n, r, s, h, hn, hs => by
    refine Wp.step ?_
    simp only [spec_l1Message_l12]
    simp (disch := omega) only [cbdec, if_neg]
    exact Wp.ret ⟨by simp, by simpa using h⟩
  | d + 1, n, r, s, h, hn, hs => by
    refine Wp.step ?_
    simp only [spec_l1Message_l12]
    simp (disch := omega) only [cbdec, if_pos]
    refine Wp.bind (pick_ok r n 5 h (by omega) (by omega)) ?_
    rintro ⟨q, r'⟩ ⟨hq, hr'⟩
    have e5 : (⟨#[97, 98, 99, 100, 32]⟩ : ByteArray).size = 5 := rfl
    simp only at hq
    dsimp only
    refine Wp.opt (wnd_ok (by rw [e5]; omega)) ?_
    dsimp only
    refine Wp.opt (wnd_ok (by simp only [ByteArray.size_extract, e5]; omega)) ?_
    dsimp only
    refine Wp.opt (sadd_ok (by simp only [ByteArray.size_extract, e5]; omega)) ?_
    rw [w64' (by omega) (by omega), show ((d + 1 : Nat) : Int) - 1 = (d : Int) by omega]
    have hsz : ∀ u : ByteArray, (s ++ u.extract (0 : Int).toNat (1 : Int).toNat).size ≤ s.size + 1 := fun u => by
      rw [ba_size_append, ByteArray.size_extract]; omega
    have hz := hsz ((⟨#[97, 98, 99, 100, 32]⟩ : ByteArray).extract q.toNat (((⟨#[97, 98, 99, 100, 32]⟩ : ByteArray).size : Int)).toNat)
    exact (letters_loop d (n + 1) r' _ hr' (by omega) (by omega)).mono fun v hv => ⟨by omega, hv.2.mono (by omega)⟩
theorem message_ok (r : DL1Rd) (n : Int) (h : Rd n r) (hn : 0 ≤ n ∧ n ≤ 900) : Wp (fun k => spec_l1Message k r) (fun v => v.1.size ≤ 190 ∧ Rd (n + 40) v.2) := by
  unfold spec_l1Message
  refine Wp.bind (pick_ok r n 8 h (by omega) (by omega)) ?_
  rintro ⟨q, r1⟩ ⟨hq, h1⟩
  simp only at hq
  simp only [cbeq]
  refine Wp.ite (fun _ => Wp.ret ⟨Nat.zero_le _, h1.mono (by omega)⟩) (fun _ => ?_)
  refine Wp.ite (fun _ => ?_) (fun _ => ?_)
  · refine Wp.bind (pick_ok r1 _ 5 h1 (by omega) (by omega)) ?_
    rintro ⟨q2, r2⟩ ⟨hq2, h2⟩
    refine Wp.bind (pick_ok r2 _ 3 h2 (by omega) (by omega)) ?_
    rintro ⟨q3, r3⟩ ⟨hq3, h3⟩
    refine Wp.bind (pick_ok r3 _ 2 h3 (by omega) (by omega)) ?_
    rintro ⟨q4, r4⟩ ⟨hq4, h4⟩
    refine Wp.bind (pick_ok r4 _ 2 h4 (by omega) (by omega)) ?_
    rintro ⟨q5, r5⟩ ⟨hq5, h5⟩
    simp only at hq2 hq3 hq4 hq5 ⊢
    have hm : 0 ≤ q4 * q5 ∧ q4 * q5 ≤ 1 := by
      have : q4 = 0 ∨ q4 = 1 := by omega
      rcases this with rfl | rfl <;> omega
    generalize q4 * q5 = m at *
    simp (disch := omega) only [w64']
    refine Wp.bind (many_ok _ _ 190 (by omega) (by show 1 * _ ≤ 190; omega) (by omega)) (fun u hu => ?_)
    exact Wp.ret ⟨hu, h5.mono (by omega)⟩
  refine Wp.ite (fun _ => ?_) (fun _ => ?_)
  · refine Wp.bind (pick_ok r1 _ 19 h1 (by omega) (by omega)) ?_
    rintro ⟨q2, r2⟩ ⟨hq2, h2⟩
    simp only at hq2 ⊢
    simp (disch := omega) only [w64']
    refine Wp.bind (many_ok _ _ 190 (by omega) (by show 10 * _ ≤ 190; omega) (by omega)) (fun u hu => ?_)
    exact Wp.ret ⟨hu, h2.mono (by omega)⟩
  refine Wp.ite (fun _ => Wp.ret ⟨by show 2 ≤ 190; omega, h1.mono (by omega)⟩) (fun _ => ?_)
  refine Wp.bind (pick_ok r1 _ 30 h1 (by omega) (by omega)) ?_
  rintro ⟨q2, r2⟩ ⟨hq2, h2⟩
  simp only at hq2 ⊢
  simp (disch := omega) only [w64']
  have := letters_loop (1 + q2).toNat _ r2 (⟨#[]⟩ : ByteArray) h2 (by omega) (by show 0 + _ ≤ 100; omega)
  rw [Int.toNat_of_nonneg (by omega)] at this
  exact this.mono fun v hv => ⟨by have := hv.1; have e0 : (⟨#[]⟩ : ByteArray).size = 0 := rfl; rw [e0] at this; omega, hv.2.mono (by omega)⟩
theorem drawCut_ok (a : List Int) (h : ∀ y ∈ a, wf_byte y) : Wp (fun k => spec_DrawCut k a) (fun r => r.size ≤ 220) := by
  unfold spec_DrawCut
  refine Wp.bind (open_ok a h) (fun r h0 => ?_)
  refine Wp.bind (pick_ok r _ 6 h0 (by omega) (by omega)) ?_
  rintro ⟨q, r1⟩ ⟨hq, h1⟩
  simp only [cbeq]
  refine Wp.ite (fun _ => ?_) (fun _ => ?_)
  · refine Wp.bind (pick_ok r1 _ 10 h1 (by omega) (by omega)) ?_
    rintro ⟨q2, r2⟩ ⟨hq2, h2⟩
    simp only at hq2 ⊢
    have hlt : q2.toNat < ([0, 1, 19, 20, 21, 40, 199, 200, 201, 220] : List Int).length := by simp; omega
    have hi := idx_at hlt
    rw [Int.toNat_of_nonneg hq2.1] at hi
    refine Wp.opt hi ?_
    have hm := List.getElem_mem hlt
    generalize ([0, 1, 19, 20, 21, 40, 199, 200, 201, 220] : List Int)[q2.toNat] = y at *
    have hy : y ≤ 220 := by simp at hm; omega
    refine Wp.bind (many_ok _ _ 220 (by omega) (by show 1 * _ ≤ 220; omega) (by omega)) (fun u hu => Wp.ret hu)
  · refine Wp.bind (message_ok r1 _ h1 (by omega)) ?_
    rintro ⟨u, r2⟩ ⟨hu, _⟩
    exact Wp.ret (by simp only at hu ⊢; omega)
theorem dj20 (xs : List DPart) (B : Nat) (h : xs.length ≤ B ∧ ∀ p ∈ xs, p.Text.size ≤ 100) : Wp (fun k => spec_DrawJoin_l20 k xs) (fun r => r.length ≤ B ∧ ∀ p ∈ r, p.Text.size ≤ 100) := by
  refine Wp.step ?_
  simp only [spec_DrawJoin_l20]
  exact Wp.ret h
theorem dj11 : ∀ (d i : Nat) (n : Int) (r : DL1Rd) (xs : List DPart), i + d = 11 → Rd n r → n + d ≤ 1000 → (xs.length + d ≤ 60 ∧ ∀ p ∈ xs, p.Text.size ≤ 100) → Wp (fun k => spec_DrawJoin_l11 k (i : Int) r.b r.p xs) (fun r => r.length ≤ 60 ∧ ∀ p ∈ r, p.Text.size ≤ 100)
  | 0, i, n, r, xs, h, hr, hn, hx => by
    refine Wp.step ?_
    simp only [spec_DrawJoin_l11]
    simp (disch := omega) only [cbdec, if_neg]
    exact dj20 xs 60 ⟨by omega, hx.2⟩
  | d + 1, i, n, r, xs, h, hr, hn, hx => by
    refine Wp.step ?_
    simp only [spec_DrawJoin_l11]
    simp (disch := omega) only [cbdec, if_pos]
    refine Wp.bind (pick_ok r n 2 hr (by omega) (by omega)) ?_
    rintro ⟨q, r'⟩ ⟨hq, hr'⟩
    simp only at hq
    dsimp only
    refine Wp.opt (qdiv_nn (by omega) (by omega)) ?_
    have hi9 : 0 ≤ (i : Int) / 9 ∧ (i : Int) / 9 ≤ 1 := by omega
    generalize (i : Int) / 9 = z at *
    have hm : 0 ≤ q * z ∧ q * z ≤ 1 := by
      have : q = 0 ∨ q = 1 := by omega
      rcases this with rfl | rfl <;> omega
    rw [w64' (n := z) (by omega) (by omega)]
    generalize q * z = m at *
    rw [w64' (n := m) (by omega) (by omega), w64' (n := 20 - m) (by omega) (by omega)]
    refine Wp.bind (many_ok _ _ 100 (by omega) (by show 1 * _ ≤ 100; omega) (by omega)) (fun u hu => ?_)
    refine Wp.opt (app_ok (by simp; omega)) ?_
    simp (disch := omega) only [w64', castS]
    refine dj11 d (i + 1) (n + 1) r' _ (by omega) hr' (by omega) ⟨by simp; omega, fun p hp => ?_⟩
    rcases List.mem_append.mp hp with hp | hp
    · exact hx.2 p hp
    · simp only [List.mem_singleton] at hp; subst hp; exact hu
theorem set_parts {xs : List DPart} {i : Nat} {y : DPart} (hx : ∀ p ∈ xs, p.Text.size ≤ 100) (hy : y.Text.size ≤ 100) : ∀ p ∈ xs.set i y, p.Text.size ≤ 100 := fun p hp => by
  rcases List.mem_or_eq_of_mem_set hp with h | rfl
  · exact hx p h
  · exact hy
theorem dj4 : ∀ (d : Nat) (n : Int) (r : DL1Rd) (xs : List DPart), Rd n r → 0 ≤ n → n + 40 * d ≤ 500 → (xs.length + 10 * d ≤ 49 ∧ ∀ p ∈ xs, p.Text.size ≤ 100) → Wp (fun k => spec_DrawJoin_l4 k (d : Int) r.b r.p xs) (fun r => r.length ≤ 60 ∧ ∀ p ∈ r, p.Text.size ≤ 100)
  | 0, n, r, xs, hr, hn0, hn, hx => by
    refine Wp.step ?_
    simp only [spec_DrawJoin_l4]
    simp (disch := omega) only [cbdec, if_neg]
    refine Wp.ite (fun h0 => ?_) (fun _ => dj20 xs 60 ⟨by omega, hx.2⟩)
    refine Wp.bind (pick_ok r n 3 hr (by omega) (by omega)) ?_
    rintro ⟨q, r1⟩ ⟨hq, hr1⟩
    simp only [cbeq]
    refine Wp.ite (fun _ => ?_) (fun _ => dj20 xs 60 ⟨by omega, hx.2⟩)
    refine Wp.bind (pick_ok r1 _ (xs.length : Int) hr1 (by omega) (by omega)) ?_
    rintro ⟨q2, r2⟩ ⟨hq2, hr2⟩
    refine Wp.bind (pick_ok r2 _ 4 hr2 (by omega) (by omega)) ?_
    rintro ⟨q3, r3⟩ ⟨hq3, hr3⟩
    simp only at hq2 hq3 ⊢
    have hlt : q2.toNat < xs.length := by omega
    have e1 := idx_at hlt
    rw [Int.toNat_of_nonneg hq2.1] at e1
    have e2 := List.getElem?_eq_getElem hlt
    have hm := hx.2 _ (List.getElem_mem hlt)
    simp only [e1, e2, Option.bind_some]
    refine Wp.ite (fun _ => dj20 _ 60 ⟨by simp; omega, set_parts hx.2 hm⟩) (fun _ => ?_)
    refine Wp.ite (fun _ => ?_) (fun _ => ?_)
    · refine Wp.bind (pick_ok r3 _ 2 hr3 (by omega) (by omega)) ?_
      rintro ⟨q4, r4⟩ ⟨hq4, hr4⟩
      simp only at hq4 ⊢
      rw [w64' (n := 20 + q4) (by omega) (by omega)]
      refine Wp.bind (many_ok _ _ 100 (by omega) (by show 1 * _ ≤ 100; omega) (by omega)) (fun u hu => ?_)
      exact dj20 _ 60 ⟨by simp; omega, set_parts hx.2 hu⟩
    refine Wp.ite (fun _ => ?_) (fun _ => ?_)
    · refine Wp.opt (wnd_ok (by omega)) ?_
      exact dj20 _ 60 ⟨by simp [dcut]; omega, fun p hp => hx.2 p (List.mem_of_mem_take (List.mem_of_mem_drop hp))⟩
    · exact dj11 11 0 _ r3 xs (by omega) hr3 (by omega) ⟨by omega, hx.2⟩
  | d + 1, n, r, xs, hr, hn0, hn, hx => by
    refine Wp.step ?_
    simp only [spec_DrawJoin_l4]
    simp (disch := omega) only [cbdec, if_pos]
    refine Wp.bind (message_ok r n hr (by omega)) ?_
    rintro ⟨u, r1⟩ ⟨hu, hr1⟩
    dsimp only
    refine Wp.bind (specCut_ok u) (fun _ e => ?_); subst e
    obtain ⟨c1, c2⟩ := cutM_ok u
    refine Wp.opt (app_ok (by omega)) ?_
    rw [w64' (by omega) (by omega), show ((d + 1 : Nat) : Int) - 1 = (d : Int) by omega]
    refine dj4 d (n + 40) r1 _ hr1 (by omega) (by omega) ⟨by simp; omega, fun p hp => ?_⟩
    rcases List.mem_append.mp hp with hp | hp
    · exact hx.2 p hp
    · have := c2 p hp; omega
theorem drawJoin_ok (a : List Int) (h : ∀ y ∈ a, wf_byte y) : Wp (fun k => spec_DrawJoin k a) (fun r => r.length ≤ 60 ∧ ∀ p ∈ r, p.Text.size ≤ 100) := by
  unfold spec_DrawJoin
  refine Wp.bind (open_ok a h) (fun r h0 => ?_)
  refine Wp.bind (pick_ok r _ 5 h0 (by omega) (by omega)) ?_
  rintro ⟨q, r1⟩ ⟨hq, h1⟩
  simp only at hq ⊢
  have := dj4 q.toNat _ r1 [] h1 (by omega) (by omega) ⟨by simp; omega, fun p hp => by simp at hp⟩
  rwa [Int.toNat_of_nonneg hq.1] at this
/-! ### Join of Cut -/
theorem ba_append_assoc (a b c : ByteArray) : a ++ b ++ c = a ++ (b ++ c) := by
  apply ByteArray.ext; apply Array.ext'; simp
theorem ba_split (s : ByteArray) (i : Nat) (h : i ≤ s.size) : s.extract 0 i ++ s.extract i s.size = s := by
  apply ByteArray.ext
  simp only [ByteArray.data_append, ByteArray.data_extract]
  apply Array.ext'
  have : i ≤ s.data.toList.length := h
  simp [Array.toList_extract, List.extract]
  exact List.take_of_length_le (by show s.size ≤ max i s.size; omega)
theorem ba_nil_append (s : ByteArray) : noB ++ s = s := by
  apply ByteArray.ext; apply Array.ext'; simp [noB]
theorem join_cut : ∀ (n : Nat) (s o : ByteArray) (rest : List DPart) (out : List ByteArray), s.size ≤ 20 * n → 0 < n → o.size + s.size ≤ 200 → joinL (cutL n s ++ rest) o out = joinL rest noB (out ++ [o ++ s])
  | 0, s, o, rest, out, h, h0, hs => by omega
  | n + 1, s, o, rest, out, h, h0, hs => by
    simp only [cutL]
    split
    · rename_i h1
      simp only [List.cons_append, joinL]
      rw [if_neg (by rw [ByteArray.size_extract]; omega)]
      simp only [Bool.false_eq_true, if_false]
      rw [join_cut n (s.extract 20 s.size) (o ++ s.extract 0 20) rest out (by rw [ByteArray.size_extract]; omega) (by omega) (by rw [ba_size_append, ByteArray.size_extract, ByteArray.size_extract]; omega), ba_append_assoc, ba_split s 20 (by omega)]
    · simp only [List.cons_append, List.nil_append, joinL]
      rw [if_neg (by omega)]
      simp
def firstT (s : ByteArray) : List ByteArray := if s.size ≤ 200 then [s] else []
theorem join_cutM (s : ByteArray) (rest : List DPart) (out : List ByteArray) : joinL (cutM s ++ rest) noB out = joinL rest noB (out ++ firstT s) := by
  unfold cutM firstT
  split
  · rw [if_neg (by omega)]; simp
  · rw [if_pos (by omega), join_cut 10 s noB rest out (by omega) (by omega) (by rw [noB_size]; omega), ba_nil_append]
theorem join_two (s t : ByteArray) : joinM (cutM s ++ cutM t) = (firstT s ++ firstT t, noB, true) := by
  unfold joinM
  have := (cutM_ok s).1; have := (cutM_ok t).1
  rw [if_neg (by simp; omega), join_cutM]
  have e := join_cutM t [] ([] ++ firstT s)
  rw [List.append_nil] at e
  rw [e]
  simp [joinL]
theorem wTexts_loop : ∀ (t pre : List ByteArray), (pre ++ t).length ≤ 1048576 → Wp (fun k => laws_wTexts_l4 k (pre ++ t) (pre ++ t) (pre.length : Int)) (· = true)
  | [], pre, hl => by
    refine Wp.step ?_
    simp only [laws_wTexts_l4, List.append_nil]
    simp (disch := omega) only [cbdec, if_neg]
    exact Wp.ret rfl
  | x :: t, pre, hl => by
    refine Wp.step ?_
    have hl' := hl
    simp only [List.length_append, List.length_cons] at hl
    simp only [laws_wTexts_l4]
    simp only [cbdec, lt_mid, if_true, idx_mid, Option.bind_some, cbnot, cbseq]
    simp (disch := omega) only [w64']
    have ih := wTexts_loop t (pre ++ [x]) (by simpa using hl')
    rw [← mid_succ, ← mid_len] at ih
    exact ih
theorem wTexts_ok (l : List ByteArray) (h : l.length ≤ 1048576) : Wp (fun k => laws_wTexts k l l) (· = true) := by
  unfold laws_wTexts
  simp only [cbne, if_true]
  exact wTexts_loop l [] (by simpa using h)
end Km.X
namespace Km.X
open Go Km
set_option linter.unusedVariables false
set_option linter.unusedSimpArgs false
/-! ### drawn sends -/
theorem both_self {R : Type} (x : Option R) : Km.both x x = x := by unfold Km.both; rw [if_pos rfl]
theorem idx_any {α : Type} {xs : List α} {i : Int} (h : 0 ≤ i) (h' : i < xs.length) : ∃ y ∈ xs, idx xs i = some y ∧ xs[i.toNat]? = some y := by
  have hlt : i.toNat < xs.length := by omega
  have := idx_at hlt
  rw [Int.toNat_of_nonneg h] at this
  exact ⟨_, List.getElem_mem hlt, this, List.getElem?_eq_getElem hlt⟩
def DSd (n : Int) (v : DSend × DL1Rd) : Prop := VSend v.1 ∧ Rd n v.2
theorem d18 (n : Int) (r : DL1Rd) (c b : Int) (e xs : List DItem) (h : VSend ⟨b, xs⟩) (hr : Rd n r) : Wp (fun k => spec_l4Draw_l18 k r.b r.p c b e xs) (DSd n) := by
  refine Wp.step ?_
  simp only [spec_l4Draw_l18]
  refine Wp.bind (l4Copy_ok ⟨b, xs⟩ (by have := h.1; simp only at this ⊢; omega)) (fun r2 q => ?_); rw [q]
  exact Wp.ret ⟨h, hr⟩
theorem d16 (n : Int) (r : DL1Rd) (c b m : Int) (e : List DItem) (hm : m ≤ 60) (hr : Rd n r) : ∀ (d : Nat) (xs : List DItem), VSend ⟨b, xs⟩ → d = (m - xs.length).toNat → Wp (fun k => spec_l4Draw_l16 k m r.b r.p c b e xs) (DSd n)
  | 0, xs, h, hd => by
    refine Wp.step ?_
    simp only [spec_l4Draw_l16]
    simp (disch := omega) only [cbdec, if_neg]
    exact d18 n r c b e xs h hr
  | d + 1, xs, h, hd => by
    refine Wp.step ?_
    simp only [spec_l4Draw_l16]
    obtain ⟨h1, h2, h3, h4⟩ := h
    simp only at h1 h2 h3
    simp (disch := omega) only [cbdec, if_pos, w64']
    refine Wp.ite (fun hb => ?_) (fun hb => d18 n r c b e xs ⟨h1, h2, h3, h4⟩ hr)
    refine Wp.opt (app_ok (by simp; omega)) ?_
    refine d16 n r c b m e hm hr d _ ⟨by simp; omega, h2, by simp; omega, okItems_app h4 ⟨⟨?_, by simp, fun _ => rfl, fun h => by simp at h⟩, trivial⟩⟩ (by simp; omega)
    show 1 ≤ 20
    omega
/-- how many answers the loop has drawn by then -/
theorem d3 : ∀ (d : Nat) (n : Int) (r : DL1Rd) (c b : Int) (e xs : List DItem), VSend ⟨b, xs⟩ → Rd n r → 0 ≤ n → n + 60 * d ≤ 500 → Wp (fun k => spec_l4Draw_l3 k (d : Int) r.b r.p c b e xs) (DSd (n + 60 * d + 10))
  | 0, n, r, c, b, e, xs, h, hr, hn0, hn => by
    refine Wp.step ?_
    simp only [spec_l4Draw_l3]
    simp (disch := omega) only [cbdec, if_neg, cbeq]
    refine Wp.bind (pick_ok r n 12 hr (by omega) (by omega)) ?_
    rintro ⟨q, r1⟩ ⟨hq, hr1⟩
    simp only
    refine Wp.ite (fun _ => ?_) (fun _ => d18 _ r1 c b e xs h (hr1.mono (by omega)))
    refine Wp.bind (pick_ok r1 _ 3 hr1 (by omega) (by omega)) ?_
    rintro ⟨q2, r2⟩ ⟨hq2, hr2⟩
    simp only at hq2 ⊢
    rw [w64' (by omega) (by omega)]
    exact d16 _ r2 c b _ e (by omega) (hr2.mono (by omega)) _ xs h rfl
  | d + 1, n, r, c, b, e, xs, h, hr, hn0, hn => by
    refine Wp.step ?_
    simp only [spec_l4Draw_l3, both_self]
    have hpos : ((d + 1 : Nat) : Int) > 0 := by omega
    simp only [cbdec, if_pos hpos]
    -- the next message
    have N4 : ∀ (n' : Int) (r' : DL1Rd) (b' : Int) (xs' : List DItem), VSend ⟨b', xs'⟩ → Rd n' r' → n' ≤ n + 60 → Wp (fun k => spec_l4Draw_l4 k ((d + 1 : Nat) : Int) r'.b r'.p c b' e xs') (DSd (n + 60 * (d + 1 : Nat) + 10)) := fun n' r' b' xs' hv hr' hn' => by
      refine Wp.step ?_
      simp only [spec_l4Draw_l4]
      rw [w64' (by omega) (by omega), show ((d + 1 : Nat) : Int) - 1 = (d : Int) by omega]
      exact (d3 d (n + 60) r' c b' e xs' hv (hr'.mono hn') (by omega) (by omega)).mono fun v hv => ⟨hv.1, hv.2.mono (by omega)⟩
    have N9 : ∀ (j : Nat) (n' : Int) (r' : DL1Rd) (b' : Int) (xs' : List DItem), j ≤ 10 → VSend ⟨b', xs'⟩ → Rd n' r' → n' ≤ n + 50 → Wp (fun k => spec_l4Draw_l9 k ((d + 1 : Nat) : Int) (j : Int) r'.b r'.p c b' e xs') (DSd (n + 60 * (d + 1 : Nat) + 10)) := by
      intro j
      induction j with
      | zero =>
        intro n' r' b' xs' hj hv hr' hn'
        refine Wp.step ?_
        simp only [spec_l4Draw_l9]
        simp (disch := omega) only [cbdec, if_neg, cbeq]
        refine Wp.bind (pick_ok r' n' 3 hr' (by omega) (by omega)) ?_
        rintro ⟨q, r1⟩ ⟨hq, hr1⟩
        simp only
        refine Wp.ite (fun _ => ?_) (fun _ => N4 _ r1 b' xs' hv hr1 (by omega))
        refine Wp.bind (pick_ok r1 _ 4 hr1 (by omega) (by omega)) ?_
        rintro ⟨q2, r2⟩ ⟨hq2, hr2⟩
        refine Wp.bind (pick_ok r2 _ 256 hr2 (by omega) (by omega)) ?_
        rintro ⟨q3, r3⟩ ⟨hq3, hr3⟩
        refine Wp.bind (specWord_ok _ _ _) (fun _ q => ?_); subst q
        exact N4 _ r3 _ _ (wordM_ok _ _ _) hr3 (by omega)
      | succ j ih =>
        intro n' r' b' xs' hj hv hr' hn'
        refine Wp.step ?_
        simp only [spec_l4Draw_l9]
        have hpos : ((j + 1 : Nat) : Int) > 0 := by omega
        simp only [cbdec, if_pos hpos]
        refine Wp.bind (specTick_ok _) (fun _ q => ?_); subst q
        rw [w64' (by omega) (by omega), show ((j + 1 : Nat) : Int) - 1 = (j : Int) by omega]
        exact ih n' r' _ _ (by omega) (tickM_ok _).1 hr' hn'
    have N8 : ∀ (n' : Int) (r' : DL1Rd) (b' : Int) (xs' : List DItem), VSend ⟨b', xs'⟩ → Rd n' r' → n' ≤ n + 45 → Wp (fun k => spec_l4Draw_l8 k ((d + 1 : Nat) : Int) r'.b r'.p c b' e xs') (DSd (n + 60 * (d + 1 : Nat) + 10)) := fun n' r' b' xs' hv hr' hn' => by
      refine Wp.step ?_
      simp only [spec_l4Draw_l8]
      refine Wp.bind (pick_ok r' n' 6 hr' (by omega) (by omega)) ?_
      rintro ⟨q, r1⟩ ⟨hq, hr1⟩
      simp only at hq ⊢
      have := N9 q.toNat _ r1 b' xs' (by omega) hv hr1 (by omega)
      rwa [Int.toNat_of_nonneg hq.1] at this
    refine Wp.bind (message_ok r n hr (by omega)) ?_
    rintro ⟨u, r1⟩ ⟨hu, hr1⟩
    refine Wp.bind (specPush_ok _ _) (fun _ q => ?_); subst q
    simp only [cbeq]
    exact Wp.ite (fun _ => N8 _ r1 _ _ (pushM_ok _ _) hr1 (by omega)) (fun _ => N8 _ r1 _ _ h hr1 (by omega))
theorem l4Draw_ok (r : DL1Rd) (n : Int) (hr : Rd n r) (hn : 0 ≤ n ∧ n ≤ 100) : Wp (fun k => spec_l4Draw k r) (DSd (n + 300)) := by
  unfold spec_l4Draw
  refine Wp.bind (pick_ok r n 5 hr (by omega) (by omega)) ?_
  rintro ⟨q, r1⟩ ⟨hq, hr1⟩
  simp only at hq
  obtain ⟨b, hb, e1, e2⟩ := idx_any (xs := ([0, 0, 3, 1000, 999940] : List Int)) hq.1 (by simp; omega)
  simp only [e1, e2, Option.bind_some]
  refine Wp.bind (pick_ok r1 _ 5 hr1 (by omega) (by omega)) ?_
  rintro ⟨q2, r2⟩ ⟨hq2, hr2⟩
  simp only at hq2 ⊢
  have hb' : 0 ≤ b ∧ b ≤ 999940 := by simp at hb; omega
  have := d3 q2.toNat _ r2 0 b [] [] ⟨by simp, by simp only; omega, by simp; omega, trivial⟩ hr2 (by omega) (by omega)
  rw [Int.toNat_of_nonneg hq2.1] at this
  exact this.mono fun v hv => ⟨hv.1, hv.2.mono (by omega)⟩
def RdOnly (n : Int) (v : DSend × DL1Rd) : Prop := Rd n v.2
theorem p21 (n : Int) (r : DL1Rd) (c b : Int) (e xs : List DItem) (hr : Rd n r) : Wp (fun k => spec_l4Spoil_l21 k r.b r.p c b e xs) (RdOnly n) := by
  refine Wp.step ?_
  simp only [spec_l4Spoil_l21]
  exact Wp.ret hr
theorem p19 (n : Int) (r : DL1Rd) (c b m : Int) (e : List DItem) (hm : m ≤ 100) (hr : Rd n r) : ∀ (d : Nat) (xs : List DItem), xs.length ≤ 200 → d = (m - xs.length).toNat → Wp (fun k => spec_l4Spoil_l19 k m r.b r.p c b e xs) (RdOnly n)
  | 0, xs, h, hd => by
    refine Wp.step ?_
    simp only [spec_l4Spoil_l19]
    simp (disch := omega) only [cbdec, if_neg]
    exact p21 n r c b e xs hr
  | d + 1, xs, h, hd => by
    refine Wp.step ?_
    simp only [spec_l4Spoil_l19]
    simp (disch := omega) only [cbdec, if_pos]
    refine Wp.opt (app_ok (by simp; omega)) ?_
    exact p19 n r c b m e hm hr d _ (by simp; omega) (by simp; omega)
theorem p6 (n : Int) (r : DL1Rd) (c b : Int) (e : List DItem) (hr : Rd n r) (hn : n ≤ 1000) : ∀ (d : Nat) (xs : List DItem), xs.length ≤ 200 → d = 9 - xs.length → Wp (fun k => spec_l4Spoil_l6 k r.b r.p c b e xs) (RdOnly (n + 1))
  | 0, xs, h, hd => by
    refine Wp.step ?_
    simp only [spec_l4Spoil_l6]
    simp (disch := omega) only [cbdec, if_neg]
    refine Wp.bind (pick_ok r n 2 hr (by omega) (by omega)) ?_
    rintro ⟨q, r1⟩ ⟨hq, hr1⟩
    obtain ⟨y, _, e1, e2⟩ := idx_any (xs := xs) (i := 8) (by omega) (by omega)
    simp only [e1, e2, Option.bind_some]
    exact p21 _ r1 c b e _ hr1
  | d + 1, xs, h, hd => by
    refine Wp.step ?_
    simp only [spec_l4Spoil_l6]
    simp (disch := omega) only [cbdec, if_pos]
    refine Wp.opt (app_ok (by simp; omega)) ?_
    exact p6 n r c b e hr hn d _ (by simp; omega) (by simp; omega)
theorem p4 (n : Int) (r : DL1Rd) (c b : Int) (e xs : List DItem) (hr : Rd n r) (hn : n ≤ 900) (hx : 0 < xs.length ∧ xs.length ≤ 100) : Wp (fun k => spec_l4Spoil_l4 k r.b r.p c b e xs) (RdOnly (n + 10)) := by
  have L : ∀ (n' : Int) (r' : DL1Rd) (b' : Int) (xs' : List DItem), Rd n' r' → n' ≤ n + 10 → Wp (fun k => spec_l4Spoil_l21 k r'.b r'.p c b' e xs') (RdOnly (n + 10)) := fun n' r' b' xs' h h' => p21 _ r' c b' e xs' (h.mono h')
  refine Wp.step ?_
  simp only [spec_l4Spoil_l4, both_self]
  refine Wp.bind (pick_ok r n (xs.length : Int) hr (by omega) (by omega)) ?_
  rintro ⟨q, r1⟩ ⟨hq, hr1⟩
  refine Wp.bind (pick_ok r1 _ 6 hr1 (by omega) (by omega)) ?_
  rintro ⟨q2, r2⟩ ⟨hq2, hr2⟩
  simp only at hq hq2
  obtain ⟨y, _, e1, e2⟩ := idx_any (xs := xs) hq.1 hq.2
  simp only [e1, e2, Option.bind_some, cbeq]
  refine Wp.ite (fun _ => ?_) (fun _ => ?_)
  · refine Wp.bind (pick_ok r2 _ 3 hr2 (by omega) (by omega)) ?_
    rintro ⟨q3, r3⟩ ⟨hq3, hr3⟩
    simp only at hq3
    obtain ⟨z, _, f1, f2⟩ := idx_any (xs := ([(-1), 1000000, 1000001] : List Int)) hq3.1 (by simp; omega)
    simp only [f1, f2, Option.bind_some]
    exact L _ r3 _ _ hr3 (by omega)
  refine Wp.ite (fun _ => ?_) (fun _ => ?_)
  · refine Wp.bind (pick_ok r2 _ 5 hr2 (by omega) (by omega)) ?_
    rintro ⟨q3, r3⟩ ⟨hq3, hr3⟩
    simp only at hq3
    obtain ⟨z, _, f1, f2⟩ := idx_any (xs := ([(-2), (-1), 0, 3, 4] : List Int)) hq3.1 (by simp; omega)
    simp only [f1, f2, Option.bind_some]
    exact L _ r3 _ _ hr3 (by omega)
  refine Wp.ite (fun _ => L _ r2 _ _ hr2 (by omega)) (fun _ => ?_)
  refine Wp.ite (fun _ => ?_) (fun _ => ?_)
  · refine Wp.bind (pick_ok r2 _ 2 hr2 (by omega) (by omega)) ?_
    rintro ⟨q3, r3⟩ ⟨hq3, hr3⟩
    simp only at hq3 ⊢
    rw [w64' (by omega) (by omega)]
    refine Wp.bind (many_ok _ _ 100 (by omega) (by show 1 * _ ≤ 100; omega) (by omega)) (fun u hu => ?_)
    exact L _ r3 _ _ hr3 (by omega)
  refine Wp.ite (fun _ => ?_) (fun _ => ?_)
  · refine Wp.bind (pick_ok r2 _ 2 hr2 (by omega) (by omega)) ?_
    rintro ⟨q3, r3⟩ ⟨hq3, hr3⟩
    simp only at hq3 ⊢
    rw [w64' (by omega) (by omega)]
    exact p19 _ r3 c b _ e (by omega) (hr3.mono (by omega)) _ xs (by omega) rfl
  · exact (p6 _ r2 c b e hr2 (by omega) _ xs (by omega) rfl).mono fun v hv => Rd.mono hv (by omega)
theorem l4Spoil_ok (r : DL1Rd) (s : DSend) (n : Int) (hr : Rd n r) (hn : n ≤ 900) (hs : s.Items.length ≤ 60) : Wp (fun k => spec_l4Spoil k r s) (RdOnly (n + 10)) := by
  unfold spec_l4Spoil
  refine Wp.bind (l4Copy_ok s (by omega)) (fun r2 q => ?_); rw [q]
  simp only [cbeq]
  exact Wp.ite (fun _ => p4 n r _ _ _ _ hr hn (by simp)) (fun h => p4 n r _ _ _ _ hr hn (by omega))
theorem l4Any_ok (r : DL1Rd) (n : Int) (hr : Rd n r) (hn : 0 ≤ n ∧ n ≤ 100) : Wp (fun k => spec_l4Any k r) (RdOnly (n + 320)) := by
  unfold spec_l4Any
  refine Wp.bind (l4Draw_ok r n hr hn) ?_
  rintro ⟨s, r1⟩ ⟨hs, hr1⟩
  refine Wp.bind (pick_ok r1 _ 8 hr1 (by omega) (by omega)) ?_
  rintro ⟨q, r2⟩ ⟨hq, hr2⟩
  simp only [cbeq]
  refine Wp.ite (fun _ => ?_) (fun _ => Wp.ret (Rd.mono hr2 (by omega)))
  refine Wp.bind (l4Spoil_ok r2 s _ hr2 (by omega) hs.1) ?_
  rintro ⟨s', r3⟩ h3
  exact Wp.ret (Rd.mono h3 (by omega))
theorem drawSendWord_ok (a : List Int) (h : ∀ y ∈ a, wf_byte y) : Wp (fun k => spec_DrawSendWord k a) (fun _ => True) := by
  unfold spec_DrawSendWord
  refine Wp.bind (open_ok a h) (fun r h0 => ?_)
  refine Wp.bind (l4Any_ok r _ h0 (by omega)) ?_
  rintro ⟨s, r1⟩ h1
  have h1 : Rd 320 r1 := Rd.mono h1 (by omega)
  refine Wp.bind (pick_ok r1 _ 11 h1 (by omega) (by omega)) ?_
  rintro ⟨q2, r2⟩ ⟨hq2, h2⟩
  refine Wp.bind (pick_ok r2 _ 256 h2 (by omega) (by omega)) ?_
  rintro ⟨q3, r3⟩ ⟨hq3, h3⟩
  refine Wp.bind (pick_ok r3 _ 12 h3 (by omega) (by omega)) ?_
  rintro ⟨q4, r4⟩ ⟨hq4, h4⟩
  have L9 : ∀ (x0 x1 x2 b : Int) (e xs : List DItem), Wp (fun k => spec_DrawSendWord_l9 k x0 x1 x2 b e xs) (fun _ => True) := fun x0 x1 x2 b e xs => by
    refine Wp.step ?_
    simp only [spec_DrawSendWord_l9]
    exact Wp.ret trivial
  have L7 : ∀ (x0 x1 x2 : Int) (r' : DL1Rd) (b : Int) (e xs : List DItem), Rd 400 r' → Wp (fun k => spec_DrawSendWord_l7 k x0 x1 x2 r'.b r'.p b e xs) (fun _ => True) := fun x0 x1 x2 r' b e xs hr => by
    refine Wp.step ?_
    simp only [spec_DrawSendWord_l7, both_self]
    refine Wp.bind (pick_ok r' _ 12 hr (by omega) (by omega)) ?_
    rintro ⟨q5, r5⟩ ⟨hq5, h5⟩
    simp only [cbeq]
    refine Wp.ite (fun _ => ?_) (fun _ => L9 _ _ _ _ _ _)
    refine Wp.bind (pick_ok r5 _ 4 h5 (by omega) (by omega)) ?_
    rintro ⟨q6, r6⟩ ⟨hq6, h6⟩
    simp only at hq6 ⊢
    generalize hl : ([0, (-1), (IntKind.wrap .i64 (b + (xs.length : Int))), (IntKind.wrap .i64 ((IntKind.wrap .i64 (b + (xs.length : Int))) + 1))] : List Int) = ys
    obtain ⟨z, _, f1, f2⟩ := idx_any (xs := ys) hq6.1 (by rw [← hl]; simp; omega)
    simp only [f1, f2, Option.bind_some]
    exact L9 _ _ _ _ _ _
  simp only [cbeq]
  refine Wp.ite (fun _ => ?_) (fun _ => L7 _ _ _ r4 _ _ _ (h4.mono (by omega)))
  refine Wp.bind (pick_ok r4 _ 3 h4 (by omega) (by omega)) ?_
  rintro ⟨q7, r7⟩ ⟨hq7, h7⟩
  simp only at hq7 ⊢
  obtain ⟨z, _, f1, f2⟩ := idx_any (xs := ([(-1), 256, 511] : List Int)) hq7.1 (by simp; omega)
  simp only [f1, f2, Option.bind_some]
  exact L7 _ _ _ r7 _ _ _ (h7.mono (by omega))
end Km.X
namespace Km.X
open Go Km
set_option linter.unusedVariables false
set_option linter.unusedSimpArgs false
/-- a packet that may be written -/
def Fits (p : DPacket) : Prop :=
  (1 ≤ p.From ∧ p.From ≤ 2) ∧ (1 ≤ p.Mine ∧ p.Mine ≤ 1000) ∧ (0 ≤ p.Yours ∧ p.Yours ≤ 1000) ∧
  ((p.Kind = 1 ∧ (0 ≤ p.Next ∧ p.Next ≤ 1000000) ∧ (0 ≤ p.Mask ∧ p.Mask ≤ 255) ∧ p.Seq = 0 ∧ p.Last = false ∧ p.Part = noB) ∨
   (p.Kind = 2 ∧ p.Next = 0 ∧ p.Mask = 0 ∧ (0 ≤ p.Seq ∧ p.Seq ≤ 999999) ∧ p.Part.size ≤ 20))
instance (p : DPacket) : Decidable (Fits p) := by unfold Fits; infer_instance

theorem validPacket_ok (p : DPacket) : Wp (fun k => impl_validPacket k p) (· = decide (Fits p)) := by
  unfold impl_validPacket
  have key : (p.From = 1 ∨ p.From = 2) → Wp (fun k =>
    (impl_in k p.Mine 1 1000).bind fun r6 =>
    bif (!r6) then
      some false
    else
      (impl_in k p.Yours 0 1000).bind fun r7 =>
      bif (!r7) then
        some false
      else
        bif (p.Kind == 1) then
          (impl_in k p.Next 0 1000000).bind fun r8 =>
          bif r8 then
            (impl_in k p.Mask 0 255).bind fun r9 =>
            bif r9 then
              bif (p.Seq == 0) then
                bif (!p.Last) then
                  some (p.Part.toList == (⟨#[]⟩ : ByteArray).toList)
                else
                  some false
              else
                some false
            else
              some false
          else
            some false
        else
          bif (p.Kind == 2) then
            bif (p.Next == 0) then
              bif (p.Mask == 0) then
                (impl_in k p.Seq 0 999999).bind fun r10 =>
                bif r10 then
                  some (decide ((p.Part.size : Int) ≤ 20))
                else
                  some false
              else
                some false
            else
              some false
          else
            some false) (· = decide (Fits p)) := by
    intro hf
    have F : ∀ {Q : Prop}, (Fits p → False) → false = decide (Fits p) := fun h => (decide_eq_false h).symm
    refine Wp.bind (in_ok _ _ _) (fun _ e => ?_); subst e
    simp only [inB, cbnot, cbdec, cbeq, seqB]
    refine Wp.ite (fun h1 => ?_) (fun h1 => Wp.ret (F (Q := True) fun h => h1 h.2.1))
    refine Wp.bind (in_ok _ _ _) (fun _ e => ?_); subst e
    simp only [inB, cbnot, cbdec, cbeq, seqB]
    refine Wp.ite (fun h2 => ?_) (fun h2 => Wp.ret (F (Q := True) fun h => h2 h.2.2.1))
    refine Wp.ite (fun h3 => ?_) (fun h3 => ?_)
    · have W : Fits p → (0 ≤ p.Next ∧ p.Next ≤ 1000000) ∧ (0 ≤ p.Mask ∧ p.Mask ≤ 255) ∧ p.Seq = 0 ∧ p.Last = false ∧ p.Part = noB := fun h => by
        rcases h.2.2.2 with h | h
        · exact h.2
        · omega
      refine Wp.bind (in_ok _ _ _) (fun _ e => ?_); subst e
      simp only [inB, cbnot, cbdec, cbeq, seqB]
      refine Wp.ite (fun h4 => ?_) (fun h4 => Wp.ret (F (Q := True) fun h => h4 (W h).1))
      refine Wp.bind (in_ok _ _ _) (fun _ e => ?_); subst e
      simp only [inB, cbnot, cbdec, cbeq, seqB]
      refine Wp.ite (fun h5 => ?_) (fun h5 => Wp.ret (F (Q := True) fun h => h5 (W h).2.1))
      refine Wp.ite (fun h6 => ?_) (fun h6 => Wp.ret (F (Q := True) fun h => h6 (W h).2.2.1))
      refine Wp.bif (fun h7 => Wp.ret (F (Q := True) fun h => by rw [(W h).2.2.2.1] at h7; cases h7)) (fun h7 => ?_)
      refine Wp.ret ?_
      rw [decide_eq_decide]
      exact ⟨fun h => ⟨by omega, h1, h2, .inl ⟨h3, h4, h5, h6, h7, h⟩⟩, fun h => (W h).2.2.2.2⟩
    · refine Wp.ite (fun h4 => ?_) (fun h4 => Wp.ret (F (Q := True) fun h => by rcases h.2.2.2 with h | h <;> omega))
      have W : Fits p → p.Next = 0 ∧ p.Mask = 0 ∧ (0 ≤ p.Seq ∧ p.Seq ≤ 999999) ∧ p.Part.size ≤ 20 := fun h => by
        rcases h.2.2.2 with h | h
        · omega
        · exact h.2
      refine Wp.ite (fun h5 => ?_) (fun h5 => Wp.ret (F (Q := True) fun h => h5 (W h).1))
      refine Wp.ite (fun h6 => ?_) (fun h6 => Wp.ret (F (Q := True) fun h => h6 (W h).2.1))
      refine Wp.bind (in_ok _ _ _) (fun _ e => ?_); subst e
      simp only [inB, cbnot, cbdec, cbeq, seqB]
      refine Wp.ite (fun h7 => ?_) (fun h7 => Wp.ret (F (Q := True) fun h => h7 (W h).2.2.1))
      refine Wp.ret ?_
      rw [decide_eq_decide]
      exact ⟨fun h => ⟨by omega, h1, h2, .inr ⟨h4, h5, h6, h7, by omega⟩⟩, fun h => by have := (W h).2.2.2; omega⟩
  simp only [cbne]
  refine Wp.ite (fun h => key (.inl h)) (fun h => ?_)
  refine Wp.ite (fun h => key (.inr h)) (fun h2 => Wp.ret (decide_eq_false ?_).symm)
  intro h'
  have := h'.1
  omega
theorem l2Ok_same (p : DPacket) (h : 1 ≤ p.From ∧ p.From ≤ 2) (k : Nat) : spec_l2Ok k p = impl_validPacket k p := by
  have e : spec_l1In k p.From 1 2 = some true := by
    unfold spec_l1In
    simp only [cbdec]
    rw [if_pos (by omega)]
    congr 1
    exact decide_eq_true h.2
  unfold spec_l2Ok impl_validPacket
  rw [e]
  have hi : ∀ a b c, spec_l1In k a b c = impl_in k a b c := fun _ _ _ => rfl
  simp only [hi, Option.bind_some, Bool.not_true, cond_false, cbne]
  by_cases h1 : p.From = 1
  · rw [if_pos h1]
  · rw [if_neg h1, if_pos (by omega)]
theorem l2Ok_ok (p : DPacket) : Wp (fun k => spec_l2Ok k p) (· = decide (Fits p)) := by
  by_cases h : 1 ≤ p.From ∧ p.From ≤ 2
  · have : (fun k => spec_l2Ok k p) = fun k => impl_validPacket k p := funext fun k => l2Ok_same p h k
    rw [this]; exact validPacket_ok p
  · unfold spec_l2Ok
    refine Wp.bind (l1In_ok _ _ _) (fun _ e => ?_); subst e
    rw [inB, decide_eq_false h]
    exact Wp.ret (decide_eq_false fun h' => h h'.1).symm

/-! ### numbers in bytes -/
def N (w : Nat) (x : Int) : ByteArray := bstr (bytesL w x.toNat)
theorem N_size (w : Nat) (x : Int) : (N w x).size = w := by simp [N, bstr_size, bytesL_length]
theorem number_loop : ∀ (d w i n : Nat) (tail : List Int), i + d = w → w ≤ 8 → n < 2 ^ 62 → tail.length + d ≤ 100 →
    Wp (fun k => spec_l1Number_l3 k (n : Int) (w : Int) (bstr tail) (i : Int)) (· = bstr (bytesL d n ++ tail))
  | 0, w, i, n, tail, h, hw, hn, ht => by
    refine Wp.step ?_
    simp only [spec_l1Number_l3]
    simp (disch := omega) only [cbdec, if_neg]
    exact Wp.ret rfl
  | d + 1, w, i, n, tail, h, hw, hn, ht => by
    refine Wp.step ?_
    simp only [spec_l1Number_l3]
    simp (disch := omega) only [cbdec, if_pos, qrem_nat, qdiv_nat, Option.bind_some, wu8_mod, sadd_bstr, w64', castS]
    have ih := number_loop d w (i + 1) (n / 256) (((n % 256 : Nat) : Int) :: tail) (by omega) hw (by omega) (by simp; omega)
    simpa [bytesL] using ih
theorem number_ok {w : Nat} {x : Int} (hw : w ≤ 8) (hx : 0 ≤ x ∧ x ≤ 1000000) : Wp (fun k => spec_l1Number k x (w : Int)) (· = N w x) := by
  obtain ⟨n, rfl⟩ : ∃ n : Nat, x = n := ⟨x.toNat, by omega⟩
  have := number_loop w w 0 n [] (by omega) hw (by omega) (by simp; omega)
  rw [List.append_nil] at this
  exact this
theorem be_loop : ∀ (d n : Nat) (b : List Int), d ≤ b.length → b.length ≤ 8 → n < 2 ^ 62 → Wp (fun k => impl_be_l3 k (n : Int) ((d : Int) - 1) b) (· = bstr (bytesL d n ++ b.drop d))
  | 0, n, b, hd, hb, hn => by
    refine Wp.step ?_
    simp only [impl_be_l3]
    simp (disch := omega) only [cbdec, if_neg]
    exact Wp.ret (by simp [bytesL])
  | d + 1, n, b, hd, hb, hn => by
    refine Wp.step ?_
    simp only [impl_be_l3]
    rw [show ((d + 1 : Nat) : Int) - 1 = (d : Int) by omega]
    have hlt : d < b.length := by omega
    simp (disch := first | omega | decide) only [cbdec, if_pos, idxN, getN, Option.bind_some, shr8, w64', wu8]
    have ih := be_loop d (n / 256) (b.set d ((n % 256 : Nat) : Int)) (by simp; omega) (by simpa using hb) (by omega)
    rw [set_bytes hlt] at ih
    rw [Int.toNat_natCast]
    exact ih
theorem be_ok {w : Nat} {x : Int} (hw : w ≤ 8) (hx : 0 ≤ x ∧ x ≤ 1000000) : Wp (fun k => impl_be k x (w : Int)) (· = N w x) := by
  obtain ⟨n, rfl⟩ : ∃ n : Nat, x = n := ⟨x.toNat, by omega⟩
  unfold impl_be
  refine Wp.opt (x := w) (by rw [if_pos rfl]; exact room_ok (by omega)) ?_
  have := be_loop w n (List.replicate w 0) (by simp) (by simpa using hw) (by omega)
  rw [List.drop_eq_nil_of_le (by simp), List.append_nil] at this
  rw [w64' (by omega) (by omega)]
  exact this
theorem ba_assoc (x y z : ByteArray) : x ++ y ++ z = x ++ (y ++ z) := by
  apply ByteArray.ext; simp
def headP (p : DPacket) : ByteArray := N 1 p.Kind ++ N 1 p.From ++ N 2 p.Mine ++ N 2 p.Yours
def lastI (b : Bool) : Int := bif b then 1 else 0
def bodyP (p : DPacket) : ByteArray :=
  if p.Kind = 1 then headP p ++ N 4 p.Next ++ N 1 p.Mask else headP p ++ N 4 p.Seq ++ N 1 (lastI p.Last) ++ p.Part
theorem headP_size (p : DPacket) : (headP p).size = 6 := by simp [headP, N_size]
theorem bodyP_size (p : DPacket) (h : Fits p) : (bodyP p).size ≤ 31 := by
  have hs := headP_size p
  unfold bodyP
  rcases h.2.2.2 with ⟨hk1, _⟩ | ⟨hk2, _, _, _, g4⟩
  · rw [if_pos hk1]; simp [N_size, hs]
  · rw [if_neg (by omega)]; simp [N_size, hs]; omega
theorem body_ok (p : DPacket) (h : Fits p) : Wp (fun k => spec_l2Body k p) (· = bodyP p) := by
  obtain ⟨h1, h2, h3, h4⟩ := h
  have hK : 0 ≤ p.Kind ∧ p.Kind ≤ 1000000 := by rcases h4 with h | h <;> omega
  unfold spec_l2Body
  refine Wp.bind (number_ok (w := 1) (by omega) hK) (fun _ e => ?_); subst e
  refine Wp.bind (number_ok (w := 1) (by omega) (by omega)) (fun _ e => ?_); subst e
  refine Wp.opt (sadd_ok (by simp [N_size])) ?_
  refine Wp.bind (number_ok (w := 2) (by omega) (by omega)) (fun _ e => ?_); subst e
  refine Wp.opt (sadd_ok (by simp [N_size])) ?_
  refine Wp.bind (number_ok (w := 2) (by omega) (by omega)) (fun _ e => ?_); subst e
  refine Wp.opt (sadd_ok (by simp [N_size])) ?_
  have hd : N 1 p.Kind ++ N 1 p.From ++ N 2 p.Mine ++ N 2 p.Yours = headP p := rfl
  rw [hd]
  have hs := headP_size p
  simp only [cbeq]
  refine Wp.ite (fun hk => ?_) (fun hk => ?_)
  · rcases h4 with ⟨_, g1, g2, _⟩ | ⟨hk2, _⟩
    · refine Wp.bind (number_ok (w := 4) (by omega) (by omega)) (fun _ e => ?_); subst e
      refine Wp.opt (sadd_ok (by simp [N_size, hs])) ?_
      refine Wp.bind (number_ok (w := 1) (by omega) (by omega)) (fun _ e => ?_); subst e
      refine Wp.opt (sadd_ok (by simp [N_size, hs])) ?_
      exact Wp.ret (by rw [bodyP, if_pos hk])
    · omega
  · rcases h4 with ⟨hk1, _⟩ | ⟨hk2, g1, g2, g3, g4⟩
    · exact absurd hk1 hk
    have key : ∀ l, 0 ≤ l ∧ l ≤ 1000000 → Wp (fun k => spec_l2Body_l7 k (headP p) l p.Kind p.From p.Mine p.Yours p.Next p.Mask p.Seq p.Last p.Part) (· = headP p ++ N 4 p.Seq ++ N 1 l ++ p.Part) := fun l hl => by
      refine Wp.step ?_
      simp only [spec_l2Body_l7]
      refine Wp.bind (number_ok (w := 4) (by omega) (by omega)) (fun _ e => ?_); subst e
      refine Wp.opt (sadd_ok (by simp [N_size, hs])) ?_
      refine Wp.bind (number_ok (w := 1) (by omega) hl) (fun _ e => ?_); subst e
      refine Wp.opt (sadd_ok (by simp [N_size, hs])) ?_
      refine Wp.opt (sadd_ok (by simp [N_size, hs]; omega)) ?_
      exact Wp.ret rfl
    have hb : bodyP p = headP p ++ N 4 p.Seq ++ N 1 (lastI p.Last) ++ p.Part := by rw [bodyP, if_neg hk]
    rw [hb]
    cases hl : p.Last
    · have := key 0 (by omega)
      rw [hl] at this; exact this
    · have := key 1 (by omega)
      rw [hl] at this; exact this
/-- the form of a packet -/
def formM (p : DPacket) (b : ByteArray) (w : Int) : ByteArray := if Fits p ∧ (1 ≤ w ∧ w ≤ 8) ∧ b.size ≤ 30 then tagM (bodyP p) b w ++ bodyP p else noB
theorem specForm_ok (p : DPacket) (b : ByteArray) (w : Int) : Wp (fun k => spec_FormPacket k p b w) (· = formM p b w) := by
  unfold spec_FormPacket formM
  refine Wp.bind (l2Ok_ok p) (fun _ e => ?_); subst e
  simp only [cbnot, cbdec]
  refine Wp.ite (fun h1 => ?_) (fun h1 => Wp.ret (by rw [if_neg (fun h => h1 h.1)]))
  refine Wp.bind (l1In_ok _ _ _) (fun _ e => ?_); subst e
  simp only [inB, cbnot, cbdec]
  refine Wp.ite (fun h2 => ?_) (fun h2 => Wp.ret (by rw [if_neg (fun h => h2 h.2.1)]))
  refine Wp.ite (fun h3 => Wp.ret (by rw [if_neg (fun h => by omega)])) (fun h3 => ?_)
  rw [if_pos ⟨h1, h2, by omega⟩]
  have hs := bodyP_size p h1
  refine Wp.bind (body_ok p h1) (fun _ e => ?_); subst e
  refine Wp.bind (specTag_ok _ b w (by omega)) (fun _ e => ?_); subst e
  refine Wp.bind (body_ok p h1) (fun _ e => ?_); subst e
  have ht := tagM_size (bodyP p) b w
  refine Wp.opt (sadd_ok (by omega)) ?_
  exact Wp.ret rfl
theorem implForm_ok (p : DPacket) (b : ByteArray) (w : Int) : Wp (fun k => impl_FormPacket k p b w) (· = formM p b w) := by
  unfold impl_FormPacket formM
  refine Wp.bind (validPacket_ok p) (fun _ e => ?_); subst e
  simp only [cbnot, cbdec]
  refine Wp.ite (fun h1 => ?_) (fun h1 => Wp.ret (by rw [if_neg (fun h => h1 h.1)]))
  refine Wp.ite (fun h2 => Wp.ret (by rw [if_neg (fun h => by omega)])) (fun h2 => ?_)
  refine Wp.ite (fun h3 => Wp.ret (by rw [if_neg (fun h => by omega)])) (fun h3 => ?_)
  refine Wp.ite (fun h4 => Wp.ret (by rw [if_neg (fun h => by omega)])) (fun h4 => ?_)
  rw [if_pos ⟨h1, by omega, by omega⟩]
  have hbs := bodyP_size p h1
  have ht := tagM_size (bodyP p) b w
  obtain ⟨g1, g2, g3, g4⟩ := h1
  have hK : 0 ≤ p.Kind ∧ p.Kind ≤ 1000000 := by rcases g4 with h | h <;> omega
  refine Wp.bind (be_ok (w := 1) (by omega) hK) (fun _ e => ?_); subst e
  refine Wp.bind (be_ok (w := 1) (by omega) (by omega)) (fun _ e => ?_); subst e
  refine Wp.opt (sadd_ok (by simp [N_size])) ?_
  refine Wp.bind (be_ok (w := 2) (by omega) (by omega)) (fun _ e => ?_); subst e
  refine Wp.opt (sadd_ok (by simp [N_size])) ?_
  refine Wp.bind (be_ok (w := 2) (by omega) (by omega)) (fun _ e => ?_); subst e
  refine Wp.opt (sadd_ok (by simp [N_size])) ?_
  have hd : N 1 p.Kind ++ N 1 p.From ++ N 2 p.Mine ++ N 2 p.Yours = headP p := rfl
  rw [hd]
  have hs := headP_size p
  have l10 : Wp (fun k => impl_FormPacket_l10 k b w (bodyP p)) (· = tagM (bodyP p) b w ++ bodyP p) := by
    refine Wp.step ?_
    simp only [impl_FormPacket_l10]
    refine Wp.bind (implTag_ok _ b w (by omega)) (fun _ e => ?_); subst e
    refine Wp.opt (sadd_ok (by omega)) ?_
    exact Wp.ret rfl
  simp only [cbeq]
  refine Wp.ite (fun hk => ?_) (fun hk => ?_)
  · rcases g4 with ⟨_, q1, q2, _⟩ | ⟨hk2, _⟩
    · refine Wp.bind (be_ok (w := 4) (by omega) (by omega)) (fun _ e => ?_); subst e
      refine Wp.bind (be_ok (w := 1) (by omega) (by omega)) (fun _ e => ?_); subst e
      refine Wp.opt (sadd_ok (by simp [N_size])) ?_
      refine Wp.opt (sadd_ok (by simp [N_size, hs])) ?_
      have e : headP p ++ (N 4 p.Next ++ N 1 p.Mask) = bodyP p := by rw [bodyP, if_pos hk, ba_assoc]
      rw [e]; exact l10
    · omega
  · rcases g4 with ⟨hk1, _⟩ | ⟨hk2, q1, q2, q3, q4⟩
    · exact absurd hk1 hk
    have key : ∀ l, 0 ≤ l ∧ l ≤ 1000000 → headP p ++ N 4 p.Seq ++ N 1 l ++ p.Part = bodyP p → Wp (fun k => impl_FormPacket_l9 k b w (headP p) l p.Kind p.From p.Mine p.Yours p.Next p.Mask p.Seq p.Last p.Part) (· = tagM (bodyP p) b w ++ bodyP p) := fun l hl e => by
      refine Wp.step ?_
      simp only [impl_FormPacket_l9]
      refine Wp.bind (be_ok (w := 4) (by omega) (by omega)) (fun _ e => ?_); subst e
      refine Wp.bind (be_ok (w := 1) (by omega) hl) (fun _ e => ?_); subst e
      refine Wp.opt (sadd_ok (by simp [N_size])) ?_
      refine Wp.opt (sadd_ok (by simp [N_size]; omega)) ?_
      refine Wp.opt (sadd_ok (by simp [N_size, hs]; omega)) ?_
      rw [show headP p ++ (N 4 p.Seq ++ N 1 l ++ p.Part) = bodyP p by rw [← e]; simp only [ba_assoc]]
      exact l10
    have hb0 : bodyP p = headP p ++ N 4 p.Seq ++ N 1 (lastI p.Last) ++ p.Part := by rw [bodyP, if_neg hk]
    cases hl : p.Last
    · rw [hl] at hb0
      have := key 0 (by omega) hb0.symm
      rw [hl] at this
      exact this
    · rw [hl] at hb0
      have := key 1 (by omega) hb0.symm
      rw [hl] at this
      exact this
theorem formM_size (p : DPacket) (b : ByteArray) (w : Int) : (formM p b w).size ≤ 39 := by
  unfold formM
  split
  · rename_i h
    rw [ba_size_append]
    have := bodyP_size p h.1
    have := tagM_size (bodyP p) b w
    omega
  · simp [noB_size]
end Km.X
namespace Km.X
open Go Km
set_option linter.unusedVariables false
set_option linter.unusedSimpArgs false
def numL (l : List UInt8) : Int := l.foldl (fun v c => v * 256 + (c.toNat : Int)) 0
theorem num_bound : ∀ (l : List UInt8) (v : Int) (n : Nat), 0 ≤ v ∧ v < 256 ^ n → 0 ≤ l.foldl (fun v c => v * 256 + (c.toNat : Int)) v ∧ l.foldl (fun v c => v * 256 + (c.toNat : Int)) v < 256 ^ (n + l.length)
  | [], v, n, h => h
  | c :: l, v, n, h => by
    have hc := c.toNat_lt
    have := num_bound l (v * 256 + (c.toNat : Int)) (n + 1) (by rw [Int.pow_succ]; omega)
    rw [List.foldl_cons, List.length_cons, show n + (l.length + 1) = n + 1 + l.length by omega]
    exact this
theorem pow_le8 {n : Nat} (h : n ≤ 6) : (256 : Int) ^ n ≤ 281474976710656 := by
  have : n = 0 ∨ n = 1 ∨ n = 2 ∨ n = 3 ∨ n = 4 ∨ n = 5 ∨ n = 6 := by omega
  rcases this with rfl | rfl | rfl | rfl | rfl | rfl | rfl <;> decide
theorem read_loop (s : ByteArray) : ∀ (t pre : List UInt8) (v : Int), s.data.toList = pre ++ t → s.size ≤ 6 → 0 ≤ v ∧ v < 256 ^ pre.length →
    Wp (fun k => spec_l1Read_l3 k s v (pre.length : Int)) (· = t.foldl (fun v c => v * 256 + (c.toNat : Int)) v)
  | [], pre, v, h, hs, hv => by
    refine Wp.step ?_
    have := size_mid h
    simp only [List.length_nil] at this
    simp only [spec_l1Read_l3]
    simp (disch := omega) only [cbdec, if_neg]
    exact Wp.ret rfl
  | c :: t, pre, v, h, hs, hv => by
    refine Wp.step ?_
    have hl := size_mid h
    simp only [List.length_cons] at hl
    have hp := pow_le8 (n := pre.length) (by omega)
    have hc := c.toNat_lt
    simp only [spec_l1Read_l3]
    simp (disch := omega) only [cbdec, if_pos, bidx_mid h, Option.bind_some, w64']
    have ih := read_loop s t (pre ++ [c]) (v * 256 + (c.toNat : Int)) (by simpa using h) hs (by
      rw [List.length_append, List.length_singleton, Int.pow_succ]; omega)
    rwa [← mid_len] at ih
theorem read_ok (s : ByteArray) (h : s.size ≤ 6) : Wp (fun k => spec_l1Read k s) (· = numL s.data.toList) := read_loop s s.data.toList [] 0 rfl h (by decide)
theorem or_low (n c : Nat) (h : c < 256) : (n * 256) ||| c = n * 256 + c := by
  have := Nat.shiftLeft_add_eq_or_of_lt (a := n) (i := 8) (b := c) (by simpa using h)
  rw [Nat.shiftLeft_eq] at this
  simpa using this.symm
theorem bitsOr_low (n c : Nat) (hn : n < 281474976710656) (hc : c < 256) : bitsOr .i64 ((n * 256 : Nat) : Int) (c : Int) = ((n * 256 + c : Nat) : Int) := by
  have e : ∀ m : Nat, BitVec.ofInt 64 (m : Int) = BitVec.ofNat 64 m := fun m => by
    apply BitVec.eq_of_toNat_eq
    simp [BitVec.toNat_ofInt]
  show IntKind.wrap .i64 ((BitVec.ofInt 64 ((n * 256 : Nat) : Int) ||| BitVec.ofInt 64 (c : Int)).toNat : Int) = _
  rw [e, e, BitVec.toNat_or, BitVec.toNat_ofNat, BitVec.toNat_ofNat, Nat.mod_eq_of_lt (by omega), Nat.mod_eq_of_lt (by omega), or_low n c hc]
  exact w64' (by omega) (by omega)
theorem shl8 (n : Nat) (h : n < 36028797018963968) : shift .shl .i64 (n : Int) 8 = some ((n * 256 : Nat) : Int) := by
  simp only [shift]
  rw [if_neg (by omega)]
  congr 1
  rw [show (Int.toNat 8) = 8 from rfl, show min 8 IntKind.i64.bits = 8 from rfl]
  rw [w64' (by omega) (by omega)]
  simp
theorem num_loop (s : ByteArray) : ∀ (t pre : List UInt8) (v : Nat), s.data.toList = pre ++ t → s.size ≤ 6 → (v : Int) < 256 ^ pre.length →
    Wp (fun k => impl_num_l3 k s (v : Int) (pre.length : Int)) (· = t.foldl (fun v c => v * 256 + (c.toNat : Int)) (v : Int))
  | [], pre, v, h, hs, hv => by
    refine Wp.step ?_
    have := size_mid h
    simp only [List.length_nil] at this
    simp only [impl_num_l3]
    simp (disch := omega) only [cbdec, if_neg]
    exact Wp.ret rfl
  | c :: t, pre, v, h, hs, hv => by
    refine Wp.step ?_
    have hl := size_mid h
    simp only [List.length_cons] at hl
    have hp := pow_le8 (n := pre.length) (by omega)
    have hp' := pow_le8 (n := pre.length + 1) (by omega)
    rw [Int.pow_succ] at hp'
    have hc := c.toNat_lt
    simp only [impl_num_l3]
    simp (disch := omega) only [cbdec, if_pos, bidx_mid h, Option.bind_some, w64', shl8, bitsOr_low]
    have ih := num_loop s t (pre ++ [c]) (v * 256 + c.toNat) (by simpa using h) hs (by
      rw [List.length_append, List.length_singleton, Int.pow_succ]; omega)
    rw [← mid_len] at ih
    rw [List.foldl_cons]
    have e : ((v * 256 + c.toNat : Nat) : Int) = (v : Int) * 256 + (c.toNat : Int) := by omega
    rw [e] at ih ⊢
    exact ih
theorem num_ok (s : ByteArray) (h : s.size ≤ 6) : Wp (fun k => impl_num k s) (· = numL s.data.toList) := num_loop s s.data.toList [] 0 rfl h (by decide)

def at' (b : ByteArray) (i : Nat) : UInt8 := b.data.toList.getD i 0
theorem bidx_at {b : ByteArray} {i : Nat} (h : i < b.size) : bidx b (i : Int) = some (at' b i) := by
  unfold bidx at'
  rw [if_neg (by omega), Int.toNat_natCast]
  have e : b[i]? = some (b[i]'h) := by simp [h]
  rw [e]
  have : b.data.toList[i]? = some (b[i]'h) := by
    rw [Array.getElem?_toList, Array.getElem?_eq_getElem (show i < b.data.size from h)]; rfl
  rw [List.getD_eq_getElem?_getD, this]; rfl
def zeroP : DPacket := ⟨0, 0, 0, 0, 0, 0, 0, false, noB⟩
def numS (b : ByteArray) (i j : Nat) : Int := numL (b.extract i j).data.toList
/-- what a body may be the body of -/
def candP (b : ByteArray) : DPacket :=
  if ((at' b 0).toNat : Int) = 1 then ⟨(at' b 0).toNat, (at' b 1).toNat, numS b 2 4, numS b 4 6, numS b 6 10, (at' b 10).toNat, 0, false, noB⟩
  else ⟨(at' b 0).toNat, (at' b 1).toNat, numS b 2 4, numS b 4 6, 0, 0, numS b 6 10, (((at' b 10).toNat : Int) == 1), b.extract 11 b.size⟩
def readM (s b : ByteArray) (w : Int) : DPacket × Bool :=
  if (1 ≤ w ∧ w ≤ 8) ∧ w + 11 ≤ s.size then (if formM (candP (s.extract w.toNat s.size)) b w = s then (candP (s.extract w.toNat s.size), true) else (zeroP, false)) else (zeroP, false)
theorem ext_size (s : ByteArray) (i j : Nat) : (s.extract i j).size = min j s.size - i := by simp
theorem wu (c : UInt8) : IntKind.wrap .i64 (c.toNat : Int) = (c.toNat : Int) := by have := c.toNat_lt; exact w64' (by omega) (by omega)
theorem specRead_ok (s b : ByteArray) (w : Int) (hs : s.size ≤ 1048576) : Wp (fun k => spec_ReadPacket k s b w) (· = readM s b w) := by
  unfold spec_ReadPacket readM
  refine Wp.bind (l1In_ok _ _ _) (fun _ e => ?_); subst e
  simp only [inB, cbnot, cbdec]
  refine Wp.ite (fun h1 => ?_) (fun h1 => Wp.ret (by rw [if_neg (fun h => h1 h.1)]; rfl))
  rw [w64' (by omega) (by omega)]
  refine Wp.ite (fun h2 => Wp.ret (by rw [if_neg (fun h => by omega)]; rfl)) (fun h2 => ?_)
  rw [if_pos ⟨h1, by omega⟩]
  refine Wp.opt (wnd_ok (by omega)) ?_
  dsimp only
  rw [Int.toNat_natCast]
  have hsz : (s.extract w.toNat s.size).size = s.size - w.toNat := by rw [ext_size]; omega
  have hge : 11 ≤ (s.extract w.toNat s.size).size := by omega
  generalize hb : s.extract w.toNat s.size = B at hsz hge ⊢
  have key : ∀ p : DPacket, Wp (fun k => (spec_FormPacket k p b w).bind fun r16 =>
      bif (!(r16.toList == s.toList)) then some (zeroP, false) else some (p, true)) (· = if formM p b w = s then (p, true) else (zeroP, false)) := fun p => by
    refine Wp.bind (specForm_ok p b w) (fun _ e => ?_); subst e
    simp only [cbnot, cbseq]
    exact Wp.ite (fun h => Wp.ret (by rw [if_pos h])) (fun h => Wp.ret (by rw [if_neg h]))
  have hBs : B.size ≤ 1048576 := by omega
  refine Wp.opt (bidx_at (i := 0) (by omega)) ?_
  refine Wp.opt (bidx_at (i := 1) (by omega)) ?_
  refine Wp.opt (wnd_ok (by omega)) ?_
  refine Wp.bind (read_ok _ (by rw [ext_size]; simp; omega)) (fun _ e => ?_); subst e
  refine Wp.opt (wnd_ok (by omega)) ?_
  refine Wp.bind (read_ok _ (by rw [ext_size]; simp; omega)) (fun _ e => ?_); subst e
  simp only [wu, cbeq]
  refine Wp.ite (fun hk => ?_) (fun hk => ?_)
  · refine Wp.opt (wnd_ok (by omega)) ?_
    refine Wp.bind (read_ok _ (by rw [ext_size]; simp; omega)) (fun _ e => ?_); subst e
    refine Wp.opt (bidx_at (i := 10) (by omega)) ?_
    refine Wp.step ?_
    simp only [spec_ReadPacket_l11, wu]
    have := key (candP B)
    unfold candP at this ⊢
    rw [if_pos hk] at this ⊢
    exact this
  · refine Wp.opt (wnd_ok (by omega)) ?_
    refine Wp.bind (read_ok _ (by rw [ext_size]; simp; omega)) (fun _ e => ?_); subst e
    refine Wp.opt (bidx_at (i := 10) (by omega)) ?_
    refine Wp.opt (wnd_ok (by omega)) ?_
    refine Wp.step ?_
    simp only [spec_ReadPacket_l11, wu]
    have := key (candP B)
    unfold candP at this ⊢
    rw [if_neg hk] at this ⊢
    exact this
theorem form_no {p : DPacket} {b s : ByteArray} {w : Int} (h : ¬ (Fits p ∧ b.size ≤ 30)) (hs : 11 ≤ s.size) : formM p b w ≠ s := by
  unfold formM
  rw [if_neg (fun h' => h ⟨h'.1, h'.2.2⟩)]
  intro e
  rw [← e] at hs
  simp [noB_size] at hs
theorem implRead_ok (s b : ByteArray) (w : Int) (hs : s.size ≤ 1048576) : Wp (fun k => impl_ReadPacket k s b w) (· = readM s b w) := by
  unfold impl_ReadPacket readM
  simp only [cbdec]
  refine Wp.ite (fun h1 => Wp.ret (by rw [if_neg (fun h => by omega)]; rfl)) (fun h1 => ?_)
  refine Wp.ite (fun h2 => Wp.ret (by rw [if_neg (fun h => by omega)]; rfl)) (fun h2 => ?_)
  refine Wp.ite (fun h3 => Wp.ret ?_) (fun h3 => ?_)
  · split
    · rename_i h
      rw [if_neg (form_no (fun h' => by omega) (by omega))]; rfl
    · rfl
  rw [w64' (by omega) (by omega)]
  refine Wp.ite (fun h4 => Wp.ret (by rw [if_neg (fun h => by omega)]; rfl)) (fun h4 => ?_)
  rw [if_pos ⟨by omega, by omega⟩]
  refine Wp.opt (wnd_ok (by omega)) ?_
  dsimp only
  rw [Int.toNat_natCast]
  have hsz : (s.extract w.toNat s.size).size = s.size - w.toNat := by rw [ext_size]; omega
  have hge : 11 ≤ (s.extract w.toNat s.size).size := by omega
  generalize hb : s.extract w.toNat s.size = B at hsz hge ⊢
  have key : ∀ p : DPacket, Wp (fun k => (impl_validPacket k p).bind fun r15 => bif (!r15) then some (zeroP, false) else (impl_FormPacket k p b w).bind fun r16 =>
      bif (!(r16.toList == s.toList)) then some (zeroP, false) else some (p, true)) (· = if formM p b w = s then (p, true) else (zeroP, false)) := fun p => by
    refine Wp.bind (validPacket_ok p) (fun _ e => ?_); subst e
    simp only [cbnot, cbdec]
    refine Wp.ite (fun hf => ?_) (fun hf => Wp.ret (by rw [if_neg (form_no (fun h' => hf h'.1) (by omega))]))
    refine Wp.bind (implForm_ok p b w) (fun _ e => ?_); subst e
    simp only [cbnot, cbseq]
    exact Wp.ite (fun h => Wp.ret (by rw [if_pos h])) (fun h => Wp.ret (by rw [if_neg h]))
  have hBs : B.size ≤ 1048576 := by omega
  refine Wp.opt (bidx_at (i := 0) (by omega)) ?_
  refine Wp.opt (bidx_at (i := 1) (by omega)) ?_
  refine Wp.opt (wnd_ok (by omega)) ?_
  refine Wp.bind (num_ok _ (by rw [ext_size]; simp; omega)) (fun _ e => ?_); subst e
  refine Wp.opt (wnd_ok (by omega)) ?_
  refine Wp.bind (num_ok _ (by rw [ext_size]; simp; omega)) (fun _ e => ?_); subst e
  simp only [wu, cbeq]
  refine Wp.ite (fun hk => ?_) (fun hk => ?_)
  · refine Wp.opt (wnd_ok (by omega)) ?_
    refine Wp.bind (num_ok _ (by rw [ext_size]; simp; omega)) (fun _ e => ?_); subst e
    refine Wp.opt (bidx_at (i := 10) (by omega)) ?_
    refine Wp.step ?_
    simp only [impl_ReadPacket_l10, wu]
    have := key (candP B)
    unfold candP at this ⊢
    rw [if_pos hk] at this ⊢
    exact this
  · refine Wp.ite (fun hk2 => ?_) (fun hk2 => ?_)
    · refine Wp.opt (wnd_ok (by omega)) ?_
      refine Wp.bind (num_ok _ (by rw [ext_size]; simp; omega)) (fun _ e => ?_); subst e
      refine Wp.opt (bidx_at (i := 10) (by omega)) ?_
      refine Wp.opt (wnd_ok (by omega)) ?_
      refine Wp.step ?_
      simp only [impl_ReadPacket_l10, wu]
      have := key (candP B)
      unfold candP at this ⊢
      rw [if_neg hk] at this ⊢
      exact this
    · refine Wp.step ?_
      simp only [impl_ReadPacket_l10, wu]
      have hno : ¬ Fits (candP B) := fun hf => by
        have hK : (candP B).Kind = 1 ∨ (candP B).Kind = 2 := by rcases hf.2.2.2 with h | h <;> omega
        unfold candP at hK
        rw [if_neg hk] at hK
        exact hK.elim hk hk2
      rw [if_neg (form_no (fun h => hno h.1) (by omega))]
      refine Wp.bind (validPacket_ok _) (fun _ e => ?_); subst e
      rw [decide_eq_false]
      · exact Wp.ret rfl
      · intro hf
        have hK : (((at' B 0).toNat : Int)) = 1 ∨ (((at' B 0).toNat : Int)) = 2 := hf.2.2.2.elim (fun h => .inl h.1) (fun h => .inr h.1)
        exact hK.elim hk hk2
end Km.X
namespace Km.X
open Go Km
set_option linter.unusedVariables false
set_option linter.unusedSimpArgs false
/-! ### what is written is read back -/
def dl (b : ByteArray) : List UInt8 := b.data.toList
theorem dl_append (a b : ByteArray) : dl (a ++ b) = dl a ++ dl b := by unfold dl; rw [ByteArray.data_append, Array.toList_append]
theorem dl_inj {a b : ByteArray} (h : dl a = dl b) : a = b := by
  apply ByteArray.ext; apply Array.ext'; exact h
theorem dl_size (b : ByteArray) : (dl b).length = b.size := by unfold dl; rw [Array.length_toList]; rfl
theorem dl_bstr (bs : List Int) : dl (bstr bs) = bs.map fun n => UInt8.ofNat n.toNat := by
  induction bs with
  | nil => rfl
  | cons b bs ih =>
    rw [← bstr_cons, dl_append, ih]
    rfl
theorem dl_extract (b : ByteArray) (i j : Nat) : dl (b.extract i j) = (dl b).extract i j := by
  simp [dl]
def dg (w n : Nat) : List UInt8 := (bytesL w n).map fun n => UInt8.ofNat n.toNat
theorem dg_length (w n : Nat) : (dg w n).length = w := by simp [dg, bytesL_length]
theorem dl_N (w : Nat) (x : Int) : dl (N w x) = dg w x.toNat := by rw [N, dl_bstr]; rfl
theorem byte_nat (m : Nat) : (UInt8.ofNat ((m % 256 : Nat) : Int).toNat).toNat = m % 256 := by
  rw [Int.toNat_natCast, UInt8.toNat_ofNat']; omega
theorem num_dg : ∀ (w n : Nat), n < 256 ^ w → numL (dg w n) = (n : Int)
  | 0, n, h => by
    have : n = 0 := by simpa using h
    subst this; rfl
  | w + 1, n, h => by
    have ih := num_dg w (n / 256) (by rw [Nat.pow_succ] at h; omega)
    unfold numL dg at *
    simp only [bytesL, List.map_append, List.foldl_append, ih]
    simp only [List.map_cons, List.map_nil, List.foldl_cons, List.foldl_nil, byte_nat]
    omega
theorem dg1 (n : Nat) : dg 1 n = [UInt8.ofNat ((n % 256 : Nat) : Int).toNat] := rfl
theorem at_list {b : ByteArray} {l : List UInt8} (h : dl b = l) (i : Nat) : at' b i = l.getD i 0 := by unfold at'; rw [← h]; rfl
theorem numS_list {b : ByteArray} {l : List UInt8} (h : dl b = l) (i j : Nat) : numS b i j = numL (l.extract i j) := by
  unfold numS; rw [← h, ← dl_extract]; rfl
theorem dg_split (a : Nat) (w n : Nat) (l r : List UInt8) (h : l.length = a) : (l ++ (dg w n ++ r)).extract a (a + w) = dg w n := by
  rw [List.extract_eq_take_drop, List.drop_left' h, show a + w - a = w by omega, List.take_left' (dg_length w n)]
theorem get_split (a : Nat) (n : Nat) (l r : List UInt8) (h : l.length = a) : (l ++ (dg 1 n ++ r)).getD a 0 = UInt8.ofNat ((n % 256 : Nat) : Int).toNat := by
  rw [List.getD_eq_getElem?_getD, List.getElem?_append_right (by omega), h, Nat.sub_self, dg1]; rfl
theorem extract_all (b : ByteArray) (i : Nat) : dl (b.extract i b.size) = (dl b).drop i := by
  rw [dl_extract, List.extract_eq_take_drop, List.take_of_length_le]
  simp [dl_size]
theorem cand_body (p : DPacket) (h : Fits p) : candP (bodyP p) = p := by
  obtain ⟨k, fr, mi, yo, ne, ma, se, la, pa⟩ := p
  obtain ⟨h1, h2, h3, h4⟩ := h
  dsimp only at h1 h2 h3 h4
  have hk : k = 1 ∨ k = 2 := by rcases h4 with h | h <;> omega
  have hfr : ((fr.toNat % 256 : Nat) : Int) = fr := by omega
  -- the head
  have hd : ∀ rest, dl (headP ⟨k, fr, mi, yo, ne, ma, se, la, pa⟩ ++ rest) = dg 1 k.toNat ++ (dg 1 fr.toNat ++ (dg 2 mi.toNat ++ (dg 2 yo.toNat ++ dl rest))) := fun rest => by
    simp only [headP, dl_append, dl_N, List.append_assoc]
  have len : ∀ w n, (dg w n).length = w := dg_length
  have main : ∀ (b : ByteArray) (x y : Nat) (tail : List UInt8), dl b = dg 1 k.toNat ++ (dg 1 fr.toNat ++ (dg 2 mi.toNat ++ (dg 2 yo.toNat ++ (dg 4 x ++ (dg 1 y ++ tail))))) →
      ((at' b 0).toNat : Int) = k ∧ ((at' b 1).toNat : Int) = fr ∧ numS b 2 4 = mi ∧ numS b 4 6 = yo ∧ (x < 256 ^ 4 → numS b 6 10 = (x : Int)) ∧ ((at' b 10).toNat : Int) = ((y % 256 : Nat) : Int) ∧ (dl b).drop 11 = tail := fun b x y tail hb => by
    refine ⟨?_, ?_, ?_, ?_, fun hx => ?_, ?_, ?_⟩
    · rw [at_list hb]
      have := get_split 0 k.toNat [] (dg 1 fr.toNat ++ (dg 2 mi.toNat ++ (dg 2 yo.toNat ++ (dg 4 x ++ (dg 1 y ++ tail))))) rfl
      rw [List.nil_append] at this
      rw [this, byte_nat]; omega
    · rw [at_list hb, get_split 1 fr.toNat (dg 1 k.toNat) _ (len _ _), byte_nat]; omega
    · rw [numS_list hb]
      have e : dg 1 k.toNat ++ (dg 1 fr.toNat ++ (dg 2 mi.toNat ++ (dg 2 yo.toNat ++ (dg 4 x ++ (dg 1 y ++ tail))))) = (dg 1 k.toNat ++ dg 1 fr.toNat) ++ (dg 2 mi.toNat ++ (dg 2 yo.toNat ++ (dg 4 x ++ (dg 1 y ++ tail)))) := by simp
      rw [e, dg_split 2 2 mi.toNat _ _ (by simp [len]), num_dg 2 _ (by have : (256:Nat)^2 = 65536 := rfl; omega)]; omega
    · rw [numS_list hb]
      have e : dg 1 k.toNat ++ (dg 1 fr.toNat ++ (dg 2 mi.toNat ++ (dg 2 yo.toNat ++ (dg 4 x ++ (dg 1 y ++ tail))))) = (dg 1 k.toNat ++ dg 1 fr.toNat ++ dg 2 mi.toNat) ++ (dg 2 yo.toNat ++ (dg 4 x ++ (dg 1 y ++ tail))) := by simp
      rw [e, dg_split 4 2 yo.toNat _ _ (by simp [len]), num_dg 2 _ (by have : (256:Nat)^2 = 65536 := rfl; omega)]; omega
    · rw [numS_list hb]
      have e : dg 1 k.toNat ++ (dg 1 fr.toNat ++ (dg 2 mi.toNat ++ (dg 2 yo.toNat ++ (dg 4 x ++ (dg 1 y ++ tail))))) = (dg 1 k.toNat ++ dg 1 fr.toNat ++ dg 2 mi.toNat ++ dg 2 yo.toNat) ++ (dg 4 x ++ (dg 1 y ++ tail)) := by simp
      rw [e, dg_split 6 4 x _ _ (by simp [len]), num_dg 4 _ hx]
    · have e : dg 1 k.toNat ++ (dg 1 fr.toNat ++ (dg 2 mi.toNat ++ (dg 2 yo.toNat ++ (dg 4 x ++ (dg 1 y ++ tail))))) = (dg 1 k.toNat ++ dg 1 fr.toNat ++ dg 2 mi.toNat ++ dg 2 yo.toNat ++ dg 4 x) ++ (dg 1 y ++ tail) := by simp
      rw [at_list hb, e, get_split 10 y _ _ (by simp [len]), byte_nat]
    · rw [hb]
      have e : dg 1 k.toNat ++ (dg 1 fr.toNat ++ (dg 2 mi.toNat ++ (dg 2 yo.toNat ++ (dg 4 x ++ (dg 1 y ++ tail))))) = (dg 1 k.toNat ++ dg 1 fr.toNat ++ dg 2 mi.toNat ++ dg 2 yo.toNat ++ dg 4 x ++ dg 1 y) ++ tail := by simp
      rw [e, List.drop_left' (by simp [len])]
  have p4 : (256:Nat)^4 = 4294967296 := rfl
  rcases h4 with ⟨k1, g1, g2, g3, g4, g5⟩ | ⟨k2, g1, g2, g3, g4⟩
  · have hb : dl (bodyP ⟨k, fr, mi, yo, ne, ma, se, la, pa⟩) = dg 1 k.toNat ++ (dg 1 fr.toNat ++ (dg 2 mi.toNat ++ (dg 2 yo.toNat ++ (dg 4 ne.toNat ++ (dg 1 ma.toNat ++ []))))) := by
      unfold bodyP; rw [if_pos k1, ba_assoc, hd, dl_append, dl_N, dl_N, List.append_nil]
    obtain ⟨a1, a2, a3, a4, a5, a6, a7⟩ := main _ _ _ _ hb
    unfold candP
    rw [if_pos (by rw [a1]; exact k1), a1, a2, a3, a4, a5 (by omega), a6]
    subst g3; subst g4; subst g5
    congr 1 <;> omega
  · have hb : dl (bodyP ⟨k, fr, mi, yo, ne, ma, se, la, pa⟩) = dg 1 k.toNat ++ (dg 1 fr.toNat ++ (dg 2 mi.toNat ++ (dg 2 yo.toNat ++ (dg 4 se.toNat ++ (dg 1 (lastI la).toNat ++ dl pa))))) := by
      unfold bodyP; rw [if_neg (by show ¬ k = 1; omega)]
      rw [show headP ⟨k, fr, mi, yo, ne, ma, se, la, pa⟩ ++ N 4 se ++ N 1 (lastI la) ++ pa = headP ⟨k, fr, mi, yo, ne, ma, se, la, pa⟩ ++ (N 4 se ++ (N 1 (lastI la) ++ pa)) by rw [ba_assoc, ba_assoc], hd]
      simp only [dl_append, dl_N]
    obtain ⟨a1, a2, a3, a4, a5, a6, a7⟩ := main _ _ _ _ hb
    unfold candP
    rw [if_neg (by rw [a1]; omega), a1, a2, a3, a4, a5 (by omega), a6]
    have epa : (bodyP ⟨k, fr, mi, yo, ne, ma, se, la, pa⟩).extract 11 (bodyP ⟨k, fr, mi, yo, ne, ma, se, la, pa⟩).size = pa := dl_inj (by rw [extract_all, a7])
    rw [epa]
    have ela : (((((lastI la).toNat % 256 : Nat) : Int)) == 1) = la := by cases la <;> rfl
    rw [ela]
    subst g1; subst g2
    congr 1; omega
theorem tagM_sz (a b : ByteArray) (w : Int) (hw : 1 ≤ w ∧ w ≤ 8) (hb : b.size ≤ 30) : (tagM a b w).size = w.toNat := by
  unfold tagM; rw [if_neg (by omega), bstr_size, bytesL_length]
theorem body_min (p : DPacket) (h : Fits p) : 11 ≤ (bodyP p).size := by
  have hs := headP_size p
  unfold bodyP
  split <;> simp [N_size, hs] <;> omega
theorem form_eq {p : DPacket} {b : ByteArray} {w : Int} (h : Fits p) (hw : 1 ≤ w ∧ w ≤ 8) (hb : b.size ≤ 30) : formM p b w = tagM (bodyP p) b w ++ bodyP p := by
  unfold formM; rw [if_pos ⟨h, hw, hb⟩]
theorem form_size {p : DPacket} {b : ByteArray} {w : Int} (h : Fits p) (hw : 1 ≤ w ∧ w ≤ 8) (hb : b.size ≤ 30) : (formM p b w).size = w.toNat + (bodyP p).size := by
  rw [form_eq h hw hb, ba_size_append, tagM_sz _ _ _ hw hb]
theorem form_rest {p : DPacket} {b : ByteArray} {w : Int} (h : Fits p) (hw : 1 ≤ w ∧ w ≤ 8) (hb : b.size ≤ 30) : (formM p b w).extract w.toNat (formM p b w).size = bodyP p := by
  apply dl_inj
  rw [extract_all, form_eq h hw hb, dl_append, List.drop_left']
  rw [dl_size, tagM_sz _ _ _ hw hb]
theorem read_form {p : DPacket} {b : ByteArray} {w : Int} (h : Fits p) (hw : 1 ≤ w ∧ w ≤ 8) (hb : b.size ≤ 30) : readM (formM p b w) b w = (p, true) := by
  unfold readM
  have := body_min p h
  rw [if_pos ⟨hw, by rw [form_size h hw hb]; omega⟩, form_rest h hw hb, cand_body p h, if_pos rfl]
/-- what reads is the form of what was read -/
theorem readM_true {s b : ByteArray} {w : Int} (h : (readM s b w).2 = true) : formM (readM s b w).1 b w = s ∧ Fits (readM s b w).1 ∧ (1 ≤ w ∧ w ≤ 8) ∧ w + 11 ≤ s.size ∧ b.size ≤ 30 := by
  unfold readM at h ⊢
  split at h
  · rename_i hc
    rw [if_pos hc]
    split at h
    · rename_i hf
      rw [if_pos hf]
      refine ⟨hf, ?_⟩
      have : ¬ ¬ (Fits (candP (s.extract w.toNat s.size)) ∧ b.size ≤ 30) := fun hn => form_no (s := s) hn (by omega) hf
      have := Classical.not_not.mp this
      exact ⟨this.1, hc.1, hc.2, this.2⟩
    · cases h
  · cases h
theorem readM_false {s b : ByteArray} {w : Int} (h : (readM s b w).2 = false) : readM s b w = (zeroP, false) := by
  unfold readM at h ⊢
  split at h
  · rename_i hc
    rw [if_pos hc]
    split at h
    · cases h
    · rename_i hf; rw [if_neg hf]
  · rename_i hc; rw [if_neg hc]
theorem form_inj {p q : DPacket} {b : ByteArray} {w : Int} (hp : Fits p) (hq : Fits q) (hw : 1 ≤ w ∧ w ≤ 8) (hb : b.size ≤ 30) (h : formM p b w = formM q b w) : p = q := by
  have h1 := read_form hp hw hb
  rw [h, read_form hq hw hb] at h1
  exact (Prod.mk.inj h1).1.symm
end Km.X
namespace Km.X
open Go Km
set_option linter.unusedVariables false
set_option linter.unusedSimpArgs false
/-! ### picks -/
theorem Wp.pick {R : Type} {Q : R → Prop} {g : Nat → Int × DL1Rd → Option R} {r : DL1Rd} {n a : Int} (h : Rd n r) (hn : n ≤ 1000000) (ha : 1 ≤ a ∧ a ≤ 1000000) (H : ∀ q r', 0 ≤ q → q < a → Rd (n + 1) r' → Wp (fun k => g k (q, r')) Q) : Wp (fun k => (spec_l1Rd_pick k r a).bind (g k)) Q :=
  Wp.bind (pick_ok r n a h hn ha) (fun v hv => H v.1 v.2 hv.1.1 hv.1.2 hv.2)
theorem Wp.from {R α : Type} {Q : R → Prop} {xs : List α} {i : Int} {g : Nat → α → Option R} (h0 : 0 ≤ i) (h1 : i < xs.length) (H : ∀ y ∈ xs, Wp (fun k => g k y) Q) : Wp (fun k => (idx xs i).bind (g k)) Q := by
  obtain ⟨y, hy, e, _⟩ := idx_any h0 h1
  exact Wp.opt e (H y hy)
theorem Wp.from2 {R α : Type} {Q : R → Prop} {xs : List α} {i : Int} {g : Nat → α → Option R} (h0 : 0 ≤ i) (h1 : i < xs.length) (H : ∀ y ∈ xs, Wp (fun k => g k y) Q) : Wp (fun k => (idx xs i).bind fun _ => (xs[i.toNat]?).bind (g k)) Q := by
  obtain ⟨y, hy, e, e'⟩ := idx_any h0 h1
  exact Wp.opt e (Wp.opt e' (H y hy))
theorem key_ok (r : DL1Rd) (n : Int) (h : Rd n r) (hn : n ≤ 900000) : Wp (fun k => spec_l1Key k r) (fun v => v.1.size ≤ 30 ∧ Rd (n + 1) v.2) := by
  unfold spec_l1Key
  refine Wp.bind (many_ok _ _ 30 (by omega) (by show 1 * 30 ≤ 30; omega) (by omega)) (fun m hm => ?_)
  refine Wp.pick h (by omega) (by omega) (fun q r' q0 q1 h' => ?_)
  dsimp only
  refine Wp.from2 q0 (by simp; omega) (fun y hy => ?_)
  refine Wp.ret ⟨?_, h'⟩
  simp only [List.mem_cons, List.not_mem_nil, or_false] at hy
  rcases hy with rfl | rfl | rfl | rfl
  · exact (by decide : (3 : Nat) ≤ 30)
  · exact (by decide : (1 : Nat) ≤ 30)
  · exact (by decide : (0 : Nat) ≤ 30)
  · exact hm
theorem width_ok (r : DL1Rd) (n : Int) (h : Rd n r) (hn : n ≤ 900000) : Wp (fun k => spec_l1Width k r) (fun v => (1 ≤ v.1 ∧ v.1 ≤ 8) ∧ Rd (n + 1) v.2) := by
  unfold spec_l1Width
  refine Wp.pick h (by omega) (by omega) (fun q r' q0 q1 h' => ?_)
  dsimp only
  refine Wp.from q0 (by simp; omega) (fun y hy => ?_)
  refine Wp.ret ⟨?_, h'⟩
  simp only [List.mem_cons, List.not_mem_nil, or_false] at hy
  omega
theorem drawTag_ok (a : List Int) (h : ∀ y ∈ a, wf_byte y) : Wp (fun k => spec_DrawTag k a) (fun v => v.1.size ≤ 190 ∧ v.2.1.size ≤ 31 ∧ (-1 ≤ v.2.2 ∧ v.2.2 ≤ 9)) := by
  unfold spec_DrawTag
  refine Wp.bind (open_ok a h) (fun r h0 => ?_)
  refine Wp.bind (message_ok r _ h0 (by omega)) (fun m hm => ?_)
  refine Wp.bind (key_ok m.2 _ hm.2 (by omega)) (fun ky hk => ?_)
  refine Wp.bind (width_ok ky.2 _ hk.2 (by omega)) (fun w hw => ?_)
  refine Wp.pick hw.2 (by omega) (by omega) (fun q r' q0 q1 h' => ?_)
  have fin : ∀ (x y : ByteArray) (z : Int), x.size ≤ 190 → y.size ≤ 31 → (-1 ≤ z ∧ z ≤ 9) → Wp (fun k => spec_DrawTag_l10 k x y z) (fun v => v.1.size ≤ 190 ∧ v.2.1.size ≤ 31 ∧ (-1 ≤ v.2.2 ∧ v.2.2 ≤ 9)) := fun x y z h1 h2 h3 => by
    refine Wp.step ?_
    simp only [spec_DrawTag_l10]
    exact Wp.ret ⟨h1, h2, h3⟩
  simp only [cbeq]
  have := hk.1
  refine Wp.ite (fun _ => ?_) (fun _ => ?_)
  · refine Wp.pick h' (by omega) (by omega) (fun q r' q0 q1 h' => ?_)
    dsimp only
    refine Wp.from q0 (by simp; omega) (fun y hy => ?_)
    simp only [List.mem_cons, List.not_mem_nil, or_false] at hy
    exact fin _ _ _ hm.1 (by omega) (by omega)
  · refine Wp.ite (fun _ => ?_) (fun _ => ?_)
    · refine Wp.bind (many_ok _ _ 31 (by omega) (by show 1 * 31 ≤ 31; omega) (by omega)) (fun m hm' => ?_)
      exact fin _ _ _ hm.1 hm' (by omega)
    · exact fin _ _ _ hm.1 (by omega) (by omega)
/-! ### drawn packets -/
theorem l2Draw_ok (r : DL1Rd) (n : Int) (h : Rd n r) (hn : n ≤ 900000) : Wp (fun k => spec_l2Draw k r) (fun v => Fits v.1 ∧ Rd (n + 10) v.2) := by
  unfold spec_l2Draw
  simp only [both_self]
  refine Wp.pick h (by omega) (by omega) (fun q1 r1 q10 q11 h1 => ?_)
  refine Wp.pick h1 (by omega) (by omega) (fun q2 r2 q20 q21 h2 => ?_)
  refine Wp.pick h2 (by omega) (by omega) (fun q3 r3 q30 q31 h3 => ?_)
  dsimp only
  refine Wp.from q30 (by simp; omega) (fun y hy => ?_)
  refine Wp.pick h3 (by omega) (by omega) (fun q4 r4 q40 q41 h4 => ?_)
  dsimp only
  refine Wp.from q40 (by simp; omega) (fun z hz => ?_)
  simp only [List.mem_cons, List.not_mem_nil, or_false] at hy hz
  rw [w64' (n := 1 + q1) (by omega) (by omega), w64' (n := 1 + q2) (by omega) (by omega)]
  simp only [cbeq]
  refine Wp.ite (fun e => ?_) (fun e => ?_)
  · refine Wp.pick h4 (by omega) (by omega) (fun q5 r5 q50 q51 h5 => ?_)
    dsimp only
    refine Wp.from q50 (by simp; omega) (fun u hu => ?_)
    refine Wp.pick h5 (by omega) (by omega) (fun q6 r6 q60 q61 h6 => ?_)
    dsimp only
    refine Wp.from q60 (by simp; omega) (fun m hm => ?_)
    simp only [List.mem_cons, List.not_mem_nil, or_false] at hu hm
    refine Wp.ret ⟨⟨by dsimp only; omega, by dsimp only; omega, by dsimp only; omega, .inl ⟨e, by dsimp only; omega, by dsimp only; omega, rfl, rfl, rfl⟩⟩, h6.mono (by omega)⟩
  · refine Wp.pick h4 (by omega) (by omega) (fun q5 r5 q50 q51 h5 => ?_)
    dsimp only
    refine Wp.from q50 (by simp; omega) (fun u hu => ?_)
    refine Wp.pick h5 (by omega) (by omega) (fun q6 r6 q60 q61 h6 => ?_)
    refine Wp.pick h6 (by omega) (by omega) (fun q7 r7 q70 q71 h7 => ?_)
    dsimp only
    refine Wp.bind (many_ok _ _ 20 (by omega) (by show 1 * _ ≤ 20; omega) (by omega)) (fun m hm => ?_)
    simp only [List.mem_cons, List.not_mem_nil, or_false] at hu
    refine Wp.ret ⟨⟨by dsimp only; omega, by dsimp only; omega, by dsimp only; omega, .inr ⟨by dsimp only; omega, rfl, rfl, by dsimp only; omega, hm⟩⟩, h7.mono (by omega)⟩
theorem fits_part {p : DPacket} (h : Fits p) : p.Part.size ≤ 20 := by
  rcases h.2.2.2 with ⟨_, _, _, _, _, e⟩ | ⟨_, _, _, _, e⟩
  · rw [e]; exact Nat.zero_le _
  · exact e
theorem l2Spoil_ok (r : DL1Rd) (p : DPacket) (n : Int) (h : Rd n r) (hn : n ≤ 900000) (hp : p.Part.size ≤ 20) : Wp (fun k => spec_l2Spoil k r p) (fun v => v.1.Part.size ≤ 21 ∧ Rd (n + 10) v.2) := by
  have fin : ∀ (r' : DL1Rd) (a b c d e f g : Int) (l : Bool) (x : ByteArray), Rd (n + 10) r' → x.size ≤ 21 → Wp (fun k => spec_l2Spoil_l21 k r'.b r'.p a b c d e f g l x 0 0 0 0 0 0 0 false (⟨#[]⟩ : ByteArray)) (fun v => v.1.Part.size ≤ 21 ∧ Rd (n + 10) v.2) := fun r' a b c d e f g l x h1 h2 => by
    refine Wp.step ?_
    simp only [spec_l2Spoil_l21]
    exact Wp.ret ⟨h2, h1⟩
  unfold spec_l2Spoil
  refine Wp.pick h (by omega) (by omega) (fun q1 r1 q10 q11 h1 => ?_)
  simp only [cbeq]
  refine Wp.ite (fun _ => ?_) (fun _ => ?_)
  · refine Wp.pick h1 (by omega) (by omega) (fun q r2 q0 q1 h2 => ?_)
    exact fin r2 _ _ _ _ _ _ _ _ _ (h2.mono (by omega)) (by omega)
  refine Wp.ite (fun _ => ?_) (fun _ => ?_)
  · refine Wp.pick h1 (by omega) (by omega) (fun q r2 q0 q1 h2 => ?_)
    dsimp only
    refine Wp.from q0 (by simp; omega) (fun y hy => ?_)
    exact fin r2 _ _ _ _ _ _ _ _ _ (h2.mono (by omega)) (by omega)
  refine Wp.ite (fun _ => ?_) (fun _ => ?_)
  · refine Wp.pick h1 (by omega) (by omega) (fun q r2 q0 q1 h2 => ?_)
    dsimp only
    refine Wp.from q0 (by simp; omega) (fun y hy => ?_)
    exact fin r2 _ _ _ _ _ _ _ _ _ (h2.mono (by omega)) (by omega)
  refine Wp.ite (fun _ => ?_) (fun _ => ?_)
  · refine Wp.pick h1 (by omega) (by omega) (fun q r2 q0 q1 h2 => ?_)
    dsimp only
    refine Wp.from q0 (by simp; omega) (fun y hy => ?_)
    exact fin r2 _ _ _ _ _ _ _ _ _ (h2.mono (by omega)) (by omega)
  refine Wp.ite (fun _ => ?_) (fun _ => ?_)
  · refine Wp.pick h1 (by omega) (by omega) (fun q r2 q0 q1 h2 => ?_)
    dsimp only
    refine Wp.from q0 (by simp; omega) (fun y hy => ?_)
    exact fin r2 _ _ _ _ _ _ _ _ _ (h2.mono (by omega)) (by omega)
  refine Wp.ite (fun _ => ?_) (fun _ => ?_)
  · refine Wp.pick h1 (by omega) (by omega) (fun q r2 q0 q1 h2 => ?_)
    dsimp only
    refine Wp.from q0 (by simp; omega) (fun y hy => ?_)
    exact fin r2 _ _ _ _ _ _ _ _ _ (h2.mono (by omega)) (by omega)
  refine Wp.ite (fun _ => ?_) (fun _ => ?_)
  · refine Wp.pick h1 (by omega) (by omega) (fun q r2 q0 q1 h2 => ?_)
    dsimp only
    refine Wp.from q0 (by simp; omega) (fun y hy => ?_)
    exact fin r2 _ _ _ _ _ _ _ _ _ (h2.mono (by omega)) (by omega)
  refine Wp.ite (fun _ => ?_) (fun _ => ?_)
  · exact fin r1 _ _ _ _ _ _ _ _ _ (h1.mono (by omega)) (by omega)
  refine Wp.ite (fun _ => ?_) (fun _ => ?_)
  · refine Wp.pick h1 (by omega) (by omega) (fun q r2 q0 q1 h2 => ?_)
    dsimp only
    rw [w64' (n := 20 + q) (by omega) (by omega)]
    refine Wp.bind (many_ok _ _ 21 (by omega) (by show 1 * _ ≤ 21; omega) (by omega)) (fun m hm => ?_)
    exact fin r2 _ _ _ _ _ _ _ _ _ (h2.mono (by omega)) hm
  · exact fin r1 _ _ _ _ _ _ _ _ _ (h1.mono (by omega)) (by decide)
theorem bend13 (s : ByteArray) (i n : Int) (r : DL1Rd) (h : Rd n r) (hs : s.size ≤ 1000) (hi : 0 ≤ i ∧ i ≤ s.size) : Wp (fun k => spec_l1Bend_l13 k s i r.b r.p) (fun v => v.1.size ≤ 2 * s.size + 1 ∧ Rd n v.2) := by
  refine Wp.step ?_
  simp only [spec_l1Bend_l13]
  refine Wp.opt (wnd_ok ⟨hi.1, hi.2, by omega⟩) ?_
  refine Wp.opt (sadd_ok (by simp; omega)) ?_
  exact Wp.ret ⟨by simp; omega, h⟩
theorem l1Bend_ok (r : DL1Rd) (s : ByteArray) (n : Int) (h : Rd n r) (hn : n ≤ 900000) (hs : s.size ≤ 1000) : Wp (fun k => spec_l1Bend k r s) (fun v => v.1.size ≤ 2 * s.size + 1 ∧ Rd (n + 10) v.2) := by
  unfold spec_l1Bend
  refine Wp.pick h (by omega) (by omega) (fun q1 r1 q10 q11 h1 => ?_)
  dsimp only
  have hm : 0 ≤ q1 * ((s.size : Int) + 1) ∧ q1 * ((s.size : Int) + 1) ≤ 255 * ((s.size : Int) + 1) := ⟨Int.mul_nonneg q10 (by omega), Int.mul_le_mul_of_nonneg_right (by omega) (by omega)⟩
  rw [w64' (n := (s.size : Int) + 1) (by omega) (by omega), w64' (n := q1 * ((s.size : Int) + 1)) (by omega) (by omega)]
  refine Wp.opt (qdiv_nn hm.1 (by omega)) ?_
  generalize hz : q1 * ((s.size : Int) + 1) / 256 = z
  have hz0 : 0 ≤ z ∧ z ≤ s.size := by omega
  rw [w64' (n := z) (by omega) (by omega)]
  refine Wp.pick h1 (by omega) (by omega) (fun q2 r2 q20 q21 h2 => ?_)
  simp only [cbeq, cbdec]
  refine Wp.ite (fun _ => ?_) (fun _ => ?_)
  · refine Wp.opt (wnd_ok ⟨by omega, hz0.1, hz0.2⟩) ?_
    exact Wp.ret ⟨by simp; omega, h2.mono (by omega)⟩
  refine Wp.ite (fun _ => ?_) (fun _ => ?_)
  · refine Wp.opt (wnd_ok ⟨by omega, hz0.1, hz0.2⟩) ?_
    refine Wp.pick h2 (by omega) (by omega) (fun q3 r3 q30 q31 h3 => ?_)
    dsimp only
    refine Wp.from q30 (by simp; omega) (fun y hy => ?_)
    have hy1 : y.size = 1 := by
      simp only [List.mem_cons, List.not_mem_nil, or_false] at hy
      rcases hy with rfl | rfl | rfl | rfl | rfl | rfl <;> rfl
    refine Wp.opt (sadd_ok (by simp; omega)) ?_
    refine Wp.opt (wnd_ok ⟨hz0.1, hz0.2, by omega⟩) ?_
    refine Wp.opt (sadd_ok (by simp; omega)) ?_
    exact Wp.ret ⟨by simp; omega, h3.mono (by omega)⟩
  refine Wp.ite (fun _ => ?_) (fun _ => ?_)
  · refine Wp.ite (fun hl => ?_) (fun hl => ?_)
    · rw [w64' (n := z + 1) (by omega) (by omega)]
      refine Wp.opt (wnd_ok ⟨by omega, hz0.1, hz0.2⟩) ?_
      refine Wp.opt (wnd_ok ⟨by omega, by omega, by omega⟩) ?_
      refine Wp.opt (sadd_ok (by simp; omega)) ?_
      exact Wp.ret ⟨by simp; omega, h2.mono (by omega)⟩
    · exact (bend13 s z _ r2 h2 hs hz0).mono fun v hv => ⟨hv.1, hv.2.mono (by omega)⟩
  refine Wp.ite (fun _ => ?_) (fun _ => ?_)
  · refine Wp.ite (fun hl => ?_) (fun hl => ?_)
    · rw [w64' (n := z + 1) (by omega) (by omega)]
      refine Wp.opt (wnd_ok ⟨by omega, hz0.1, hz0.2⟩) ?_
      have hb := bidx_at (b := s) (i := z.toNat) (by omega)
      rw [Int.toNat_of_nonneg hz0.1] at hb
      refine Wp.opt hb ?_
      refine Wp.pick h2 (by omega) (by omega) (fun q3 r3 q30 q31 h3 => ?_)
      dsimp only
      rw [show IntKind.wrap .u64 q3 = q3 by unfold IntKind.wrap; simp [IntKind.bits, IntKind.signed]; omega]
      refine Wp.opt (x := IntKind.wrap .i64 (1 * 2 ^ (min q3.toNat 64))) (by unfold shift; dsimp only; rw [if_neg (by omega)]; rfl) ?_
      have hs1 : ∀ y : Int, (bstr [y]).size = 1 := fun y => rfl
      refine Wp.opt (sadd_ok (by rw [hs1]; simp; omega)) ?_
      refine Wp.opt (wnd_ok ⟨by omega, by omega, by omega⟩) ?_
      refine Wp.opt (sadd_ok (by simp [hs1]; omega)) ?_
      exact Wp.ret ⟨by simp [hs1]; omega, h3.mono (by omega)⟩
    · exact (bend13 s z _ r2 h2 hs hz0).mono fun v hv => ⟨hv.1, hv.2.mono (by omega)⟩
  · exact (bend13 s z _ r2 h2 hs hz0).mono fun v hv => ⟨hv.1, hv.2.mono (by omega)⟩
theorem drawFormPacket_ok (a : List Int) (h : ∀ y ∈ a, wf_byte y) : Wp (fun k => spec_DrawFormPacket k a) (fun v => v.1.Part.size ≤ 21 ∧ v.2.1.size ≤ 31 ∧ (-1 ≤ v.2.2 ∧ v.2.2 ≤ 9)) := by
  have fin : ∀ (q : DPacket), q.Part.size ≤ 21 → Wp (fun k => spec_DrawFormPacket_l5 k a 0 0 0 0 0 0 0 false (⟨#[]⟩ : ByteArray) q.Kind q.From q.Mine q.Yours q.Next q.Mask q.Seq q.Last q.Part) (fun v => v.1.Part.size ≤ 21 ∧ v.2.1.size ≤ 31 ∧ (-1 ≤ v.2.2 ∧ v.2.2 ≤ 9)) := fun q hq => by
    refine Wp.step ?_
    simp only [spec_DrawFormPacket_l5]
    refine Wp.bind (drawTag_ok a h) (fun v hv => ?_)
    exact Wp.ret ⟨hq, hv.2⟩
  unfold spec_DrawFormPacket
  refine Wp.bind (open_ok a h) (fun r h0 => ?_)
  refine Wp.bind (l2Draw_ok r _ h0 (by omega)) (fun p hp => ?_)
  refine Wp.pick hp.2 (by omega) (by omega) (fun q r1 q0 q1 h1 => ?_)
  have hpp := fits_part hp.1
  simp only [cbeq]
  refine Wp.ite (fun _ => ?_) (fun _ => fin p.1 (by omega))
  refine Wp.bind (l2Spoil_ok r1 p.1 _ h1 (by omega) hpp) (fun v hv => ?_)
  exact fin v.1 hv.1
theorem form_small (p : DPacket) (b : ByteArray) (w : Int) : (formM p b w).size ≤ 100 := by
  unfold formM
  split
  · rename_i h
    have := bodyP_size p h.1
    rw [ByteArray.size_append, tagM_sz _ _ _ h.2.1 h.2.2]; omega
  · exact Nat.zero_le _
theorem tag_small (a b : ByteArray) (w : Int) : (tagM a b w).size ≤ 8 := by
  by_cases h : w < 1 ∨ 8 < w ∨ 30 < b.size
  · unfold tagM; rw [if_pos h]; exact Nat.zero_le _
  · rw [tagM_sz a b w (by omega) (by omega)]; omega
theorem drawReadPacket_ok (a : List Int) (h : ∀ y ∈ a, wf_byte y) : Wp (fun k => spec_DrawReadPacket k a) (fun v => v.1.size ≤ 1000 ∧ v.2.1.size ≤ 31 ∧ (-1 ≤ v.2.2 ∧ v.2.2 ≤ 9)) := by
  have fin : ∀ (x y : ByteArray) (z : Int), x.size ≤ 1000 → y.size ≤ 31 → (-1 ≤ z ∧ z ≤ 9) → Wp (fun k => spec_DrawReadPacket_l14 k y z x) (fun v => v.1.size ≤ 1000 ∧ v.2.1.size ≤ 31 ∧ (-1 ≤ v.2.2 ∧ v.2.2 ≤ 9)) := fun x y z h1 h2 h3 => by
    refine Wp.step ?_
    simp only [spec_DrawReadPacket_l14]
    exact Wp.ret ⟨h1, h2, h3⟩
  unfold spec_DrawReadPacket
  refine Wp.bind (open_ok a h) (fun r h0 => ?_)
  refine Wp.bind (l2Draw_ok r _ h0 (by omega)) (fun p hp => ?_)
  refine Wp.bind (drawTag_ok a h) (fun t ht => ?_)
  refine Wp.bind (specForm_ok _ _ _) (fun s e => ?_)
  have hs : s.size ≤ 100 := by rw [e]; exact form_small _ _ _
  refine Wp.pick hp.2 (by omega) (by omega) (fun q r1 q0 q1 h1 => ?_)
  have b8 : Wp (fun k => spec_DrawReadPacket_l8 k t.2.1 t.2.2 s r1.b r1.p) (fun v => v.1.size ≤ 1000 ∧ v.2.1.size ≤ 31 ∧ (-1 ≤ v.2.2 ∧ v.2.2 ≤ 9)) := by
    refine Wp.step ?_
    simp only [spec_DrawReadPacket_l8]
    refine Wp.bind (l1Bend_ok r1 s _ h1 (by omega) (by omega)) (fun v hv => ?_)
    exact fin _ _ _ (by omega) ht.2.1 ht.2.2
  simp only [cbeq]
  refine Wp.ite (fun _ => b8) (fun _ => ?_)
  refine Wp.ite (fun _ => b8) (fun _ => ?_)
  refine Wp.step ?_
  simp only [spec_DrawReadPacket_l9, cbeq]
  refine Wp.ite (fun _ => ?_) (fun _ => ?_)
  · refine Wp.bind (body_ok p.1 hp.1) (fun b eb => ?_)
    have hb : b.size ≤ 31 := by rw [eb]; exact bodyP_size _ hp.1
    refine Wp.bind (l1Bend_ok r1 b _ h1 (by omega) (by omega)) (fun v hv => ?_)
    have hv1 : v.1.size ≤ 100 := by omega
    refine Wp.bind (specTag_ok _ _ _ (by omega)) (fun u eu => ?_)
    have hu : u.size ≤ 8 := by rw [eu]; exact tag_small _ _ _
    refine Wp.opt (sadd_ok (by omega)) ?_
    exact fin _ _ _ (by rw [ByteArray.size_append]; omega) ht.2.1 ht.2.2
  · refine Wp.ite (fun _ => fin _ _ _ (by omega) (by decide) ht.2.2) (fun _ => fin _ _ _ (by omega) ht.2.1 ht.2.2)
end Km.X
namespace Km.X
open Go Km
set_option linter.unusedVariables false
set_option linter.unusedSimpArgs false
theorem packets13 (a : List Int) (h : ∀ y ∈ a, wf_byte y) : Wp (fun k => laws_FnPackets_l13 k a) (· = true) := by
  refine Wp.step ?_
  simp only [laws_FnPackets_l13]
  refine Wp.bind (drawReadPacket_ok a h) ?_
  rintro ⟨t, key, w⟩ ⟨h1, h2, h3⟩
  dsimp only at h1 h2 h3 ⊢
  refine Wp.bind (implRead_ok t key w (by omega)) (fun _ e => ?_); subst e
  refine Wp.bind (specRead_ok t key w (by omega)) (fun _ e => ?_); subst e
  simp only [beq_self_eq_true, cond_true]
  refine Wp.not (fun hr => Wp.ret rfl) (fun hr => ?_)
  refine Wp.bind (implForm_ok _ _ _) (fun _ e => ?_); subst e
  refine Wp.ret ?_
  rw [(readM_true hr).1]
  simp
theorem exact_FnPackets (a : List Int) (h0 : a.length ≤ maxLen ∧ ∀ y ∈ a, wf_byte y) : ∃ k, laws_FnPackets k a = some true := by
  have h := h0.2
  refine Wp.exists ?_
  unfold laws_FnPackets
  simp only [cbdec]
  refine Wp.ite (fun _ => Wp.ret rfl) (fun _ => ?_)
  refine Wp.bind (drawFormPacket_ok a h) ?_
  rintro ⟨p, key, w⟩ ⟨h1, h2, h3⟩
  dsimp only at h1 h2 h3 ⊢
  refine Wp.bind (implForm_ok _ _ _) (fun _ e => ?_); subst e
  refine Wp.bind (specForm_ok _ _ _) (fun _ e => ?_); subst e
  simp only [cbnot, cbseq, if_true]
  refine Wp.ite (fun _ => packets13 a h) (fun hs => ?_)
  have hf : Fits p ∧ (1 ≤ w ∧ w ≤ 8) ∧ key.size ≤ 30 := by
    by_cases g : Fits p ∧ (1 ≤ w ∧ w ≤ 8) ∧ key.size ≤ 30
    · exact g
    · exact absurd (by unfold formM; rw [if_neg g]) hs
  have hz := form_small p key w
  refine Wp.bind (implRead_ok _ _ _ (by omega)) (fun _ e => ?_); subst e
  rw [read_form hf.1 hf.2.1 hf.2.2]
  have hk : (key ++ (⟨#[122]⟩ : ByteArray)).size ≤ 100 := by rw [ByteArray.size_append]; show key.size + 1 ≤ 100; omega
  have hadd : sadd key (⟨#[122]⟩ : ByteArray) = some (key ++ ⟨#[122]⟩) := sadd_ok (by show key.size + 1 ≤ _; omega)
  refine Wp.opt hadd ?_
  refine Wp.bind (implRead_ok _ _ _ (by omega)) (fun _ e => ?_); subst e
  refine Wp.opt hadd ?_
  refine Wp.bind (specRead_ok _ _ _ (by omega)) (fun _ e => ?_); subst e
  dsimp only
  simp only [beq_self_eq_true, Bool.and_true, Bool.and_self, cond_true, cond_false, Bool.not_true]
  have hfs := form_size hf.1 hf.2.1 hf.2.2
  have hb := body_min p hf.1
  refine Wp.opt (wnd_ok ⟨by omega, by omega, by omega⟩) ?_
  dsimp only
  rw [Int.toNat_natCast, form_rest hf.1 hf.2.1 hf.2.2]
  have hbs := bodyP_size p hf.1
  refine Wp.bind (implTag_ok _ _ _ (by omega)) (fun _ e => ?_); subst e
  refine Wp.opt (wnd_ok ⟨by omega, by omega, by omega⟩) ?_
  dsimp only
  have ht : (formM p key w).extract (Int.toNat 0) w.toNat = tagM (bodyP p) key w := by
    rw [form_eq hf.1 hf.2.1 hf.2.2]
    have := tagM_sz (bodyP p) key w hf.2.1 hf.2.2
    rw [← this]
    apply dl_inj
    rw [dl_extract, dl_append, ← dl_size]
    simp
  rw [ht]
  simp only [cbnot, cbseq, if_true]
  exact packets13 a h
end Km.X
