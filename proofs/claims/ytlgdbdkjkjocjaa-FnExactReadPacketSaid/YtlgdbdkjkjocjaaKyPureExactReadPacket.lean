/- A part of the proof of FnExactReadPacket: plain laws of these functions. There is no condition. -/
import Derived.Test.YtlgdbdkjkjocjaaKmAm3
import Derived.Test.YtlgdbdkjkjocjaaKxDef
namespace Km.X
open Go Km
set_option linter.unusedVariables false
set_option linter.unusedSimpArgs false
def smL {α : Type} (p : α → Prop) (l : List α) : Prop := l.length ≤ 1048576 ∧ ∀ y ∈ l, p y
theorem addk (k : Int) (a b : Int) : k + a + b = k + (a + b) := by omega

def smPart (x : DPart) : Prop := x.Text.size ≤ 1048576
def smItem (x : DItem) : Prop := smPart x.Part
def smHeld (x : DHeld) : Prop := smPart x.Part
def smSend (x : DSend) : Prop := smL smItem x.Items
def smTake (x : DTake) : Prop := smL smHeld x.Held ∧ x.Open.size ≤ 1048576 ∧ smL (fun s : ByteArray => s.size ≤ 1048576) x.Ready
def smPacket (x : DPacket) : Prop := x.Part.size ≤ 1048576
theorem toPart_ok (x : DPart) (h : smPart x) : Wp (fun k => laws_toPart k x) (· = x) := Wp.ret rfl
theorem toItem_ok (x : DItem) (h : smItem x) : Wp (fun k => laws_toItem k x) (· = x) := Wp.ret rfl
theorem toHeld_ok (x : DHeld) (h : smHeld x) : Wp (fun k => laws_toHeld k x) (· = x) := Wp.ret rfl
theorem toPacket_ok (x : DPacket) (h : smPacket x) : Wp (fun k => laws_toPacket k x) (· = x) := Wp.ret rfl
theorem toPartS_ok (xs : List DPart) (h : smL smPart xs) : Wp (fun k => laws_toPartS k xs) (· = xs) := by
  unfold laws_toPartS
  obtain ⟨hl, hp⟩ := h
  refine Wp.opt (x := xs.length) (by rw [if_pos rfl]; exact room_ok (by omega)) ?_
  refine Wp.loop (n := xs.length) (f := fun k i (ys : List DPart) => laws_toPartS_l3 k xs (i : Int) ys) (Inv := fun i ys => ys.length = xs.length ∧ ys.take i = xs.take i) (Q := (· = xs)) ?_ ?_ xs.length 0 _ (by omega) ⟨by simp, by simp⟩
  · rintro i ys hi ⟨h1, h2⟩ ih
    refine Wp.step ?_
    simp only [laws_toPartS_l3]
    simp (disch := omega) only [cbdec, if_pos, idxN, getN, Option.bind_some, w64', castS, Int.ofNat_lt]
    refine Wp.bind (toPart_ok _ (hp _ (List.getElem_mem hi))) (fun _ e => ?_); subst e
    refine ih _ ⟨by simpa using h1, ?_⟩
    rw [Int.toNat_natCast, List.take_add_one, List.take_add_one, List.getElem?_set_self (by omega), List.take_set, List.set_eq_of_length_le (by simp; omega), h2, List.getElem?_eq_getElem hi]
  · rintro ys ⟨h1, h2⟩
    refine Wp.step ?_
    simp only [laws_toPartS_l3]
    simp (disch := omega) only [cbdec, if_neg]
    rw [List.take_of_length_le (by omega), List.take_of_length_le (by omega)] at h2
    exact Wp.ret h2
theorem toItemS_ok (xs : List DItem) (h : smL smItem xs) : Wp (fun k => laws_toItemS k xs) (· = xs) := by
  unfold laws_toItemS
  obtain ⟨hl, hp⟩ := h
  refine Wp.opt (x := xs.length) (by rw [if_pos rfl]; exact room_ok (by omega)) ?_
  refine Wp.loop (n := xs.length) (f := fun k i (ys : List DItem) => laws_toItemS_l3 k xs (i : Int) ys) (Inv := fun i ys => ys.length = xs.length ∧ ys.take i = xs.take i) (Q := (· = xs)) ?_ ?_ xs.length 0 _ (by omega) ⟨by simp, by simp⟩
  · rintro i ys hi ⟨h1, h2⟩ ih
    refine Wp.step ?_
    simp only [laws_toItemS_l3]
    simp (disch := omega) only [cbdec, if_pos, idxN, getN, Option.bind_some, w64', castS, Int.ofNat_lt]
    refine Wp.bind (toItem_ok _ (hp _ (List.getElem_mem hi))) (fun _ e => ?_); subst e
    refine ih _ ⟨by simpa using h1, ?_⟩
    rw [Int.toNat_natCast, List.take_add_one, List.take_add_one, List.getElem?_set_self (by omega), List.take_set, List.set_eq_of_length_le (by simp; omega), h2, List.getElem?_eq_getElem hi]
  · rintro ys ⟨h1, h2⟩
    refine Wp.step ?_
    simp only [laws_toItemS_l3]
    simp (disch := omega) only [cbdec, if_neg]
    rw [List.take_of_length_le (by omega), List.take_of_length_le (by omega)] at h2
    exact Wp.ret h2
theorem toHeldS_ok (xs : List DHeld) (h : smL smHeld xs) : Wp (fun k => laws_toHeldS k xs) (· = xs) := by
  unfold laws_toHeldS
  obtain ⟨hl, hp⟩ := h
  refine Wp.opt (x := xs.length) (by rw [if_pos rfl]; exact room_ok (by omega)) ?_
  refine Wp.loop (n := xs.length) (f := fun k i (ys : List DHeld) => laws_toHeldS_l3 k xs (i : Int) ys) (Inv := fun i ys => ys.length = xs.length ∧ ys.take i = xs.take i) (Q := (· = xs)) ?_ ?_ xs.length 0 _ (by omega) ⟨by simp, by simp⟩
  · rintro i ys hi ⟨h1, h2⟩ ih
    refine Wp.step ?_
    simp only [laws_toHeldS_l3]
    simp (disch := omega) only [cbdec, if_pos, idxN, getN, Option.bind_some, w64', castS, Int.ofNat_lt]
    refine Wp.bind (toHeld_ok _ (hp _ (List.getElem_mem hi))) (fun _ e => ?_); subst e
    refine ih _ ⟨by simpa using h1, ?_⟩
    rw [Int.toNat_natCast, List.take_add_one, List.take_add_one, List.getElem?_set_self (by omega), List.take_set, List.set_eq_of_length_le (by simp; omega), h2, List.getElem?_eq_getElem hi]
  · rintro ys ⟨h1, h2⟩
    refine Wp.step ?_
    simp only [laws_toHeldS_l3]
    simp (disch := omega) only [cbdec, if_neg]
    rw [List.take_of_length_le (by omega), List.take_of_length_le (by omega)] at h2
    exact Wp.ret h2
theorem toStringS_ok (xs : List ByteArray) (h : smL (fun s : ByteArray => s.size ≤ 1048576) xs) : Wp (fun k => laws_toStringS k xs) (· = xs) := by
  unfold laws_toStringS
  obtain ⟨hl, hp⟩ := h
  refine Wp.opt (x := xs.length) (by rw [if_pos rfl]; exact room_ok (by omega)) ?_
  refine Wp.loop (n := xs.length) (f := fun k i (ys : List ByteArray) => laws_toStringS_l3 k xs (i : Int) ys) (Inv := fun i ys => ys.length = xs.length ∧ ys.take i = xs.take i) (Q := (· = xs)) ?_ ?_ xs.length 0 _ (by omega) ⟨by simp, by simp⟩
  · rintro i ys hi ⟨h1, h2⟩ ih
    refine Wp.step ?_
    simp only [laws_toStringS_l3]
    simp (disch := omega) only [cbdec, if_pos, idxN, getN, Option.bind_some, w64', castS, Int.ofNat_lt]
    refine ih _ ⟨by simpa using h1, ?_⟩
    rw [Int.toNat_natCast, List.take_add_one, List.take_add_one, List.getElem?_set_self (by omega), List.take_set, List.set_eq_of_length_le (by simp; omega), h2, List.getElem?_eq_getElem hi]
  · rintro ys ⟨h1, h2⟩
    refine Wp.step ?_
    simp only [laws_toStringS_l3]
    simp (disch := omega) only [cbdec, if_neg]
    rw [List.take_of_length_le (by omega), List.take_of_length_le (by omega)] at h2
    exact Wp.ret h2
theorem toSend_ok (x : DSend) (h : smSend x) : Wp (fun k => laws_toSend k x) (· = x) := by
  unfold smSend at h
  have h0 := h
  unfold laws_toSend
  refine Wp.bind (toItemS_ok _ h0) (fun _ e => ?_); subst e
  exact Wp.ret rfl
theorem toTake_ok (x : DTake) (h : smTake x) : Wp (fun k => laws_toTake k x) (· = x) := by
  unfold smTake at h
  obtain ⟨h0, h1, h2⟩ := h
  unfold laws_toTake
  refine Wp.bind (toHeldS_ok _ h0) (fun _ e => ?_); subst e
  refine Wp.bind (toStringS_ok _ h2) (fun _ e => ?_); subst e
  exact Wp.ret rfl
theorem szPart_ok (x : DPart) (hw : wfDPart x) (a : Int) (ha : 0 ≤ a ∧ a ≤ 1048576) : Wp (fun k => laws_szPart k x a) (fun r => r ≤ 1048576 ∧ (0 ≤ r → smPart x)) := by
  unfold smPart
  unfold wfDPart at hw
  unfold laws_szPart
  have h1 : x.Text.size ≤ 2 ^ 63 - 1 := by first | exact hw.1 | exact hw.2.2.2.2.2.2.2.2 | exact hw.2.2.2.2 | exact hw.2.2.2
  try simp (disch := omega) only [w64', cbdec]
  refine Wp.ite (fun h => Wp.ret ⟨by omega, fun h => by omega⟩) (fun h => Wp.ret ⟨by omega, fun _ => by omega⟩)
theorem szItem_ok (x : DItem) (hw : wfDItem x) (a : Int) (ha : 0 ≤ a ∧ a ≤ 1048576) : Wp (fun k => laws_szItem k x a) (fun r => r ≤ 1048576 ∧ (0 ≤ r → smItem x)) := by
  unfold smItem
  unfold wfDItem at hw
  unfold laws_szItem
  have h1 : wfDPart x.Part := by first | exact hw.1 | exact hw.2
  refine Wp.bind (szPart_ok _ h1 a ha) (fun r hr => ?_)
  refine Wp.dec (fun h => Wp.ret ⟨by omega, fun h => by omega⟩) (fun h => Wp.ret ⟨hr.1, hr.2⟩)
theorem szHeld_ok (x : DHeld) (hw : wfDHeld x) (a : Int) (ha : 0 ≤ a ∧ a ≤ 1048576) : Wp (fun k => laws_szHeld k x a) (fun r => r ≤ 1048576 ∧ (0 ≤ r → smHeld x)) := by
  unfold smHeld
  unfold wfDHeld at hw
  unfold laws_szHeld
  have h1 : wfDPart x.Part := by first | exact hw.1 | exact hw.2
  refine Wp.bind (szPart_ok _ h1 a ha) (fun r hr => ?_)
  refine Wp.dec (fun h => Wp.ret ⟨by omega, fun h => by omega⟩) (fun h => Wp.ret ⟨hr.1, hr.2⟩)
theorem szPacket_ok (x : DPacket) (hw : wfDPacket x) (a : Int) (ha : 0 ≤ a ∧ a ≤ 1048576) : Wp (fun k => laws_szPacket k x a) (fun r => r ≤ 1048576 ∧ (0 ≤ r → smPacket x)) := by
  unfold smPacket
  unfold wfDPacket at hw
  unfold laws_szPacket
  have h1 : x.Part.size ≤ 2 ^ 63 - 1 := by first | exact hw.1 | exact hw.2.2.2.2.2.2.2.2 | exact hw.2.2.2.2 | exact hw.2.2.2
  try simp (disch := omega) only [w64', cbdec]
  refine Wp.ite (fun h => Wp.ret ⟨by omega, fun h => by omega⟩) (fun h => Wp.ret ⟨by omega, fun _ => by omega⟩)
theorem szPartS_ok (xs : List DPart) (hw : xs.length ≤ maxLen ∧ ∀ y ∈ xs, wf_part y) (a : Int) (ha : 0 ≤ a ∧ a ≤ 1048576) : Wp (fun k => laws_szPartS k xs a) (fun r => r ≤ 1048576 ∧ (0 ≤ r → smL smPart xs)) := by
  obtain ⟨hl, hp⟩ := hw
  have hl : xs.length ≤ 2 ^ 63 - 1 := hl
  unfold laws_szPartS
  try simp (disch := omega) only [w64', cbdec]
  refine Wp.ite (fun h => Wp.ret ⟨by omega, fun h => by omega⟩) (fun h => ?_)
  refine Wp.loop (n := xs.length) (f := fun k i (l : Int) => laws_szPartS_l5 k xs l (i : Int)) (Inv := fun i l => (0 ≤ l ∧ l ≤ 1048576) ∧ ∀ j (hj : j < xs.length), j < i → smPart xs[j]) (Q := fun r => r ≤ 1048576 ∧ (0 ≤ r → smL smPart xs)) ?_ ?_ xs.length 0 (a - xs.length) (by omega) ⟨by omega, fun j _ h => by omega⟩
  · rintro i l hi ⟨h1, h2⟩ ih
    refine Wp.step ?_
    simp only [laws_szPartS_l5]
    simp (disch := omega) only [cbdec, if_pos, idxN, Option.bind_some, w64', castS]
    refine Wp.bind (szPart_ok _ (hp _ (List.getElem_mem hi)) l h1) (fun r hr => ?_)
    refine Wp.ite (fun h => Wp.ret ⟨by omega, fun h => by omega⟩) (fun h => ?_)
    refine ih _ ⟨by omega, fun j hj hji => ?_⟩
    by_cases e : j = i
    · subst e; exact hr.2 (by omega)
    · exact h2 j hj (by omega)
  · rintro l ⟨h1, h2⟩
    refine Wp.step ?_
    simp only [laws_szPartS_l5]
    simp (disch := omega) only [cbdec, if_neg]
    refine Wp.ret ⟨by omega, fun _ => ⟨by omega, fun y hy => ?_⟩⟩
    obtain ⟨j, hj, rfl⟩ := List.getElem_of_mem hy
    exact h2 j hj hj
theorem szItemS_ok (xs : List DItem) (hw : xs.length ≤ maxLen ∧ ∀ y ∈ xs, wf_item y) (a : Int) (ha : 0 ≤ a ∧ a ≤ 1048576) : Wp (fun k => laws_szItemS k xs a) (fun r => r ≤ 1048576 ∧ (0 ≤ r → smL smItem xs)) := by
  obtain ⟨hl, hp⟩ := hw
  have hl : xs.length ≤ 2 ^ 63 - 1 := hl
  unfold laws_szItemS
  try simp (disch := omega) only [w64', cbdec]
  refine Wp.ite (fun h => Wp.ret ⟨by omega, fun h => by omega⟩) (fun h => ?_)
  refine Wp.loop (n := xs.length) (f := fun k i (l : Int) => laws_szItemS_l5 k xs l (i : Int)) (Inv := fun i l => (0 ≤ l ∧ l ≤ 1048576) ∧ ∀ j (hj : j < xs.length), j < i → smItem xs[j]) (Q := fun r => r ≤ 1048576 ∧ (0 ≤ r → smL smItem xs)) ?_ ?_ xs.length 0 (a - xs.length) (by omega) ⟨by omega, fun j _ h => by omega⟩
  · rintro i l hi ⟨h1, h2⟩ ih
    refine Wp.step ?_
    simp only [laws_szItemS_l5]
    simp (disch := omega) only [cbdec, if_pos, idxN, Option.bind_some, w64', castS]
    refine Wp.bind (szItem_ok _ (hp _ (List.getElem_mem hi)) l h1) (fun r hr => ?_)
    refine Wp.ite (fun h => Wp.ret ⟨by omega, fun h => by omega⟩) (fun h => ?_)
    refine ih _ ⟨by omega, fun j hj hji => ?_⟩
    by_cases e : j = i
    · subst e; exact hr.2 (by omega)
    · exact h2 j hj (by omega)
  · rintro l ⟨h1, h2⟩
    refine Wp.step ?_
    simp only [laws_szItemS_l5]
    simp (disch := omega) only [cbdec, if_neg]
    refine Wp.ret ⟨by omega, fun _ => ⟨by omega, fun y hy => ?_⟩⟩
    obtain ⟨j, hj, rfl⟩ := List.getElem_of_mem hy
    exact h2 j hj hj
theorem szHeldS_ok (xs : List DHeld) (hw : xs.length ≤ maxLen ∧ ∀ y ∈ xs, wf_held y) (a : Int) (ha : 0 ≤ a ∧ a ≤ 1048576) : Wp (fun k => laws_szHeldS k xs a) (fun r => r ≤ 1048576 ∧ (0 ≤ r → smL smHeld xs)) := by
  obtain ⟨hl, hp⟩ := hw
  have hl : xs.length ≤ 2 ^ 63 - 1 := hl
  unfold laws_szHeldS
  try simp (disch := omega) only [w64', cbdec]
  refine Wp.ite (fun h => Wp.ret ⟨by omega, fun h => by omega⟩) (fun h => ?_)
  refine Wp.loop (n := xs.length) (f := fun k i (l : Int) => laws_szHeldS_l5 k xs l (i : Int)) (Inv := fun i l => (0 ≤ l ∧ l ≤ 1048576) ∧ ∀ j (hj : j < xs.length), j < i → smHeld xs[j]) (Q := fun r => r ≤ 1048576 ∧ (0 ≤ r → smL smHeld xs)) ?_ ?_ xs.length 0 (a - xs.length) (by omega) ⟨by omega, fun j _ h => by omega⟩
  · rintro i l hi ⟨h1, h2⟩ ih
    refine Wp.step ?_
    simp only [laws_szHeldS_l5]
    simp (disch := omega) only [cbdec, if_pos, idxN, Option.bind_some, w64', castS]
    refine Wp.bind (szHeld_ok _ (hp _ (List.getElem_mem hi)) l h1) (fun r hr => ?_)
    refine Wp.ite (fun h => Wp.ret ⟨by omega, fun h => by omega⟩) (fun h => ?_)
    refine ih _ ⟨by omega, fun j hj hji => ?_⟩
    by_cases e : j = i
    · subst e; exact hr.2 (by omega)
    · exact h2 j hj (by omega)
  · rintro l ⟨h1, h2⟩
    refine Wp.step ?_
    simp only [laws_szHeldS_l5]
    simp (disch := omega) only [cbdec, if_neg]
    refine Wp.ret ⟨by omega, fun _ => ⟨by omega, fun y hy => ?_⟩⟩
    obtain ⟨j, hj, rfl⟩ := List.getElem_of_mem hy
    exact h2 j hj hj
theorem szStringS_ok (xs : List ByteArray) (hw : xs.length ≤ maxLen ∧ ∀ y ∈ xs, wf_str y) (a : Int) (ha : 0 ≤ a ∧ a ≤ 1048576) : Wp (fun k => laws_szStringS k xs a) (fun r => r ≤ 1048576 ∧ (0 ≤ r → smL (fun s : ByteArray => s.size ≤ 1048576) xs)) := by
  obtain ⟨hl, hp⟩ := hw
  have hl : xs.length ≤ 2 ^ 63 - 1 := hl
  unfold laws_szStringS
  try simp (disch := omega) only [w64', cbdec]
  refine Wp.ite (fun h => Wp.ret ⟨by omega, fun h => by omega⟩) (fun h => ?_)
  refine Wp.loop (n := xs.length) (f := fun k i (l : Int) => laws_szStringS_l5 k xs l (i : Int)) (Inv := fun i l => (0 ≤ l ∧ l ≤ 1048576) ∧ ∀ j (hj : j < xs.length), j < i → (fun s : ByteArray => s.size ≤ 1048576) xs[j]) (Q := fun r => r ≤ 1048576 ∧ (0 ≤ r → smL (fun s : ByteArray => s.size ≤ 1048576) xs)) ?_ ?_ xs.length 0 (a - xs.length) (by omega) ⟨by omega, fun j _ h => by omega⟩
  · rintro i l hi ⟨h1, h2⟩ ih
    refine Wp.step ?_
    simp only [laws_szStringS_l5]
    simp (disch := omega) only [cbdec, if_pos, idxN, Option.bind_some, w64', castS]
    have h3 : xs[i].size ≤ 2 ^ 63 - 1 := hp _ (List.getElem_mem hi)
    try simp (disch := omega) only [w64']
    refine Wp.ite (fun h => Wp.ret ⟨by omega, fun h => by omega⟩) (fun h => ?_)
    refine ih _ ⟨by omega, fun j hj hji => ?_⟩
    by_cases e : j = i
    · subst e; show xs[j].size ≤ 1048576; omega
    · exact h2 j hj (by omega)
  · rintro l ⟨h1, h2⟩
    refine Wp.step ?_
    simp only [laws_szStringS_l5]
    simp (disch := omega) only [cbdec, if_neg]
    refine Wp.ret ⟨by omega, fun _ => ⟨by omega, fun y hy => ?_⟩⟩
    obtain ⟨j, hj, rfl⟩ := List.getElem_of_mem hy
    exact h2 j hj hj
theorem szSend_ok (x : DSend) (hw : wfDSend x) (a : Int) (ha : 0 ≤ a ∧ a ≤ 1048576) : Wp (fun k => laws_szSend k x a) (fun r => r ≤ 1048576 ∧ (0 ≤ r → smSend x)) := by
  unfold smSend
  obtain ⟨w0, w1⟩ := hw
  unfold laws_szSend
  refine Wp.bind (szItemS_ok _ w1 a (by omega)) (fun r0 e0 => ?_)
  first | refine Wp.dec (fun h => Wp.ret ⟨by omega, fun h => by omega⟩) (fun h0 => Wp.ret ⟨by omega, fun _ => ?_⟩) | refine Wp.ite (fun h => Wp.ret ⟨by omega, fun h => by omega⟩) (fun h0 => Wp.ret ⟨by omega, fun _ => ?_⟩)
  exact e0.2 (by omega)
theorem szTake_ok (x : DTake) (hw : wfDTake x) (a : Int) (ha : 0 ≤ a ∧ a ≤ 1048576) : Wp (fun k => laws_szTake k x a) (fun r => r ≤ 1048576 ∧ (0 ≤ r → smTake x)) := by
  unfold smTake
  obtain ⟨w0, w1, w2, w3⟩ := hw
  unfold laws_szTake
  refine Wp.bind (szHeldS_ok _ w1 a (by omega)) (fun r0 e0 => ?_)
  first | refine Wp.dec (fun h => Wp.ret ⟨by omega, fun h => by omega⟩) (fun h0 => ?_) | refine Wp.ite (fun h => Wp.ret ⟨by omega, fun h => by omega⟩) (fun h0 => ?_)
  have s1 : x.Open.size ≤ 2 ^ 63 - 1 := w2
  try simp (disch := omega) only [w64', cbdec]
  refine Wp.ite (fun h => Wp.ret ⟨by omega, fun h => by omega⟩) (fun h1 => ?_)
  refine Wp.bind (szStringS_ok _ w3 (r0 - (x.Open.size : Int)) (by omega)) (fun r2 e2 => ?_)
  first | refine Wp.dec (fun h => Wp.ret ⟨by omega, fun h => by omega⟩) (fun h2 => Wp.ret ⟨by omega, fun _ => ?_⟩) | refine Wp.ite (fun h => Wp.ret ⟨by omega, fun h => by omega⟩) (fun h2 => Wp.ret ⟨by omega, fun _ => ?_⟩)
  exact ⟨e0.2 (by omega), (by omega), e2.2 (by omega)⟩
theorem eqPart_ok (x : DPart) (h : smPart x) : Wp (fun k => laws_eqPart k x x) (· = true) := by
  unfold laws_eqPart
  unfold smPart at h
  have h0 := h
  simp only [w64', cbdec, cbnot, cbeq, cbne, cbseq, cbbeq, cond_true, cond_false, Option.bind_some, Bool.not_true, Bool.not_false, if_true, if_false]
  exact Wp.ret rfl
theorem eqItem_ok (x : DItem) (h : smItem x) : Wp (fun k => laws_eqItem k x x) (· = true) := by
  unfold laws_eqItem
  unfold smItem at h
  have h0 := h
  simp only [w64', cbdec, cbnot, cbeq, cbne, cbseq, cbbeq, cond_true, cond_false, Option.bind_some, Bool.not_true, Bool.not_false, if_true, if_false]
  refine Wp.bind (eqPart_ok _ h0) (fun _ e => ?_); subst e
  simp only [w64', cbdec, cbnot, cbeq, cbne, cbseq, cbbeq, cond_true, cond_false, Option.bind_some, Bool.not_true, Bool.not_false, if_true, if_false]
  exact Wp.ret rfl
theorem eqHeld_ok (x : DHeld) (h : smHeld x) : Wp (fun k => laws_eqHeld k x x) (· = true) := by
  unfold laws_eqHeld
  unfold smHeld at h
  have h0 := h
  simp only [w64', cbdec, cbnot, cbeq, cbne, cbseq, cbbeq, cond_true, cond_false, Option.bind_some, Bool.not_true, Bool.not_false, if_true, if_false]
  refine Wp.bind (eqPart_ok _ h0) (fun _ e => ?_); subst e
  simp only [w64', cbdec, cbnot, cbeq, cbne, cbseq, cbbeq, cond_true, cond_false, Option.bind_some, Bool.not_true, Bool.not_false, if_true, if_false]
  exact Wp.ret rfl
theorem eqPacket_ok (x : DPacket) (h : smPacket x) : Wp (fun k => laws_eqPacket k x x) (· = true) := by
  unfold laws_eqPacket
  unfold smPacket at h
  have h0 := h
  simp only [w64', cbdec, cbnot, cbeq, cbne, cbseq, cbbeq, cond_true, cond_false, Option.bind_some, Bool.not_true, Bool.not_false, if_true, if_false]
  exact Wp.ret rfl
theorem eqPartS_ok (xs : List DPart) (h : smL smPart xs) : Wp (fun k => laws_eqPartS k xs xs) (· = true) := by
  unfold laws_eqPartS
  obtain ⟨hl, hp⟩ := h
  simp only [cbne, if_true]
  refine Wp.loop (n := xs.length) (f := fun k i (_ : Unit) => laws_eqPartS_l4 k xs xs (i : Int)) (Inv := fun _ _ => True) (Q := (· = true)) ?_ ?_ xs.length 0 () (by omega) trivial
  · rintro i _ hi _ ih
    refine Wp.step ?_
    simp only [laws_eqPartS_l4]
    simp (disch := omega) only [cbdec, if_pos, idxN, Option.bind_some, w64', castS]
    refine Wp.bind (eqPart_ok _ (hp _ (List.getElem_mem hi))) (fun _ e => ?_); subst e
    simp only [w64', cbdec, cbnot, cbeq, cbne, cbseq, cbbeq, cond_true, cond_false, Option.bind_some, Bool.not_true, Bool.not_false, if_true, if_false]
    exact ih () trivial
  · rintro _ _
    refine Wp.step ?_
    simp only [laws_eqPartS_l4]
    simp (disch := omega) only [cbdec, if_neg]
    exact Wp.ret rfl
theorem eqItemS_ok (xs : List DItem) (h : smL smItem xs) : Wp (fun k => laws_eqItemS k xs xs) (· = true) := by
  unfold laws_eqItemS
  obtain ⟨hl, hp⟩ := h
  simp only [cbne, if_true]
  refine Wp.loop (n := xs.length) (f := fun k i (_ : Unit) => laws_eqItemS_l4 k xs xs (i : Int)) (Inv := fun _ _ => True) (Q := (· = true)) ?_ ?_ xs.length 0 () (by omega) trivial
  · rintro i _ hi _ ih
    refine Wp.step ?_
    simp only [laws_eqItemS_l4]
    simp (disch := omega) only [cbdec, if_pos, idxN, Option.bind_some, w64', castS]
    refine Wp.bind (eqItem_ok _ (hp _ (List.getElem_mem hi))) (fun _ e => ?_); subst e
    simp only [w64', cbdec, cbnot, cbeq, cbne, cbseq, cbbeq, cond_true, cond_false, Option.bind_some, Bool.not_true, Bool.not_false, if_true, if_false]
    exact ih () trivial
  · rintro _ _
    refine Wp.step ?_
    simp only [laws_eqItemS_l4]
    simp (disch := omega) only [cbdec, if_neg]
    exact Wp.ret rfl
theorem eqHeldS_ok (xs : List DHeld) (h : smL smHeld xs) : Wp (fun k => laws_eqHeldS k xs xs) (· = true) := by
  unfold laws_eqHeldS
  obtain ⟨hl, hp⟩ := h
  simp only [cbne, if_true]
  refine Wp.loop (n := xs.length) (f := fun k i (_ : Unit) => laws_eqHeldS_l4 k xs xs (i : Int)) (Inv := fun _ _ => True) (Q := (· = true)) ?_ ?_ xs.length 0 () (by omega) trivial
  · rintro i _ hi _ ih
    refine Wp.step ?_
    simp only [laws_eqHeldS_l4]
    simp (disch := omega) only [cbdec, if_pos, idxN, Option.bind_some, w64', castS]
    refine Wp.bind (eqHeld_ok _ (hp _ (List.getElem_mem hi))) (fun _ e => ?_); subst e
    simp only [w64', cbdec, cbnot, cbeq, cbne, cbseq, cbbeq, cond_true, cond_false, Option.bind_some, Bool.not_true, Bool.not_false, if_true, if_false]
    exact ih () trivial
  · rintro _ _
    refine Wp.step ?_
    simp only [laws_eqHeldS_l4]
    simp (disch := omega) only [cbdec, if_neg]
    exact Wp.ret rfl
theorem eqStringS_ok (xs : List ByteArray) (h : smL (fun s : ByteArray => s.size ≤ 1048576) xs) : Wp (fun k => laws_eqStringS k xs xs) (· = true) := by
  unfold laws_eqStringS
  obtain ⟨hl, hp⟩ := h
  simp only [cbne, if_true]
  refine Wp.loop (n := xs.length) (f := fun k i (_ : Unit) => laws_eqStringS_l4 k xs xs (i : Int)) (Inv := fun _ _ => True) (Q := (· = true)) ?_ ?_ xs.length 0 () (by omega) trivial
  · rintro i _ hi _ ih
    refine Wp.step ?_
    simp only [laws_eqStringS_l4]
    simp (disch := omega) only [cbdec, if_pos, idxN, Option.bind_some, w64', castS]
    simp only [w64', cbdec, cbnot, cbeq, cbne, cbseq, cbbeq, cond_true, cond_false, Option.bind_some, Bool.not_true, Bool.not_false, if_true, if_false]
    exact ih () trivial
  · rintro _ _
    refine Wp.step ?_
    simp only [laws_eqStringS_l4]
    simp (disch := omega) only [cbdec, if_neg]
    exact Wp.ret rfl
theorem eqIntS_ok (xs : List Int) (h : smL (fun _ : Int => True) xs) : Wp (fun k => laws_eqIntS k xs xs) (· = true) := by
  unfold laws_eqIntS
  obtain ⟨hl, hp⟩ := h
  simp only [cbne, if_true]
  refine Wp.loop (n := xs.length) (f := fun k i (_ : Unit) => laws_eqIntS_l4 k xs xs (i : Int)) (Inv := fun _ _ => True) (Q := (· = true)) ?_ ?_ xs.length 0 () (by omega) trivial
  · rintro i _ hi _ ih
    refine Wp.step ?_
    simp only [laws_eqIntS_l4]
    simp (disch := omega) only [cbdec, if_pos, idxN, Option.bind_some, w64', castS]
    simp only [w64', cbdec, cbnot, cbeq, cbne, cbseq, cbbeq, cond_true, cond_false, Option.bind_some, Bool.not_true, Bool.not_false, if_true, if_false]
    exact ih () trivial
  · rintro _ _
    refine Wp.step ?_
    simp only [laws_eqIntS_l4]
    simp (disch := omega) only [cbdec, if_neg]
    exact Wp.ret rfl
theorem eqSend_ok (x : DSend) (h : smSend x) : Wp (fun k => laws_eqSend k x x) (· = true) := by
  unfold laws_eqSend
  unfold smSend at h
  have h0 := h
  simp only [w64', cbdec, cbnot, cbeq, cbne, cbseq, cbbeq, cond_true, cond_false, Option.bind_some, Bool.not_true, Bool.not_false, if_true, if_false]
  refine Wp.bind (eqItemS_ok _ h0) (fun _ e => ?_); subst e
  simp only [w64', cbdec, cbnot, cbeq, cbne, cbseq, cbbeq, cond_true, cond_false, Option.bind_some, Bool.not_true, Bool.not_false, if_true, if_false]
  exact Wp.ret rfl
theorem eqTake_ok (x : DTake) (h : smTake x) : Wp (fun k => laws_eqTake k x x) (· = true) := by
  unfold laws_eqTake
  unfold smTake at h
  obtain ⟨h0, h1, h2⟩ := h
  simp only [w64', cbdec, cbnot, cbeq, cbne, cbseq, cbbeq, cond_true, cond_false, Option.bind_some, Bool.not_true, Bool.not_false, if_true, if_false]
  refine Wp.bind (eqHeldS_ok _ h0) (fun _ e => ?_); subst e
  simp only [w64', cbdec, cbnot, cbeq, cbne, cbseq, cbbeq, cond_true, cond_false, Option.bind_some, Bool.not_true, Bool.not_false, if_true, if_false]
  refine Wp.bind (eqStringS_ok _ h2) (fun _ e => ?_); subst e
  simp only [w64', cbdec, cbnot, cbeq, cbne, cbseq, cbbeq, cond_true, cond_false, Option.bind_some, Bool.not_true, Bool.not_false, if_true, if_false]
  exact Wp.ret rfl
end Km.X
namespace Km.X
open Go Km
set_option linter.unusedVariables false
set_option linter.unusedSimpArgs false
theorem markText_loop : ∀ (d : Nat) (k : Int) (s : ByteArray), k < 10 ^ d → k ≤ 9223372036854775807 → d + s.size ≤ 1000 → Wp (fun n => laws_markText_l4 n k s) (fun _ => True)
  | 0, k, s, hk, hb, hs => by
    refine Wp.step ?_
    simp only [laws_markText_l4]
    have hk0 : ¬ (k > 0) := by simp at hk; omega
    simp only [cbdec, if_neg hk0, sadd_ok (x := ⟨#[109]⟩) (y := s) (by show (1 : Nat) + s.size ≤ _; omega), Option.bind_some]
    exact Wp.ret trivial
  | d + 1, k, s, hk, hb, hs => by
    refine Wp.step ?_
    simp only [laws_markText_l4, cbdec]
    refine Wp.ite (fun h => ?_) (fun h => ?_)
    · have hs1 : sadd (bstr [IntKind.wrap .u8 (IntKind.wrap .i64 (48 + k % 10))]) s = some _ := sadd_ok (by rw [bstr_size]; simp; omega)
      simp (disch := omega) only [qrem_nn, qdiv_nn, Option.bind_some]
      rw [hs1]
      simp (disch := omega) only [Option.bind_some, w64']
      refine markText_loop d (k / 10) _ ?_ (by omega) ?_
      · rw [Int.pow_succ] at hk; omega
      · rw [ba_size_append, bstr_size]; simp; omega
    · simp only [sadd_ok (x := ⟨#[109]⟩) (y := s) (by show (1 : Nat) + s.size ≤ _; omega), Option.bind_some]
      exact Wp.ret trivial
noncomputable def mt (k : Int) : ByteArray := ans (fun n => laws_markText n k)
theorem markText_ok {k : Int} (h : 0 ≤ k ∧ k ≤ 1000000000000) : Wp (fun n => laws_markText n k) (· = mt k) := by
  have : Wp (fun n => laws_markText n k) (fun _ => True) := by
    unfold laws_markText
    simp only [cbdec]
    refine Wp.ite (fun h => Wp.ret trivial) (fun h => markText_loop 13 k _ (by omega) (by omega) (by decide))
  exact (Wp.ans_eq this).2

def MkSPart : Int → List DPart → Prop
  | _, [] => True
  | k, x :: t => (x.Text = mt k ∧ x.Last = ((k + 1) % 3 == 0)) ∧ MkSPart (k + 2) t
theorem heldPartS_loop : ∀ (t pre : List DPart) (k : Int), (pre ++ t).length ≤ 100000000 → 0 ≤ k → k + 2 * t.length ≤ 1000000000000 → MkSPart k t → Wp (fun n => laws_heldPartS_l2 n (pre ++ t) k (pre.length : Int)) (· = k + 2 * t.length)
  | [], pre, k, hl, h0, hk, _ => by
    refine Wp.step ?_
    simp only [laws_heldPartS_l2, List.append_nil]
    simp (disch := omega) only [cbdec, if_neg]
    exact Wp.ret (by simp)
  | x :: t, pre, k, hl, h0, hk, hm => by
    simp only [MkSPart] at hm
    obtain ⟨hm, hm2⟩ := hm
    simp only [List.length_append, List.length_cons] at hl hk
    refine Wp.step ?_
    simp only [laws_heldPartS_l2]
    have hlt := lt_mid (pre := pre) (t := t) (x := x)
    obtain ⟨m0, m1⟩ := hm
    simp (disch := first | omega | rfl | assumption) only [cbdec, cbne, cbnot, cbbeq, cbseq, if_pos, if_neg, if_true, eq_self, Int.reduceAdd, idx_mid, Option.bind_some, w64', qrem_nn, addk, hlt, m0, m1]
    refine Wp.bind (markText_ok (by omega)) (fun _ e => ?_); subst e
    try simp (disch := first | omega | rfl | assumption) only [cbdec, cbne, cbnot, cbbeq, cbseq, if_pos, if_neg, if_true, eq_self, Int.reduceAdd, idx_mid, Option.bind_some, w64', qrem_nn, addk, hlt, m0, m1]
    have ih : Wp (fun n => laws_heldPartS_l2 n (pre ++ x :: t) (k + 2) ((pre.length : Int) + 1)) (· = k + 2 + 2 * t.length) := by
      have := heldPartS_loop t (pre ++ [x]) (k + 2) (by simp; omega) (by omega) (by omega) hm2
      rwa [← mid_succ, ← mid_len] at this
    exact ih.mono (fun r hr => by simp only [List.length_cons]; omega)
theorem heldPartS_ok {k : Int} {l : List DPart} (h0 : 0 ≤ k) (hk : k + 2 * l.length ≤ 1000000000000) (hl : l.length ≤ 100000000) (hm : MkSPart k l) : Wp (fun n => laws_heldPartS n l k) (· = k + 2 * l.length) := by
  unfold laws_heldPartS
  exact heldPartS_loop l [] k (by simpa using hl) h0 hk hm
theorem markPartS_loop : ∀ (t pre : List DPart) (k : Int), (pre ++ t).length ≤ 100000000 → 0 ≤ k → k + 2 * t.length ≤ 1000000000000 → Wp (fun n => laws_markPartS_l2 n k (pre.length : Int) (pre ++ t)) (fun r => r.1 = k + 2 * t.length ∧ ∃ t', r.2 = pre ++ t' ∧ t'.length = t.length ∧ MkSPart k t')
  | [], pre, k, hl, h0, hk => by
    refine Wp.step ?_
    simp only [laws_markPartS_l2, List.append_nil]
    simp (disch := omega) only [cbdec, if_neg]
    exact Wp.ret ⟨by simp, [], by simp, rfl, trivial⟩
  | x :: t, pre, k, hl, h0, hk => by
    simp only [List.length_append, List.length_cons] at hl hk
    refine Wp.step ?_
    simp only [laws_markPartS_l2]
    simp (disch := omega) only [cbdec, if_pos, if_true, Int.reduceAdd, lt_mid, idx_mid, get_mid, set_mid, Option.bind_some, w64', qrem_nn, addk]
    refine Wp.bind (markText_ok (by omega)) (fun _ e => ?_); subst e
    try simp (disch := omega) only [cbdec, if_pos, if_true, Int.reduceAdd, lt_mid, idx_mid, get_mid, set_mid, Option.bind_some, w64', qrem_nn, addk]
    have key : ∀ y : DPart, (y.Text = mt k ∧ y.Last = ((k + 1) % 3 == 0)) → Wp (fun n => laws_markPartS_l2 n (k + 2) ((pre.length : Int) + 1) (pre ++ y :: t)) (fun r => r.1 = k + 2 * (x :: t).length ∧ ∃ t', r.2 = pre ++ t' ∧ t'.length = (x :: t).length ∧ MkSPart k t') := fun y hy => by
      have := markPartS_loop t (pre ++ [y]) (k + 2) (by simp; omega) (by omega) (by omega)
      rw [← mid_succ, ← mid_len] at this
      refine this.mono ?_
      rintro ⟨r1, r2⟩ ⟨e1, t', e2, e3, e4⟩
      refine ⟨by simp only [List.length_cons] at *; omega, y :: t', by rw [e2]; simp, by simp [e3], ?_⟩
      simp only [MkSPart]
      exact ⟨hy, e4⟩
    exact key _ (by simp)
theorem markPartS_ok {k : Int} {l : List DPart} (h0 : 0 ≤ k) (hk : k + 2 * l.length ≤ 1000000000000) (hl : l.length ≤ 100000000) : Wp (fun n => laws_markPartS n l k) (fun r => r.1 = k + 2 * l.length ∧ r.2.length = l.length ∧ MkSPart k r.2) := by
  unfold laws_markPartS
  refine (markPartS_loop l [] k (by simpa using hl) h0 hk).mono ?_
  rintro ⟨r1, r2⟩ ⟨e1, t', e2, e3, e4⟩
  simp only [List.nil_append] at e2
  subst e2
  exact ⟨e1, e3, e4⟩
def MkSItem : Int → List DItem → Prop
  | _, [] => True
  | k, x :: t => (x.Part.Text = mt k ∧ x.Part.Last = ((k + 1) % 3 == 0) ∧ x.Has = ((k + 2) % 3 == 0) ∧ x.Since = (k + 3)) ∧ MkSItem (k + 4) t
theorem heldItemS_loop : ∀ (t pre : List DItem) (k : Int), (pre ++ t).length ≤ 100000000 → 0 ≤ k → k + 4 * t.length ≤ 1000000000000 → MkSItem k t → Wp (fun n => laws_heldItemS_l2 n (pre ++ t) k (pre.length : Int)) (· = k + 4 * t.length)
  | [], pre, k, hl, h0, hk, _ => by
    refine Wp.step ?_
    simp only [laws_heldItemS_l2, List.append_nil]
    simp (disch := omega) only [cbdec, if_neg]
    exact Wp.ret (by simp)
  | x :: t, pre, k, hl, h0, hk, hm => by
    simp only [MkSItem] at hm
    obtain ⟨hm, hm2⟩ := hm
    simp only [List.length_append, List.length_cons] at hl hk
    refine Wp.step ?_
    simp only [laws_heldItemS_l2]
    have hlt := lt_mid (pre := pre) (t := t) (x := x)
    obtain ⟨m0, m1, m2, m3⟩ := hm
    simp (disch := first | omega | rfl | assumption) only [cbdec, cbne, cbnot, cbbeq, cbseq, if_pos, if_neg, if_true, eq_self, Int.reduceAdd, idx_mid, Option.bind_some, w64', qrem_nn, addk, hlt, m0, m1, m2, m3]
    refine Wp.bind (markText_ok (by omega)) (fun _ e => ?_); subst e
    try simp (disch := first | omega | rfl | assumption) only [cbdec, cbne, cbnot, cbbeq, cbseq, if_pos, if_neg, if_true, eq_self, Int.reduceAdd, idx_mid, Option.bind_some, w64', qrem_nn, addk, hlt, m0, m1, m2, m3]
    have ih : Wp (fun n => laws_heldItemS_l2 n (pre ++ x :: t) (k + 4) ((pre.length : Int) + 1)) (· = k + 4 + 4 * t.length) := by
      have := heldItemS_loop t (pre ++ [x]) (k + 4) (by simp; omega) (by omega) (by omega) hm2
      rwa [← mid_succ, ← mid_len] at this
    exact ih.mono (fun r hr => by simp only [List.length_cons]; omega)
theorem heldItemS_ok {k : Int} {l : List DItem} (h0 : 0 ≤ k) (hk : k + 4 * l.length ≤ 1000000000000) (hl : l.length ≤ 100000000) (hm : MkSItem k l) : Wp (fun n => laws_heldItemS n l k) (· = k + 4 * l.length) := by
  unfold laws_heldItemS
  exact heldItemS_loop l [] k (by simpa using hl) h0 hk hm
theorem markItemS_loop : ∀ (t pre : List DItem) (k : Int), (pre ++ t).length ≤ 100000000 → 0 ≤ k → k + 4 * t.length ≤ 1000000000000 → Wp (fun n => laws_markItemS_l2 n k (pre.length : Int) (pre ++ t)) (fun r => r.1 = k + 4 * t.length ∧ ∃ t', r.2 = pre ++ t' ∧ t'.length = t.length ∧ MkSItem k t')
  | [], pre, k, hl, h0, hk => by
    refine Wp.step ?_
    simp only [laws_markItemS_l2, List.append_nil]
    simp (disch := omega) only [cbdec, if_neg]
    exact Wp.ret ⟨by simp, [], by simp, rfl, trivial⟩
  | x :: t, pre, k, hl, h0, hk => by
    simp only [List.length_append, List.length_cons] at hl hk
    refine Wp.step ?_
    simp only [laws_markItemS_l2]
    simp (disch := omega) only [cbdec, if_pos, if_true, Int.reduceAdd, lt_mid, idx_mid, get_mid, set_mid, Option.bind_some, w64', qrem_nn, addk]
    refine Wp.bind (markText_ok (by omega)) (fun _ e => ?_); subst e
    try simp (disch := omega) only [cbdec, if_pos, if_true, Int.reduceAdd, lt_mid, idx_mid, get_mid, set_mid, Option.bind_some, w64', qrem_nn, addk]
    have key : ∀ y : DItem, (y.Part.Text = mt k ∧ y.Part.Last = ((k + 1) % 3 == 0) ∧ y.Has = ((k + 2) % 3 == 0) ∧ y.Since = (k + 3)) → Wp (fun n => laws_markItemS_l2 n (k + 4) ((pre.length : Int) + 1) (pre ++ y :: t)) (fun r => r.1 = k + 4 * (x :: t).length ∧ ∃ t', r.2 = pre ++ t' ∧ t'.length = (x :: t).length ∧ MkSItem k t') := fun y hy => by
      have := markItemS_loop t (pre ++ [y]) (k + 4) (by simp; omega) (by omega) (by omega)
      rw [← mid_succ, ← mid_len] at this
      refine this.mono ?_
      rintro ⟨r1, r2⟩ ⟨e1, t', e2, e3, e4⟩
      refine ⟨by simp only [List.length_cons] at *; omega, y :: t', by rw [e2]; simp, by simp [e3], ?_⟩
      simp only [MkSItem]
      exact ⟨hy, e4⟩
    exact key _ (by simp)
theorem markItemS_ok {k : Int} {l : List DItem} (h0 : 0 ≤ k) (hk : k + 4 * l.length ≤ 1000000000000) (hl : l.length ≤ 100000000) : Wp (fun n => laws_markItemS n l k) (fun r => r.1 = k + 4 * l.length ∧ r.2.length = l.length ∧ MkSItem k r.2) := by
  unfold laws_markItemS
  refine (markItemS_loop l [] k (by simpa using hl) h0 hk).mono ?_
  rintro ⟨r1, r2⟩ ⟨e1, t', e2, e3, e4⟩
  simp only [List.nil_append] at e2
  subst e2
  exact ⟨e1, e3, e4⟩
def MkSHeld : Int → List DHeld → Prop
  | _, [] => True
  | k, x :: t => (x.Seq = k ∧ x.Part.Text = mt (k + 1) ∧ x.Part.Last = ((k + 2) % 3 == 0)) ∧ MkSHeld (k + 3) t
theorem heldHeldS_loop : ∀ (t pre : List DHeld) (k : Int), (pre ++ t).length ≤ 100000000 → 0 ≤ k → k + 3 * t.length ≤ 1000000000000 → MkSHeld k t → Wp (fun n => laws_heldHeldS_l2 n (pre ++ t) k (pre.length : Int)) (· = k + 3 * t.length)
  | [], pre, k, hl, h0, hk, _ => by
    refine Wp.step ?_
    simp only [laws_heldHeldS_l2, List.append_nil]
    simp (disch := omega) only [cbdec, if_neg]
    exact Wp.ret (by simp)
  | x :: t, pre, k, hl, h0, hk, hm => by
    simp only [MkSHeld] at hm
    obtain ⟨hm, hm2⟩ := hm
    simp only [List.length_append, List.length_cons] at hl hk
    refine Wp.step ?_
    simp only [laws_heldHeldS_l2]
    have hlt := lt_mid (pre := pre) (t := t) (x := x)
    obtain ⟨m0, m1, m2⟩ := hm
    simp (disch := first | omega | rfl | assumption) only [cbdec, cbne, cbnot, cbbeq, cbseq, if_pos, if_neg, if_true, eq_self, Int.reduceAdd, idx_mid, Option.bind_some, w64', qrem_nn, addk, hlt, m0, m1, m2]
    refine Wp.bind (markText_ok (by omega)) (fun _ e => ?_); subst e
    try simp (disch := first | omega | rfl | assumption) only [cbdec, cbne, cbnot, cbbeq, cbseq, if_pos, if_neg, if_true, eq_self, Int.reduceAdd, idx_mid, Option.bind_some, w64', qrem_nn, addk, hlt, m0, m1, m2]
    have ih : Wp (fun n => laws_heldHeldS_l2 n (pre ++ x :: t) (k + 3) ((pre.length : Int) + 1)) (· = k + 3 + 3 * t.length) := by
      have := heldHeldS_loop t (pre ++ [x]) (k + 3) (by simp; omega) (by omega) (by omega) hm2
      rwa [← mid_succ, ← mid_len] at this
    exact ih.mono (fun r hr => by simp only [List.length_cons]; omega)
theorem heldHeldS_ok {k : Int} {l : List DHeld} (h0 : 0 ≤ k) (hk : k + 3 * l.length ≤ 1000000000000) (hl : l.length ≤ 100000000) (hm : MkSHeld k l) : Wp (fun n => laws_heldHeldS n l k) (· = k + 3 * l.length) := by
  unfold laws_heldHeldS
  exact heldHeldS_loop l [] k (by simpa using hl) h0 hk hm
theorem markHeldS_loop : ∀ (t pre : List DHeld) (k : Int), (pre ++ t).length ≤ 100000000 → 0 ≤ k → k + 3 * t.length ≤ 1000000000000 → Wp (fun n => laws_markHeldS_l2 n k (pre.length : Int) (pre ++ t)) (fun r => r.1 = k + 3 * t.length ∧ ∃ t', r.2 = pre ++ t' ∧ t'.length = t.length ∧ MkSHeld k t')
  | [], pre, k, hl, h0, hk => by
    refine Wp.step ?_
    simp only [laws_markHeldS_l2, List.append_nil]
    simp (disch := omega) only [cbdec, if_neg]
    exact Wp.ret ⟨by simp, [], by simp, rfl, trivial⟩
  | x :: t, pre, k, hl, h0, hk => by
    simp only [List.length_append, List.length_cons] at hl hk
    refine Wp.step ?_
    simp only [laws_markHeldS_l2]
    simp (disch := omega) only [cbdec, if_pos, if_true, Int.reduceAdd, lt_mid, idx_mid, get_mid, set_mid, Option.bind_some, w64', qrem_nn, addk]
    refine Wp.bind (markText_ok (by omega)) (fun _ e => ?_); subst e
    try simp (disch := omega) only [cbdec, if_pos, if_true, Int.reduceAdd, lt_mid, idx_mid, get_mid, set_mid, Option.bind_some, w64', qrem_nn, addk]
    have key : ∀ y : DHeld, (y.Seq = k ∧ y.Part.Text = mt (k + 1) ∧ y.Part.Last = ((k + 2) % 3 == 0)) → Wp (fun n => laws_markHeldS_l2 n (k + 3) ((pre.length : Int) + 1) (pre ++ y :: t)) (fun r => r.1 = k + 3 * (x :: t).length ∧ ∃ t', r.2 = pre ++ t' ∧ t'.length = (x :: t).length ∧ MkSHeld k t') := fun y hy => by
      have := markHeldS_loop t (pre ++ [y]) (k + 3) (by simp; omega) (by omega) (by omega)
      rw [← mid_succ, ← mid_len] at this
      refine this.mono ?_
      rintro ⟨r1, r2⟩ ⟨e1, t', e2, e3, e4⟩
      refine ⟨by simp only [List.length_cons] at *; omega, y :: t', by rw [e2]; simp, by simp [e3], ?_⟩
      simp only [MkSHeld]
      exact ⟨hy, e4⟩
    exact key _ (by simp)
theorem markHeldS_ok {k : Int} {l : List DHeld} (h0 : 0 ≤ k) (hk : k + 3 * l.length ≤ 1000000000000) (hl : l.length ≤ 100000000) : Wp (fun n => laws_markHeldS n l k) (fun r => r.1 = k + 3 * l.length ∧ r.2.length = l.length ∧ MkSHeld k r.2) := by
  unfold laws_markHeldS
  refine (markHeldS_loop l [] k (by simpa using hl) h0 hk).mono ?_
  rintro ⟨r1, r2⟩ ⟨e1, t', e2, e3, e4⟩
  simp only [List.nil_append] at e2
  subst e2
  exact ⟨e1, e3, e4⟩
def MkSString : Int → List ByteArray → Prop
  | _, [] => True
  | k, x :: t => (x = mt k) ∧ MkSString (k + 1) t
theorem heldStringS_loop : ∀ (t pre : List ByteArray) (k : Int), (pre ++ t).length ≤ 100000000 → 0 ≤ k → k + 1 * t.length ≤ 1000000000000 → MkSString k t → Wp (fun n => laws_heldStringS_l2 n (pre ++ t) k (pre.length : Int)) (· = k + 1 * t.length)
  | [], pre, k, hl, h0, hk, _ => by
    refine Wp.step ?_
    simp only [laws_heldStringS_l2, List.append_nil]
    simp (disch := omega) only [cbdec, if_neg]
    exact Wp.ret (by simp)
  | x :: t, pre, k, hl, h0, hk, hm => by
    simp only [MkSString] at hm
    obtain ⟨hm, hm2⟩ := hm
    simp only [List.length_append, List.length_cons] at hl hk
    refine Wp.step ?_
    simp only [laws_heldStringS_l2]
    have hlt := lt_mid (pre := pre) (t := t) (x := x)
    have m0 := hm
    simp (disch := first | omega | rfl | assumption) only [cbdec, cbne, cbnot, cbbeq, cbseq, if_pos, if_neg, if_true, eq_self, Int.reduceAdd, idx_mid, Option.bind_some, w64', qrem_nn, addk, hlt, true_and]
    refine Wp.bind (markText_ok (by omega)) (fun _ e => ?_); subst e
    try simp (disch := first | omega | rfl | assumption) only [cbdec, cbne, cbnot, cbbeq, cbseq, if_pos, if_neg, if_true, eq_self, Int.reduceAdd, idx_mid, Option.bind_some, w64', qrem_nn, addk, hlt, true_and]
    have ih : Wp (fun n => laws_heldStringS_l2 n (pre ++ x :: t) (k + 1) ((pre.length : Int) + 1)) (· = k + 1 + 1 * t.length) := by
      have := heldStringS_loop t (pre ++ [x]) (k + 1) (by simp; omega) (by omega) (by omega) hm2
      rwa [← mid_succ, ← mid_len] at this
    exact ih.mono (fun r hr => by simp only [List.length_cons]; omega)
theorem heldStringS_ok {k : Int} {l : List ByteArray} (h0 : 0 ≤ k) (hk : k + 1 * l.length ≤ 1000000000000) (hl : l.length ≤ 100000000) (hm : MkSString k l) : Wp (fun n => laws_heldStringS n l k) (· = k + 1 * l.length) := by
  unfold laws_heldStringS
  exact heldStringS_loop l [] k (by simpa using hl) h0 hk hm
theorem markStringS_loop : ∀ (t pre : List ByteArray) (k : Int), (pre ++ t).length ≤ 100000000 → 0 ≤ k → k + 1 * t.length ≤ 1000000000000 → Wp (fun n => laws_markStringS_l2 n k (pre.length : Int) (pre ++ t)) (fun r => r.1 = k + 1 * t.length ∧ ∃ t', r.2 = pre ++ t' ∧ t'.length = t.length ∧ MkSString k t')
  | [], pre, k, hl, h0, hk => by
    refine Wp.step ?_
    simp only [laws_markStringS_l2, List.append_nil]
    simp (disch := omega) only [cbdec, if_neg]
    exact Wp.ret ⟨by simp, [], by simp, rfl, trivial⟩
  | x :: t, pre, k, hl, h0, hk => by
    simp only [List.length_append, List.length_cons] at hl hk
    refine Wp.step ?_
    simp only [laws_markStringS_l2]
    simp (disch := omega) only [cbdec, if_pos, if_true, Int.reduceAdd, lt_mid, idx_mid, get_mid, set_mid, Option.bind_some, w64', qrem_nn, addk]
    refine Wp.bind (markText_ok (by omega)) (fun _ e => ?_); subst e
    try simp (disch := omega) only [cbdec, if_pos, if_true, Int.reduceAdd, lt_mid, idx_mid, get_mid, set_mid, Option.bind_some, w64', qrem_nn, addk]
    have key : ∀ y : ByteArray, (y = mt k) → Wp (fun n => laws_markStringS_l2 n (k + 1) ((pre.length : Int) + 1) (pre ++ y :: t)) (fun r => r.1 = k + 1 * (x :: t).length ∧ ∃ t', r.2 = pre ++ t' ∧ t'.length = (x :: t).length ∧ MkSString k t') := fun y hy => by
      have := markStringS_loop t (pre ++ [y]) (k + 1) (by simp; omega) (by omega) (by omega)
      rw [← mid_succ, ← mid_len] at this
      refine this.mono ?_
      rintro ⟨r1, r2⟩ ⟨e1, t', e2, e3, e4⟩
      refine ⟨by simp only [List.length_cons] at *; omega, y :: t', by rw [e2]; simp, by simp [e3], ?_⟩
      simp only [MkSString]
      exact ⟨hy, e4⟩
    exact key _ (by simp)
theorem markStringS_ok {k : Int} {l : List ByteArray} (h0 : 0 ≤ k) (hk : k + 1 * l.length ≤ 1000000000000) (hl : l.length ≤ 100000000) : Wp (fun n => laws_markStringS n l k) (fun r => r.1 = k + 1 * l.length ∧ r.2.length = l.length ∧ MkSString k r.2) := by
  unfold laws_markStringS
  refine (markStringS_loop l [] k (by simpa using hl) h0 hk).mono ?_
  rintro ⟨r1, r2⟩ ⟨e1, t', e2, e3, e4⟩
  simp only [List.nil_append] at e2
  subst e2
  exact ⟨e1, e3, e4⟩
def MkSInt : Int → List Int → Prop
  | _, [] => True
  | k, x :: t => (x = k) ∧ MkSInt (k + 1) t
theorem heldIntS_loop : ∀ (t pre : List Int) (k : Int), (pre ++ t).length ≤ 100000000 → 0 ≤ k → k + 1 * t.length ≤ 1000000000000 → MkSInt k t → Wp (fun n => laws_heldIntS_l2 n (pre ++ t) k (pre.length : Int)) (· = k + 1 * t.length)
  | [], pre, k, hl, h0, hk, _ => by
    refine Wp.step ?_
    simp only [laws_heldIntS_l2, List.append_nil]
    simp (disch := omega) only [cbdec, if_neg]
    exact Wp.ret (by simp)
  | x :: t, pre, k, hl, h0, hk, hm => by
    simp only [MkSInt] at hm
    obtain ⟨hm, hm2⟩ := hm
    simp only [List.length_append, List.length_cons] at hl hk
    refine Wp.step ?_
    simp only [laws_heldIntS_l2]
    have hlt := lt_mid (pre := pre) (t := t) (x := x)
    have m0 := hm
    simp (disch := first | omega | rfl | assumption) only [cbdec, cbne, cbnot, cbbeq, cbseq, if_pos, if_neg, if_true, eq_self, Int.reduceAdd, idx_mid, Option.bind_some, w64', qrem_nn, addk, hlt, true_and]
    have ih : Wp (fun n => laws_heldIntS_l2 n (pre ++ x :: t) (k + 1) ((pre.length : Int) + 1)) (· = k + 1 + 1 * t.length) := by
      have := heldIntS_loop t (pre ++ [x]) (k + 1) (by simp; omega) (by omega) (by omega) hm2
      rwa [← mid_succ, ← mid_len] at this
    exact ih.mono (fun r hr => by simp only [List.length_cons]; omega)
theorem heldIntS_ok {k : Int} {l : List Int} (h0 : 0 ≤ k) (hk : k + 1 * l.length ≤ 1000000000000) (hl : l.length ≤ 100000000) (hm : MkSInt k l) : Wp (fun n => laws_heldIntS n l k) (· = k + 1 * l.length) := by
  unfold laws_heldIntS
  exact heldIntS_loop l [] k (by simpa using hl) h0 hk hm
theorem markIntS_loop : ∀ (t pre : List Int) (k : Int), (pre ++ t).length ≤ 100000000 → 0 ≤ k → k + 1 * t.length ≤ 1000000000000 → Wp (fun n => laws_markIntS_l2 n k (pre.length : Int) (pre ++ t)) (fun r => r.1 = k + 1 * t.length ∧ ∃ t', r.2 = pre ++ t' ∧ t'.length = t.length ∧ MkSInt k t')
  | [], pre, k, hl, h0, hk => by
    refine Wp.step ?_
    simp only [laws_markIntS_l2, List.append_nil]
    simp (disch := omega) only [cbdec, if_neg]
    exact Wp.ret ⟨by simp, [], by simp, rfl, trivial⟩
  | x :: t, pre, k, hl, h0, hk => by
    simp only [List.length_append, List.length_cons] at hl hk
    refine Wp.step ?_
    simp only [laws_markIntS_l2]
    simp (disch := omega) only [cbdec, if_pos, if_true, Int.reduceAdd, lt_mid, idx_mid, get_mid, set_mid, Option.bind_some, w64', qrem_nn, addk]
    have key : ∀ y : Int, (y = k) → Wp (fun n => laws_markIntS_l2 n (k + 1) ((pre.length : Int) + 1) (pre ++ y :: t)) (fun r => r.1 = k + 1 * (x :: t).length ∧ ∃ t', r.2 = pre ++ t' ∧ t'.length = (x :: t).length ∧ MkSInt k t') := fun y hy => by
      have := markIntS_loop t (pre ++ [y]) (k + 1) (by simp; omega) (by omega) (by omega)
      rw [← mid_succ, ← mid_len] at this
      refine this.mono ?_
      rintro ⟨r1, r2⟩ ⟨e1, t', e2, e3, e4⟩
      refine ⟨by simp only [List.length_cons] at *; omega, y :: t', by rw [e2]; simp, by simp [e3], ?_⟩
      simp only [MkSInt]
      exact ⟨hy, e4⟩
    exact key _ (by simp)
theorem markIntS_ok {k : Int} {l : List Int} (h0 : 0 ≤ k) (hk : k + 1 * l.length ≤ 1000000000000) (hl : l.length ≤ 100000000) : Wp (fun n => laws_markIntS n l k) (fun r => r.1 = k + 1 * l.length ∧ r.2.length = l.length ∧ MkSInt k r.2) := by
  unfold laws_markIntS
  refine (markIntS_loop l [] k (by simpa using hl) h0 hk).mono ?_
  rintro ⟨r1, r2⟩ ⟨e1, t', e2, e3, e4⟩
  simp only [List.nil_append] at e2
  subst e2
  exact ⟨e1, e3, e4⟩
end Km.X
namespace Km.X
open Go Km
set_option linter.unusedVariables false
set_option linter.unusedSimpArgs false
abbrev noB : ByteArray := ⟨#[]⟩
theorem noB_size : noB.size = 0 := rfl
theorem bstr_fold (bs : List Int) : ∀ (s : ByteArray), bs.foldl (fun r n => r.push (UInt8.ofNat n.toNat)) s = s ++ bstr bs := by
  induction bs with
  | nil => intro s; simp [bstr]
  | cons b bs ih =>
    intro s
    simp only [List.foldl_cons, bstr]
    rw [ih, ih]
    apply ByteArray.ext; apply Array.ext'
    simp
theorem bstr_cons (b : Int) (bs : List Int) : bstr [b] ++ bstr bs = bstr (b :: bs) := by
  have := bstr_fold bs (bstr [b])
  rw [← this]; rfl
theorem bstr_nil : bstr [] = noB := rfl
/-- the w lowest bytes, the highest first -/
def bytesL : Nat → Nat → List Int
  | 0, _ => []
  | w + 1, n => bytesL w (n / 256) ++ [((n % 256 : Nat) : Int)]
theorem bytesL_length : ∀ (w n : Nat), (bytesL w n).length = w
  | 0, _ => rfl
  | w + 1, n => by simp [bytesL, bytesL_length w]
theorem bytesL_drop (d : Nat) : ∀ (w n : Nat), (bytesL (w + d) n).drop d = bytesL w n
  | 0, n => by
    rw [Nat.zero_add, List.drop_eq_nil_of_le (by rw [bytesL_length]; exact Nat.le_refl _)]; rfl
  | w + 1, n => by
    rw [show w + 1 + d = (w + d) + 1 by omega]
    simp only [bytesL]
    rw [List.drop_append_of_le_length (by rw [bytesL_length]; omega), bytesL_drop d w]
theorem wu8 (n : Nat) : IntKind.wrap .u8 (n : Int) = ((n % 256 : Nat) : Int) := by rw [IntKind.wrap_u8]; omega
theorem wu64 {n : Int} (h1 : 0 ≤ n) (h2 : n ≤ 18446744073709551615) : IntKind.wrap .u64 n = n := IntWalk.u64_in n ⟨h1, h2⟩
theorem wu64_range (n : Int) : 0 ≤ IntKind.wrap .u64 n ∧ IntKind.wrap .u64 n ≤ 18446744073709551615 := by
  simp only [IntKind.wrap, IntKind.signed, IntKind.bits, Bool.false_and]
  rw [if_neg (by simp)]; omega
theorem qrem_nat (n : Nat) : qrem (n : Int) 256 = some ((n % 256 : Nat) : Int) := by rw [qrem_nn (by omega) (by omega)]; simp
theorem qdiv_nat (n : Nat) : qdiv (n : Int) 256 = some ((n / 256 : Nat) : Int) := by rw [qdiv_nn (by omega) (by omega)]; simp
theorem wu8_mod (n : Nat) : IntKind.wrap .u8 ((n % 256 : Nat) : Int) = ((n % 256 : Nat) : Int) := by rw [wu8, Nat.mod_mod]
theorem shr8 {k : IntKind} (hk : 8 ≤ k.bits) (n : Nat) : shift .shr k (n : Int) 8 = some ((n / 256 : Nat) : Int) := by
  simp only [shift]
  rw [if_neg (by omega)]
  congr 1
  rw [show (Int.toNat 8) = 8 from rfl, Nat.min_eq_left hk, Int.fdiv_eq_ediv_of_nonneg _ (by simp)]
  simp
theorem sadd_bstr (b : Int) (bs : List Int) (h : bs.length ≤ 1000) : sadd (bstr [b]) (bstr bs) = some (bstr (b :: bs)) := by
  rw [sadd_ok (by rw [bstr_size, bstr_size]; simp; omega), bstr_cons]
theorem set_bytes {d n : Nat} {b : List Int} (hlt : d < b.length) : bytesL d (n / 256) ++ (b.set d ((n % 256 : Nat) : Int)).drop d = bytesL (d + 1) n ++ b.drop (d + 1) := by
  simp only [bytesL, List.append_assoc, List.cons_append, List.nil_append]
  congr 1
  rw [List.drop_eq_getElem_cons (by simpa using hlt), List.drop_set_of_lt (by omega)]
  simp

theorem specTag11 : ∀ (d w i n : Nat) (tail : List Int), i + d = w → w ≤ 8 → n ≤ 18446744073709551615 → tail.length + d ≤ 100 →
    Wp (fun k => spec_Tag_l11 k (w : Int) (n : Int) (bstr tail) (i : Int)) (· = bstr (bytesL d n ++ tail))
  | 0, w, i, n, tail, h, hw, hn, ht => by
    refine Wp.step ?_
    simp only [spec_Tag_l11]
    simp (disch := omega) only [cbdec, if_neg]
    exact Wp.ret rfl
  | d + 1, w, i, n, tail, h, hw, hn, ht => by
    refine Wp.step ?_
    simp only [spec_Tag_l11]
    simp (disch := omega) only [cbdec, if_pos, qrem_nat, qdiv_nat, Option.bind_some, wu8_mod, sadd_bstr, wu64, w64', castS]
    have ih := specTag11 d w (i + 1) (n / 256) (((n % 256 : Nat) : Int) :: tail) (by omega) hw (by omega) (by simp; omega)
    simpa [bytesL] using ih
theorem implTag11 : ∀ (d w n : Nat) (b : List Int), b.length = 8 → d ≤ 8 → 1 ≤ w → w ≤ 8 → n ≤ 18446744073709551615 →
    Wp (fun k => impl_Tag_l11 k (w : Int) (n : Int) ((d : Int) - 1) b) (· = bstr ((bytesL d n ++ b.drop d).drop (8 - w)))
  | 0, w, n, b, hb, hd, hw1, hw, hn => by
    refine Wp.step ?_
    simp only [impl_Tag_l11]
    simp (disch := omega) only [cbdec, if_neg, if_pos hb, w64', wnd_ok, Option.bind_some]
    refine Wp.ret ?_
    simp only [bytesL, List.nil_append, List.drop_zero, dcut]
    rw [show ((8 : Int) - (w : Int)).toNat = 8 - w by omega, show Int.toNat 8 = 8 from rfl, List.take_of_length_le (by omega)]
  | d + 1, w, n, b, hb, hd, hw1, hw, hn => by
    refine Wp.step ?_
    simp only [impl_Tag_l11]
    rw [show ((d + 1 : Nat) : Int) - 1 = (d : Int) by omega]
    have hlt : d < b.length := by omega
    simp (disch := first | omega | decide) only [cbdec, if_pos, if_pos hb, idxN, getN, Option.bind_some, shr8, w64', wu8]
    have ih := implTag11 d w (n / 256) (b.set d ((n % 256 : Nat) : Int)) (by simpa using hb) (by omega) hw1 hw (by omega)
    rw [set_bytes hlt] at ih
    rw [Int.toNat_natCast]
    exact ih

def hstep (v : Int) (c : UInt8) : Int := IntKind.wrap .u64 ((bitsXor .u64 v (IntKind.wrap .u64 (c.toNat : Int))) * 1099511628211)
def hashL (l : List UInt8) : Int := l.foldl hstep 14695981039346656037
theorem hash_range : ∀ (l : List UInt8) (v : Int), 0 ≤ v ∧ v ≤ 18446744073709551615 → 0 ≤ l.foldl hstep v ∧ l.foldl hstep v ≤ 18446744073709551615
  | [], v, h => h
  | c :: l, v, h => hash_range l _ (wu64_range _)
theorem bidx_mid {pre t : List UInt8} {c : UInt8} {all : ByteArray} (h : all.data.toList = pre ++ c :: t) : bidx all (pre.length : Int) = some c := by
  have hl : pre.length < all.size := by
    have := congrArg List.length h
    simp at this
    have e : all.size = all.data.size := rfl
    omega
  have hg : all.data[pre.length]? = some c := by
    rw [← Array.getElem?_toList, h]; simp
  unfold bidx
  rw [if_neg (by omega), Int.toNat_natCast]
  have e : all[pre.length]? = some (all[pre.length]'hl) := by simp [hl]
  rw [e]
  rw [Array.getElem?_eq_getElem (by exact hl)] at hg
  exact hg
theorem size_mid {pre t : List UInt8} {all : ByteArray} (h : all.data.toList = pre ++ t) : all.size = pre.length + t.length := by
  have := congrArg List.length h
  simp at this
  exact this
theorem specTag6 (all : ByteArray) (w : Nat) (hw : w ≤ 8) (hs : all.size ≤ 10000000) : ∀ (t pre : List UInt8) (v : Int), all.data.toList = pre ++ t → 0 ≤ v ∧ v ≤ 18446744073709551615 →
    Wp (fun k => spec_Tag_l6 k (w : Int) all v (pre.length : Int)) (· = bstr (bytesL w (t.foldl hstep v).toNat))
  | [], pre, v, h, hv => by
    refine Wp.step ?_
    have := size_mid h
    simp only [List.length_nil] at this
    simp only [spec_Tag_l6]
    simp (disch := omega) only [cbdec, if_neg]
    have h11 := specTag11 w w 0 v.toNat [] (by omega) hw (by omega) (by simp; omega)
    rw [List.append_nil, show ((v.toNat : Nat) : Int) = v by omega, bstr_nil] at h11
    exact h11
  | c :: t, pre, v, h, hv => by
    refine Wp.step ?_
    have hl := size_mid h
    simp only [List.length_cons] at hl
    simp only [spec_Tag_l6]
    simp (disch := omega) only [cbdec, if_pos, bidx_mid h, Option.bind_some, w64']
    have ih := specTag6 all w hw hs t (pre ++ [c]) (hstep v c) (by simpa using h) (wu64_range _)
    rwa [← mid_len] at ih
theorem implTag6 (all : ByteArray) (w : Nat) (hw1 : 1 ≤ w) (hw : w ≤ 8) (hs : all.size ≤ 10000000) : ∀ (t pre : List UInt8) (v : Int), all.data.toList = pre ++ t → 0 ≤ v ∧ v ≤ 18446744073709551615 →
    Wp (fun k => impl_Tag_l6 k (w : Int) v all (pre.length : Int)) (· = bstr (bytesL w (t.foldl hstep v).toNat))
  | [], pre, v, h, hv => by
    refine Wp.step ?_
    have := size_mid h
    simp only [List.length_nil] at this
    simp only [impl_Tag_l6]
    simp (disch := omega) only [cbdec, if_neg]
    have h11 := implTag11 8 w v.toNat (List.replicate 8 0) (by simp) (by omega) hw1 hw (by omega)
    rw [show ((v.toNat : Nat) : Int) = v by omega] at h11
    have hd := bytesL_drop (8 - w) w v.toNat
    rw [show w + (8 - w) = 8 by omega] at hd
    refine Wp.mono h11 fun r hr => ?_
    rw [hr, show List.drop 8 (List.replicate 8 (0 : Int)) = [] from rfl, List.append_nil, hd]
    rfl
  | c :: t, pre, v, h, hv => by
    refine Wp.step ?_
    have hl := size_mid h
    simp only [List.length_cons] at hl
    simp only [impl_Tag_l6]
    simp (disch := omega) only [cbdec, if_pos, bidx_mid h, Option.bind_some, w64']
    have ih := implTag6 all w hw1 hw hs t (pre ++ [c]) (hstep v c) (by simpa using h) (wu64_range _)
    rwa [← mid_len] at ih

theorem l1In_ok (a b c : Int) : Wp (fun k => spec_l1In k a b c) (· = (decide (b ≤ a) && decide (a ≤ c))) := by
  unfold spec_l1In
  refine Wp.dec (fun h => Wp.ret ?_) (fun h => Wp.ret ?_)
  · rw [decide_eq_true (show b ≤ a by omega)]; rfl
  · rw [decide_eq_false (show ¬ b ≤ a by omega)]; rfl
theorem in_ok (a b c : Int) : Wp (fun k => impl_in k a b c) (· = (decide (b ≤ a) && decide (a ≤ c))) := l1In_ok a b c
theorem inB {a b c : Int} : (decide (b ≤ a) && decide (a ≤ c)) = decide (b ≤ a ∧ a ≤ c) := by rw [Bool.decide_and]

/-- the tag -/
def tagM (a b : ByteArray) (w : Int) : ByteArray := if w < 1 ∨ 8 < w ∨ 30 < b.size then noB else bstr (bytesL w.toNat (hashL (b ++ ⟨#[0]⟩ ++ a).data.toList).toNat)
theorem specTag_ok (a b : ByteArray) (w : Int) (ha : a.size ≤ 1048576) : Wp (fun k => spec_Tag k a b w) (· = tagM a b w) := by
  unfold spec_Tag tagM
  refine Wp.bind (l1In_ok _ _ _) (fun _ e => ?_); subst e
  simp only [inB, cbnot, cbdec]
  refine Wp.ite (fun h1 => ?_) (fun h1 => ?_)
  · refine Wp.ite (fun h2 => ?_) (fun h2 => ?_)
    · rw [if_pos (by omega)]; exact Wp.ret rfl
    · rw [if_neg (by omega)]
      have e0 : (⟨#[0]⟩ : ByteArray).size = 1 := rfl
      have hsz : (b ++ ⟨#[0]⟩ ++ a).size = b.size + 1 + a.size := by rw [ba_size_append, ba_size_append, e0]
      refine Wp.opt (sadd_ok (by rw [e0]; omega)) ?_
      refine Wp.opt (sadd_ok (by rw [ba_size_append, e0]; omega)) ?_
      obtain ⟨n, rfl⟩ : ∃ n : Nat, w = n := ⟨w.toNat, by omega⟩
      exact specTag6 _ n (by omega) (by omega) _ [] _ rfl (by omega)
  · rw [if_pos (by omega)]; exact Wp.ret rfl
theorem implTag_ok (a b : ByteArray) (w : Int) (ha : a.size ≤ 1048576) : Wp (fun k => impl_Tag k a b w) (· = tagM a b w) := by
  unfold impl_Tag tagM
  simp only [cbdec]
  refine Wp.ite (fun h1 => ?_) (fun h1 => ?_)
  · rw [if_pos (by omega)]; exact Wp.ret rfl
  refine Wp.ite (fun h2 => ?_) (fun h2 => ?_)
  · rw [if_pos (by omega)]; exact Wp.ret rfl
  refine Wp.ite (fun h3 => ?_) (fun h3 => ?_)
  · rw [if_pos (by omega)]; exact Wp.ret rfl
  rw [if_neg (by omega)]
  have e0 : (⟨#[0]⟩ : ByteArray).size = 1 := rfl
  have hsz : (b ++ ⟨#[0]⟩ ++ a).size = b.size + 1 + a.size := by rw [ba_size_append, ba_size_append, e0]
  refine Wp.opt (sadd_ok (by rw [e0]; omega)) ?_
  refine Wp.opt (sadd_ok (by rw [ba_size_append, e0]; omega)) ?_
  obtain ⟨n, rfl⟩ : ∃ n : Nat, w = n := ⟨w.toNat, by omega⟩
  exact implTag6 _ n (by omega) (by omega) (by omega) _ [] _ rfl (by omega)
theorem tagM_size (a b : ByteArray) (w : Int) : (tagM a b w).size ≤ 8 := by
  unfold tagM
  split
  · simp [noB_size]
  · rw [bstr_size, bytesL_length]; omega
theorem tagM_size' (a b : ByteArray) (w : Int) (hw : 1 ≤ w ∧ w ≤ 8) (hb : b.size ≤ 30) : (tagM a b w).size = w.toNat := by
  unfold tagM
  rw [if_neg (by omega), bstr_size, bytesL_length]
end Km.X
namespace Km.X
open Go Km
set_option linter.unusedVariables false
set_option linter.unusedSimpArgs false
/-- a packet that may be written -/
def Fits (p : DPacket) : Prop :=
  (1 ≤ p.From ∧ p.From ≤ 2) ∧ (1 ≤ p.Mine ∧ p.Mine ≤ 1000) ∧ (0 ≤ p.Yours ∧ p.Yours ≤ 1000) ∧
  ((p.Kind = 1 ∧ (0 ≤ p.Next ∧ p.Next ≤ 1000000) ∧ (0 ≤ p.Mask ∧ p.Mask ≤ 255) ∧ p.Seq = 0 ∧ p.Last = false ∧ p.Part = noB) ∨
   (p.Kind = 2 ∧ p.Next = 0 ∧ p.Mask = 0 ∧ (0 ≤ p.Seq ∧ p.Seq ≤ 999999) ∧ p.Part.size ≤ 20))
instance (p : DPacket) : Decidable (Fits p) := by unfold Fits; infer_instance

theorem validPacket_ok (p : DPacket) : Wp (fun k => impl_validPacket k p) (· = decide (Fits p)) := by
  unfold impl_validPacket
  have key : (p.From = 1 ∨ p.From = 2) → Wp (fun k =>
    (impl_in k p.Mine 1 1000).bind fun r6 =>
    bif (!r6) then
      some false
    else
      (impl_in k p.Yours 0 1000).bind fun r7 =>
      bif (!r7) then
        some false
      else
        bif (p.Kind == 1) then
          (impl_in k p.Next 0 1000000).bind fun r8 =>
          bif r8 then
            (impl_in k p.Mask 0 255).bind fun r9 =>
            bif r9 then
              bif (p.Seq == 0) then
                bif (!p.Last) then
                  some (p.Part.toList == (⟨#[]⟩ : ByteArray).toList)
                else
                  some false
              else
                some false
            else
              some false
          else
            some false
        else
          bif (p.Kind == 2) then
            bif (p.Next == 0) then
              bif (p.Mask == 0) then
                (impl_in k p.Seq 0 999999).bind fun r10 =>
                bif r10 then
                  some (decide ((p.Part.size : Int) ≤ 20))
                else
                  some false
              else
                some false
            else
              some false
          else
            some false) (· = decide (Fits p)) := by
    intro hf
    have F : ∀ {Q : Prop}, (Fits p → False) → false = decide (Fits p) := fun h => (decide_eq_false h).symm
    refine Wp.bind (in_ok _ _ _) (fun _ e => ?_); subst e
    simp only [inB, cbnot, cbdec, cbeq, seqB]
    refine Wp.ite (fun h1 => ?_) (fun h1 => Wp.ret (F (Q := True) fun h => h1 h.2.1))
    refine Wp.bind (in_ok _ _ _) (fun _ e => ?_); subst e
    simp only [inB, cbnot, cbdec, cbeq, seqB]
    refine Wp.ite (fun h2 => ?_) (fun h2 => Wp.ret (F (Q := True) fun h => h2 h.2.2.1))
    refine Wp.ite (fun h3 => ?_) (fun h3 => ?_)
    · have W : Fits p → (0 ≤ p.Next ∧ p.Next ≤ 1000000) ∧ (0 ≤ p.Mask ∧ p.Mask ≤ 255) ∧ p.Seq = 0 ∧ p.Last = false ∧ p.Part = noB := fun h => by
        rcases h.2.2.2 with h | h
        · exact h.2
        · omega
      refine Wp.bind (in_ok _ _ _) (fun _ e => ?_); subst e
      simp only [inB, cbnot, cbdec, cbeq, seqB]
      refine Wp.ite (fun h4 => ?_) (fun h4 => Wp.ret (F (Q := True) fun h => h4 (W h).1))
      refine Wp.bind (in_ok _ _ _) (fun _ e => ?_); subst e
      simp only [inB, cbnot, cbdec, cbeq, seqB]
      refine Wp.ite (fun h5 => ?_) (fun h5 => Wp.ret (F (Q := True) fun h => h5 (W h).2.1))
      refine Wp.ite (fun h6 => ?_) (fun h6 => Wp.ret (F (Q := True) fun h => h6 (W h).2.2.1))
      refine Wp.bif (fun h7 => Wp.ret (F (Q := True) fun h => by rw [(W h).2.2.2.1] at h7; cases h7)) (fun h7 => ?_)
      refine Wp.ret ?_
      rw [decide_eq_decide]
      exact ⟨fun h => ⟨by omega, h1, h2, .inl ⟨h3, h4, h5, h6, h7, h⟩⟩, fun h => (W h).2.2.2.2⟩
    · refine Wp.ite (fun h4 => ?_) (fun h4 => Wp.ret (F (Q := True) fun h => by rcases h.2.2.2 with h | h <;> omega))
      have W : Fits p → p.Next = 0 ∧ p.Mask = 0 ∧ (0 ≤ p.Seq ∧ p.Seq ≤ 999999) ∧ p.Part.size ≤ 20 := fun h => by
        rcases h.2.2.2 with h | h
        · omega
        · exact h.2
      refine Wp.ite (fun h5 => ?_) (fun h5 => Wp.ret (F (Q := True) fun h => h5 (W h).1))
      refine Wp.ite (fun h6 => ?_) (fun h6 => Wp.ret (F (Q := True) fun h => h6 (W h).2.1))
      refine Wp.bind (in_ok _ _ _) (fun _ e => ?_); subst e
      simp only [inB, cbnot, cbdec, cbeq, seqB]
      refine Wp.ite (fun h7 => ?_) (fun h7 => Wp.ret (F (Q := True) fun h => h7 (W h).2.2.1))
      refine Wp.ret ?_
      rw [decide_eq_decide]
      exact ⟨fun h => ⟨by omega, h1, h2, .inr ⟨h4, h5, h6, h7, by omega⟩⟩, fun h => by have := (W h).2.2.2; omega⟩
  simp only [cbne]
  refine Wp.ite (fun h => key (.inl h)) (fun h => ?_)
  refine Wp.ite (fun h => key (.inr h)) (fun h2 => Wp.ret (decide_eq_false ?_).symm)
  intro h'
  have := h'.1
  omega
theorem l2Ok_same (p : DPacket) (h : 1 ≤ p.From ∧ p.From ≤ 2) (k : Nat) : spec_l2Ok k p = impl_validPacket k p := by
  have e : spec_l1In k p.From 1 2 = some true := by
    unfold spec_l1In
    simp only [cbdec]
    rw [if_pos (by omega)]
    congr 1
    exact decide_eq_true h.2
  unfold spec_l2Ok impl_validPacket
  rw [e]
  have hi : ∀ a b c, spec_l1In k a b c = impl_in k a b c := fun _ _ _ => rfl
  simp only [hi, Option.bind_some, Bool.not_true, cond_false, cbne]
  by_cases h1 : p.From = 1
  · rw [if_pos h1]
  · rw [if_neg h1, if_pos (by omega)]
theorem l2Ok_ok (p : DPacket) : Wp (fun k => spec_l2Ok k p) (· = decide (Fits p)) := by
  by_cases h : 1 ≤ p.From ∧ p.From ≤ 2
  · have : (fun k => spec_l2Ok k p) = fun k => impl_validPacket k p := funext fun k => l2Ok_same p h k
    rw [this]; exact validPacket_ok p
  · unfold spec_l2Ok
    refine Wp.bind (l1In_ok _ _ _) (fun _ e => ?_); subst e
    rw [inB, decide_eq_false h]
    exact Wp.ret (decide_eq_false fun h' => h h'.1).symm

/-! ### numbers in bytes -/
def N (w : Nat) (x : Int) : ByteArray := bstr (bytesL w x.toNat)
theorem N_size (w : Nat) (x : Int) : (N w x).size = w := by simp [N, bstr_size, bytesL_length]
theorem number_loop : ∀ (d w i n : Nat) (tail : List Int), i + d = w → w ≤ 8 → n < 2 ^ 62 → tail.length + d ≤ 100 →
    Wp (fun k => spec_l1Number_l3 k (n : Int) (w : Int) (bstr tail) (i : Int)) (· = bstr (bytesL d n ++ tail))
  | 0, w, i, n, tail, h, hw, hn, ht => by
    refine Wp.step ?_
    simp only [spec_l1Number_l3]
    simp (disch := omega) only [cbdec, if_neg]
    exact Wp.ret rfl
  | d + 1, w, i, n, tail, h, hw, hn, ht => by
    refine Wp.step ?_
    simp only [spec_l1Number_l3]
    simp (disch := omega) only [cbdec, if_pos, qrem_nat, qdiv_nat, Option.bind_some, wu8_mod, sadd_bstr, w64', castS]
    have ih := number_loop d w (i + 1) (n / 256) (((n % 256 : Nat) : Int) :: tail) (by omega) hw (by omega) (by simp; omega)
    simpa [bytesL] using ih
theorem number_ok {w : Nat} {x : Int} (hw : w ≤ 8) (hx : 0 ≤ x ∧ x ≤ 1000000) : Wp (fun k => spec_l1Number k x (w : Int)) (· = N w x) := by
  obtain ⟨n, rfl⟩ : ∃ n : Nat, x = n := ⟨x.toNat, by omega⟩
  have := number_loop w w 0 n [] (by omega) hw (by omega) (by simp; omega)
  rw [List.append_nil] at this
  exact this
theorem be_loop : ∀ (d n : Nat) (b : List Int), d ≤ b.length → b.length ≤ 8 → n < 2 ^ 62 → Wp (fun k => impl_be_l3 k (n : Int) ((d : Int) - 1) b) (· = bstr (bytesL d n ++ b.drop d))
  | 0, n, b, hd, hb, hn => by
    refine Wp.step ?_
    simp only [impl_be_l3]
    simp (disch := omega) only [cbdec, if_neg]
    exact Wp.ret (by simp [bytesL])
  | d + 1, n, b, hd, hb, hn => by
    refine Wp.step ?_
    simp only [impl_be_l3]
    rw [show ((d + 1 : Nat) : Int) - 1 = (d : Int) by omega]
    have hlt : d < b.length := by omega
    simp (disch := first | omega | decide) only [cbdec, if_pos, idxN, getN, Option.bind_some, shr8, w64', wu8]
    have ih := be_loop d (n / 256) (b.set d ((n % 256 : Nat) : Int)) (by simp; omega) (by simpa using hb) (by omega)
    rw [set_bytes hlt] at ih
    rw [Int.toNat_natCast]
    exact ih
theorem be_ok {w : Nat} {x : Int} (hw : w ≤ 8) (hx : 0 ≤ x ∧ x ≤ 1000000) : Wp (fun k => impl_be k x (w : Int)) (· = N w x) := by
  obtain ⟨n, rfl⟩ : ∃ n : Nat, x = n := ⟨x.toNat, by omega⟩
  unfold impl_be
  refine Wp.opt (x := w) (by rw [if_pos rfl]; exact room_ok (by omega)) ?_
  have := be_loop w n (List.replicate w 0) (by simp) (by simpa using hw) (by omega)
  rw [List.drop_eq_nil_of_le (by simp), List.append_nil] at this
  rw [w64' (by omega) (by omega)]
  exact this
theorem ba_assoc (x y z : ByteArray) : x ++ y ++ z = x ++ (y ++ z) := by
  apply ByteArray.ext; simp
def headP (p : DPacket) : ByteArray := N 1 p.Kind ++ N 1 p.From ++ N 2 p.Mine ++ N 2 p.Yours
def lastI (b : Bool) : Int := bif b then 1 else 0
def bodyP (p : DPacket) : ByteArray :=
  if p.Kind = 1 then headP p ++ N 4 p.Next ++ N 1 p.Mask else headP p ++ N 4 p.Seq ++ N 1 (lastI p.Last) ++ p.Part
theorem headP_size (p : DPacket) : (headP p).size = 6 := by simp [headP, N_size]
theorem bodyP_size (p : DPacket) (h : Fits p) : (bodyP p).size ≤ 31 := by
  have hs := headP_size p
  unfold bodyP
  rcases h.2.2.2 with ⟨hk1, _⟩ | ⟨hk2, _, _, _, g4⟩
  · rw [if_pos hk1]; simp [N_size, hs]
  · rw [if_neg (by omega)]; simp [N_size, hs]; omega
theorem body_ok (p : DPacket) (h : Fits p) : Wp (fun k => spec_l2Body k p) (· = bodyP p) := by
  obtain ⟨h1, h2, h3, h4⟩ := h
  have hK : 0 ≤ p.Kind ∧ p.Kind ≤ 1000000 := by rcases h4 with h | h <;> omega
  unfold spec_l2Body
  refine Wp.bind (number_ok (w := 1) (by omega) hK) (fun _ e => ?_); subst e
  refine Wp.bind (number_ok (w := 1) (by omega) (by omega)) (fun _ e => ?_); subst e
  refine Wp.opt (sadd_ok (by simp [N_size])) ?_
  refine Wp.bind (number_ok (w := 2) (by omega) (by omega)) (fun _ e => ?_); subst e
  refine Wp.opt (sadd_ok (by simp [N_size])) ?_
  refine Wp.bind (number_ok (w := 2) (by omega) (by omega)) (fun _ e => ?_); subst e
  refine Wp.opt (sadd_ok (by simp [N_size])) ?_
  have hd : N 1 p.Kind ++ N 1 p.From ++ N 2 p.Mine ++ N 2 p.Yours = headP p := rfl
  rw [hd]
  have hs := headP_size p
  simp only [cbeq]
  refine Wp.ite (fun hk => ?_) (fun hk => ?_)
  · rcases h4 with ⟨_, g1, g2, _⟩ | ⟨hk2, _⟩
    · refine Wp.bind (number_ok (w := 4) (by omega) (by omega)) (fun _ e => ?_); subst e
      refine Wp.opt (sadd_ok (by simp [N_size, hs])) ?_
      refine Wp.bind (number_ok (w := 1) (by omega) (by omega)) (fun _ e => ?_); subst e
      refine Wp.opt (sadd_ok (by simp [N_size, hs])) ?_
      exact Wp.ret (by rw [bodyP, if_pos hk])
    · omega
  · rcases h4 with ⟨hk1, _⟩ | ⟨hk2, g1, g2, g3, g4⟩
    · exact absurd hk1 hk
    have key : ∀ l, 0 ≤ l ∧ l ≤ 1000000 → Wp (fun k => spec_l2Body_l7 k (headP p) l p.Kind p.From p.Mine p.Yours p.Next p.Mask p.Seq p.Last p.Part) (· = headP p ++ N 4 p.Seq ++ N 1 l ++ p.Part) := fun l hl => by
      refine Wp.step ?_
      simp only [spec_l2Body_l7]
      refine Wp.bind (number_ok (w := 4) (by omega) (by omega)) (fun _ e => ?_); subst e
      refine Wp.opt (sadd_ok (by simp [N_size, hs])) ?_
      refine Wp.bind (number_ok (w := 1) (by omega) hl) (fun _ e => ?_); subst e
      refine Wp.opt (sadd_ok (by simp [N_size, hs])) ?_
      refine Wp.opt (sadd_ok (by simp [N_size, hs]; omega)) ?_
      exact Wp.ret rfl
    have hb : bodyP p = headP p ++ N 4 p.Seq ++ N 1 (lastI p.Last) ++ p.Part := by rw [bodyP, if_neg hk]
    rw [hb]
    cases hl : p.Last
    · have := key 0 (by omega)
      rw [hl] at this; exact this
    · have := key 1 (by omega)
      rw [hl] at this; exact this
/-- the form of a packet -/
def formM (p : DPacket) (b : ByteArray) (w : Int) : ByteArray := if Fits p ∧ (1 ≤ w ∧ w ≤ 8) ∧ b.size ≤ 30 then tagM (bodyP p) b w ++ bodyP p else noB
theorem specForm_ok (p : DPacket) (b : ByteArray) (w : Int) : Wp (fun k => spec_FormPacket k p b w) (· = formM p b w) := by
  unfold spec_FormPacket formM
  refine Wp.bind (l2Ok_ok p) (fun _ e => ?_); subst e
  simp only [cbnot, cbdec]
  refine Wp.ite (fun h1 => ?_) (fun h1 => Wp.ret (by rw [if_neg (fun h => h1 h.1)]))
  refine Wp.bind (l1In_ok _ _ _) (fun _ e => ?_); subst e
  simp only [inB, cbnot, cbdec]
  refine Wp.ite (fun h2 => ?_) (fun h2 => Wp.ret (by rw [if_neg (fun h => h2 h.2.1)]))
  refine Wp.ite (fun h3 => Wp.ret (by rw [if_neg (fun h => by omega)])) (fun h3 => ?_)
  rw [if_pos ⟨h1, h2, by omega⟩]
  have hs := bodyP_size p h1
  refine Wp.bind (body_ok p h1) (fun _ e => ?_); subst e
  refine Wp.bind (specTag_ok _ b w (by omega)) (fun _ e => ?_); subst e
  refine Wp.bind (body_ok p h1) (fun _ e => ?_); subst e
  have ht := tagM_size (bodyP p) b w
  refine Wp.opt (sadd_ok (by omega)) ?_
  exact Wp.ret rfl
theorem implForm_ok (p : DPacket) (b : ByteArray) (w : Int) : Wp (fun k => impl_FormPacket k p b w) (· = formM p b w) := by
  unfold impl_FormPacket formM
  refine Wp.bind (validPacket_ok p) (fun _ e => ?_); subst e
  simp only [cbnot, cbdec]
  refine Wp.ite (fun h1 => ?_) (fun h1 => Wp.ret (by rw [if_neg (fun h => h1 h.1)]))
  refine Wp.ite (fun h2 => Wp.ret (by rw [if_neg (fun h => by omega)])) (fun h2 => ?_)
  refine Wp.ite (fun h3 => Wp.ret (by rw [if_neg (fun h => by omega)])) (fun h3 => ?_)
  refine Wp.ite (fun h4 => Wp.ret (by rw [if_neg (fun h => by omega)])) (fun h4 => ?_)
  rw [if_pos ⟨h1, by omega, by omega⟩]
  have hbs := bodyP_size p h1
  have ht := tagM_size (bodyP p) b w
  obtain ⟨g1, g2, g3, g4⟩ := h1
  have hK : 0 ≤ p.Kind ∧ p.Kind ≤ 1000000 := by rcases g4 with h | h <;> omega
  refine Wp.bind (be_ok (w := 1) (by omega) hK) (fun _ e => ?_); subst e
  refine Wp.bind (be_ok (w := 1) (by omega) (by omega)) (fun _ e => ?_); subst e
  refine Wp.opt (sadd_ok (by simp [N_size])) ?_
  refine Wp.bind (be_ok (w := 2) (by omega) (by omega)) (fun _ e => ?_); subst e
  refine Wp.opt (sadd_ok (by simp [N_size])) ?_
  refine Wp.bind (be_ok (w := 2) (by omega) (by omega)) (fun _ e => ?_); subst e
  refine Wp.opt (sadd_ok (by simp [N_size])) ?_
  have hd : N 1 p.Kind ++ N 1 p.From ++ N 2 p.Mine ++ N 2 p.Yours = headP p := rfl
  rw [hd]
  have hs := headP_size p
  have l10 : Wp (fun k => impl_FormPacket_l10 k b w (bodyP p)) (· = tagM (bodyP p) b w ++ bodyP p) := by
    refine Wp.step ?_
    simp only [impl_FormPacket_l10]
    refine Wp.bind (implTag_ok _ b w (by omega)) (fun _ e => ?_); subst e
    refine Wp.opt (sadd_ok (by omega)) ?_
    exact Wp.ret rfl
  simp only [cbeq]
  refine Wp.ite (fun hk => ?_) (fun hk => ?_)
  · rcases g4 with ⟨_, q1, q2, _⟩ | ⟨hk2, _⟩
    · refine Wp.bind (be_ok (w := 4) (by omega) (by omega)) (fun _ e => ?_); subst e
      refine Wp.bind (be_ok (w := 1) (by omega) (by omega)) (fun _ e => ?_); subst e
      refine Wp.opt (sadd_ok (by simp [N_size])) ?_
      refine Wp.opt (sadd_ok (by simp [N_size, hs])) ?_
      have e : headP p ++ (N 4 p.Next ++ N 1 p.Mask) = bodyP p := by rw [bodyP, if_pos hk, ba_assoc]
      rw [e]; exact l10
    · omega
  · rcases g4 with ⟨hk1, _⟩ | ⟨hk2, q1, q2, q3, q4⟩
    · exact absurd hk1 hk
    have key : ∀ l, 0 ≤ l ∧ l ≤ 1000000 → headP p ++ N 4 p.Seq ++ N 1 l ++ p.Part = bodyP p → Wp (fun k => impl_FormPacket_l9 k b w (headP p) l p.Kind p.From p.Mine p.Yours p.Next p.Mask p.Seq p.Last p.Part) (· = tagM (bodyP p) b w ++ bodyP p) := fun l hl e => by
      refine Wp.step ?_
      simp only [impl_FormPacket_l9]
      refine Wp.bind (be_ok (w := 4) (by omega) (by omega)) (fun _ e => ?_); subst e
      refine Wp.bind (be_ok (w := 1) (by omega) hl) (fun _ e => ?_); subst e
      refine Wp.opt (sadd_ok (by simp [N_size])) ?_
      refine Wp.opt (sadd_ok (by simp [N_size]; omega)) ?_
      refine Wp.opt (sadd_ok (by simp [N_size, hs]; omega)) ?_
      rw [show headP p ++ (N 4 p.Seq ++ N 1 l ++ p.Part) = bodyP p by rw [← e]; simp only [ba_assoc]]
      exact l10
    have hb0 : bodyP p = headP p ++ N 4 p.Seq ++ N 1 (lastI p.Last) ++ p.Part := by rw [bodyP, if_neg hk]
    cases hl : p.Last
    · rw [hl] at hb0
      have := key 0 (by omega) hb0.symm
      rw [hl] at this
      exact this
    · rw [hl] at hb0
      have := key 1 (by omega) hb0.symm
      rw [hl] at this
      exact this
theorem formM_size (p : DPacket) (b : ByteArray) (w : Int) : (formM p b w).size ≤ 39 := by
  unfold formM
  split
  · rename_i h
    rw [ba_size_append]
    have := bodyP_size p h.1
    have := tagM_size (bodyP p) b w
    omega
  · simp [noB_size]
end Km.X
namespace Km.X
open Go Km
set_option linter.unusedVariables false
set_option linter.unusedSimpArgs false
def numL (l : List UInt8) : Int := l.foldl (fun v c => v * 256 + (c.toNat : Int)) 0
theorem num_bound : ∀ (l : List UInt8) (v : Int) (n : Nat), 0 ≤ v ∧ v < 256 ^ n → 0 ≤ l.foldl (fun v c => v * 256 + (c.toNat : Int)) v ∧ l.foldl (fun v c => v * 256 + (c.toNat : Int)) v < 256 ^ (n + l.length)
  | [], v, n, h => h
  | c :: l, v, n, h => by
    have hc := c.toNat_lt
    have := num_bound l (v * 256 + (c.toNat : Int)) (n + 1) (by rw [Int.pow_succ]; omega)
    rw [List.foldl_cons, List.length_cons, show n + (l.length + 1) = n + 1 + l.length by omega]
    exact this
theorem pow_le8 {n : Nat} (h : n ≤ 6) : (256 : Int) ^ n ≤ 281474976710656 := by
  have : n = 0 ∨ n = 1 ∨ n = 2 ∨ n = 3 ∨ n = 4 ∨ n = 5 ∨ n = 6 := by omega
  rcases this with rfl | rfl | rfl | rfl | rfl | rfl | rfl <;> decide
theorem read_loop (s : ByteArray) : ∀ (t pre : List UInt8) (v : Int), s.data.toList = pre ++ t → s.size ≤ 6 → 0 ≤ v ∧ v < 256 ^ pre.length →
    Wp (fun k => spec_l1Read_l3 k s v (pre.length : Int)) (· = t.foldl (fun v c => v * 256 + (c.toNat : Int)) v)
  | [], pre, v, h, hs, hv => by
    refine Wp.step ?_
    have := size_mid h
    simp only [List.length_nil] at this
    simp only [spec_l1Read_l3]
    simp (disch := omega) only [cbdec, if_neg]
    exact Wp.ret rfl
  | c :: t, pre, v, h, hs, hv => by
    refine Wp.step ?_
    have hl := size_mid h
    simp only [List.length_cons] at hl
    have hp := pow_le8 (n := pre.length) (by omega)
    have hc := c.toNat_lt
    simp only [spec_l1Read_l3]
    simp (disch := omega) only [cbdec, if_pos, bidx_mid h, Option.bind_some, w64']
    have ih := read_loop s t (pre ++ [c]) (v * 256 + (c.toNat : Int)) (by simpa using h) hs (by
      rw [List.length_append, List.length_singleton, Int.pow_succ]; omega)
    rwa [← mid_len] at ih
theorem read_ok (s : ByteArray) (h : s.size ≤ 6) : Wp (fun k => spec_l1Read k s) (· = numL s.data.toList) := read_loop s s.data.toList [] 0 rfl h (by decide)
theorem or_low (n c : Nat) (h : c < 256) : (n * 256) ||| c = n * 256 + c := by
  have := Nat.shiftLeft_add_eq_or_of_lt (a := n) (i := 8) (b := c) (by simpa using h)
  rw [Nat.shiftLeft_eq] at this
  simpa using this.symm
theorem bitsOr_low (n c : Nat) (hn : n < 281474976710656) (hc : c < 256) : bitsOr .i64 ((n * 256 : Nat) : Int) (c : Int) = ((n * 256 + c : Nat) : Int) := by
  have e : ∀ m : Nat, BitVec.ofInt 64 (m : Int) = BitVec.ofNat 64 m := fun m => by
    apply BitVec.eq_of_toNat_eq
    simp [BitVec.toNat_ofInt]
  show IntKind.wrap .i64 ((BitVec.ofInt 64 ((n * 256 : Nat) : Int) ||| BitVec.ofInt 64 (c : Int)).toNat : Int) = _
  rw [e, e, BitVec.toNat_or, BitVec.toNat_ofNat, BitVec.toNat_ofNat, Nat.mod_eq_of_lt (by omega), Nat.mod_eq_of_lt (by omega), or_low n c hc]
  exact w64' (by omega) (by omega)
theorem shl8 (n : Nat) (h : n < 36028797018963968) : shift .shl .i64 (n : Int) 8 = some ((n * 256 : Nat) : Int) := by
  simp only [shift]
  rw [if_neg (by omega)]
  congr 1
  rw [show (Int.toNat 8) = 8 from rfl, show min 8 IntKind.i64.bits = 8 from rfl]
  rw [w64' (by omega) (by omega)]
  simp
theorem num_loop (s : ByteArray) : ∀ (t pre : List UInt8) (v : Nat), s.data.toList = pre ++ t → s.size ≤ 6 → (v : Int) < 256 ^ pre.length →
    Wp (fun k => impl_num_l3 k s (v : Int) (pre.length : Int)) (· = t.foldl (fun v c => v * 256 + (c.toNat : Int)) (v : Int))
  | [], pre, v, h, hs, hv => by
    refine Wp.step ?_
    have := size_mid h
    simp only [List.length_nil] at this
    simp only [impl_num_l3]
    simp (disch := omega) only [cbdec, if_neg]
    exact Wp.ret rfl
  | c :: t, pre, v, h, hs, hv => by
    refine Wp.step ?_
    have hl := size_mid h
    simp only [List.length_cons] at hl
    have hp := pow_le8 (n := pre.length) (by omega)
    have hp' := pow_le8 (n := pre.length + 1) (by omega)
    rw [Int.pow_succ] at hp'
    have hc := c.toNat_lt
    simp only [impl_num_l3]
    simp (disch := omega) only [cbdec, if_pos, bidx_mid h, Option.bind_some, w64', shl8, bitsOr_low]
    have ih := num_loop s t (pre ++ [c]) (v * 256 + c.toNat) (by simpa using h) hs (by
      rw [List.length_append, List.length_singleton, Int.pow_succ]; omega)
    rw [← mid_len] at ih
    rw [List.foldl_cons]
    have e : ((v * 256 + c.toNat : Nat) : Int) = (v : Int) * 256 + (c.toNat : Int) := by omega
    rw [e] at ih ⊢
    exact ih
theorem num_ok (s : ByteArray) (h : s.size ≤ 6) : Wp (fun k => impl_num k s) (· = numL s.data.toList) := num_loop s s.data.toList [] 0 rfl h (by decide)

def at' (b : ByteArray) (i : Nat) : UInt8 := b.data.toList.getD i 0
theorem bidx_at {b : ByteArray} {i : Nat} (h : i < b.size) : bidx b (i : Int) = some (at' b i) := by
  unfold bidx at'
  rw [if_neg (by omega), Int.toNat_natCast]
  have e : b[i]? = some (b[i]'h) := by simp [h]
  rw [e]
  have : b.data.toList[i]? = some (b[i]'h) := by
    rw [Array.getElem?_toList, Array.getElem?_eq_getElem (show i < b.data.size from h)]; rfl
  rw [List.getD_eq_getElem?_getD, this]; rfl
def zeroP : DPacket := ⟨0, 0, 0, 0, 0, 0, 0, false, noB⟩
def numS (b : ByteArray) (i j : Nat) : Int := numL (b.extract i j).data.toList
/-- what a body may be the body of -/
def candP (b : ByteArray) : DPacket :=
  if ((at' b 0).toNat : Int) = 1 then ⟨(at' b 0).toNat, (at' b 1).toNat, numS b 2 4, numS b 4 6, numS b 6 10, (at' b 10).toNat, 0, false, noB⟩
  else ⟨(at' b 0).toNat, (at' b 1).toNat, numS b 2 4, numS b 4 6, 0, 0, numS b 6 10, (((at' b 10).toNat : Int) == 1), b.extract 11 b.size⟩
def readM (s b : ByteArray) (w : Int) : DPacket × Bool :=
  if (1 ≤ w ∧ w ≤ 8) ∧ w + 11 ≤ s.size then (if formM (candP (s.extract w.toNat s.size)) b w = s then (candP (s.extract w.toNat s.size), true) else (zeroP, false)) else (zeroP, false)
theorem ext_size (s : ByteArray) (i j : Nat) : (s.extract i j).size = min j s.size - i := by simp
theorem wu (c : UInt8) : IntKind.wrap .i64 (c.toNat : Int) = (c.toNat : Int) := by have := c.toNat_lt; exact w64' (by omega) (by omega)
theorem specRead_ok (s b : ByteArray) (w : Int) (hs : s.size ≤ 1048576) : Wp (fun k => spec_ReadPacket k s b w) (· = readM s b w) := by
  unfold spec_ReadPacket readM
  refine Wp.bind (l1In_ok _ _ _) (fun _ e => ?_); subst e
  simp only [inB, cbnot, cbdec]
  refine Wp.ite (fun h1 => ?_) (fun h1 => Wp.ret (by rw [if_neg (fun h => h1 h.1)]; rfl))
  rw [w64' (by omega) (by omega)]
  refine Wp.ite (fun h2 => Wp.ret (by rw [if_neg (fun h => by omega)]; rfl)) (fun h2 => ?_)
  rw [if_pos ⟨h1, by omega⟩]
  refine Wp.opt (wnd_ok (by omega)) ?_
  dsimp only
  rw [Int.toNat_natCast]
  have hsz : (s.extract w.toNat s.size).size = s.size - w.toNat := by rw [ext_size]; omega
  have hge : 11 ≤ (s.extract w.toNat s.size).size := by omega
  generalize hb : s.extract w.toNat s.size = B at hsz hge ⊢
  have key : ∀ p : DPacket, Wp (fun k => (spec_FormPacket k p b w).bind fun r16 =>
      bif (!(r16.toList == s.toList)) then some (zeroP, false) else some (p, true)) (· = if formM p b w = s then (p, true) else (zeroP, false)) := fun p => by
    refine Wp.bind (specForm_ok p b w) (fun _ e => ?_); subst e
    simp only [cbnot, cbseq]
    exact Wp.ite (fun h => Wp.ret (by rw [if_pos h])) (fun h => Wp.ret (by rw [if_neg h]))
  have hBs : B.size ≤ 1048576 := by omega
  refine Wp.opt (bidx_at (i := 0) (by omega)) ?_
  refine Wp.opt (bidx_at (i := 1) (by omega)) ?_
  refine Wp.opt (wnd_ok (by omega)) ?_
  refine Wp.bind (read_ok _ (by rw [ext_size]; simp; omega)) (fun _ e => ?_); subst e
  refine Wp.opt (wnd_ok (by omega)) ?_
  refine Wp.bind (read_ok _ (by rw [ext_size]; simp; omega)) (fun _ e => ?_); subst e
  simp only [wu, cbeq]
  refine Wp.ite (fun hk => ?_) (fun hk => ?_)
  · refine Wp.opt (wnd_ok (by omega)) ?_
    refine Wp.bind (read_ok _ (by rw [ext_size]; simp; omega)) (fun _ e => ?_); subst e
    refine Wp.opt (bidx_at (i := 10) (by omega)) ?_
    refine Wp.step ?_
    simp only [spec_ReadPacket_l11, wu]
    have := key (candP B)
    unfold candP at this ⊢
    rw [if_pos hk] at this ⊢
    exact this
  · refine Wp.opt (wnd_ok (by omega)) ?_
    refine Wp.bind (read_ok _ (by rw [ext_size]; simp; omega)) (fun _ e => ?_); subst e
    refine Wp.opt (bidx_at (i := 10) (by omega)) ?_
    refine Wp.opt (wnd_ok (by omega)) ?_
    refine Wp.step ?_
    simp only [spec_ReadPacket_l11, wu]
    have := key (candP B)
    unfold candP at this ⊢
    rw [if_neg hk] at this ⊢
    exact this
theorem form_no {p : DPacket} {b s : ByteArray} {w : Int} (h : ¬ (Fits p ∧ b.size ≤ 30)) (hs : 11 ≤ s.size) : formM p b w ≠ s := by
  unfold formM
  rw [if_neg (fun h' => h ⟨h'.1, h'.2.2⟩)]
  intro e
  rw [← e] at hs
  simp [noB_size] at hs
theorem implRead_ok (s b : ByteArray) (w : Int) (hs : s.size ≤ 1048576) : Wp (fun k => impl_ReadPacket k s b w) (· = readM s b w) := by
  unfold impl_ReadPacket readM
  simp only [cbdec]
  refine Wp.ite (fun h1 => Wp.ret (by rw [if_neg (fun h => by omega)]; rfl)) (fun h1 => ?_)
  refine Wp.ite (fun h2 => Wp.ret (by rw [if_neg (fun h => by omega)]; rfl)) (fun h2 => ?_)
  refine Wp.ite (fun h3 => Wp.ret ?_) (fun h3 => ?_)
  · split
    · rename_i h
      rw [if_neg (form_no (fun h' => by omega) (by omega))]; rfl
    · rfl
  rw [w64' (by omega) (by omega)]
  refine Wp.ite (fun h4 => Wp.ret (by rw [if_neg (fun h => by omega)]; rfl)) (fun h4 => ?_)
  rw [if_pos ⟨by omega, by omega⟩]
  refine Wp.opt (wnd_ok (by omega)) ?_
  dsimp only
  rw [Int.toNat_natCast]
  have hsz : (s.extract w.toNat s.size).size = s.size - w.toNat := by rw [ext_size]; omega
  have hge : 11 ≤ (s.extract w.toNat s.size).size := by omega
  generalize hb : s.extract w.toNat s.size = B at hsz hge ⊢
  have key : ∀ p : DPacket, Wp (fun k => (impl_validPacket k p).bind fun r15 => bif (!r15) then some (zeroP, false) else (impl_FormPacket k p b w).bind fun r16 =>
      bif (!(r16.toList == s.toList)) then some (zeroP, false) else some (p, true)) (· = if formM p b w = s then (p, true) else (zeroP, false)) := fun p => by
    refine Wp.bind (validPacket_ok p) (fun _ e => ?_); subst e
    simp only [cbnot, cbdec]
    refine Wp.ite (fun hf => ?_) (fun hf => Wp.ret (by rw [if_neg (form_no (fun h' => hf h'.1) (by omega))]))
    refine Wp.bind (implForm_ok p b w) (fun _ e => ?_); subst e
    simp only [cbnot, cbseq]
    exact Wp.ite (fun h => Wp.ret (by rw [if_pos h])) (fun h => Wp.ret (by rw [if_neg h]))
  have hBs : B.size ≤ 1048576 := by omega
  refine Wp.opt (bidx_at (i := 0) (by omega)) ?_
  refine Wp.opt (bidx_at (i := 1) (by omega)) ?_
  refine Wp.opt (wnd_ok (by omega)) ?_
  refine Wp.bind (num_ok _ (by rw [ext_size]; simp; omega)) (fun _ e => ?_); subst e
  refine Wp.opt (wnd_ok (by omega)) ?_
  refine Wp.bind (num_ok _ (by rw [ext_size]; simp; omega)) (fun _ e => ?_); subst e
  simp only [wu, cbeq]
  refine Wp.ite (fun hk => ?_) (fun hk => ?_)
  · refine Wp.opt (wnd_ok (by omega)) ?_
    refine Wp.bind (num_ok _ (by rw [ext_size]; simp; omega)) (fun _ e => ?_); subst e
    refine Wp.opt (bidx_at (i := 10) (by omega)) ?_
    refine Wp.step ?_
    simp only [impl_ReadPacket_l10, wu]
    have := key (candP B)
    unfold candP at this ⊢
    rw [if_pos hk] at this ⊢
    exact this
  · refine Wp.ite (fun hk2 => ?_) (fun hk2 => ?_)
    · refine Wp.opt (wnd_ok (by omega)) ?_
      refine Wp.bind (num_ok _ (by rw [ext_size]; simp; omega)) (fun _ e => ?_); subst e
      refine Wp.opt (bidx_at (i := 10) (by omega)) ?_
      refine Wp.opt (wnd_ok (by omega)) ?_
      refine Wp.step ?_
      simp only [impl_ReadPacket_l10, wu]
      have := key (candP B)
      unfold candP at this ⊢
      rw [if_neg hk] at this ⊢
      exact this
    · refine Wp.step ?_
      simp only [impl_ReadPacket_l10, wu]
      have hno : ¬ Fits (candP B) := fun hf => by
        have hK : (candP B).Kind = 1 ∨ (candP B).Kind = 2 := by rcases hf.2.2.2 with h | h <;> omega
        unfold candP at hK
        rw [if_neg hk] at hK
        exact hK.elim hk hk2
      rw [if_neg (form_no (fun h => hno h.1) (by omega))]
      refine Wp.bind (validPacket_ok _) (fun _ e => ?_); subst e
      rw [decide_eq_false]
      · exact Wp.ret rfl
      · intro hf
        have hK : (((at' B 0).toNat : Int)) = 1 ∨ (((at' B 0).toNat : Int)) = 2 := hf.2.2.2.elim (fun h => .inl h.1) (fun h => .inr h.1)
        exact hK.elim hk hk2
end Km.X
namespace Km.X
open Go Km
set_option linter.unusedVariables false
set_option linter.unusedSimpArgs false
theorem exact_FnExactFormPacket (a : DPacket) (b : ByteArray) (n : Int) (h : wfDPacket a) (h1 : b.size ≤ maxLen) (h2 : (Lit.int .i64 n).wf = true) : ∃ k, laws_FnExactFormPacket k a b n = some true := by
  refine Wp.exists (f := fun k => laws_FnExactFormPacket k a b n) ?_
  unfold laws_FnExactFormPacket
  refine Wp.dec (fun h => Wp.ret rfl) (fun hb => ?_)
  refine Wp.bind (szPacket_ok a h 1048576 (by omega)) ?_
  rintro r ⟨_, hr⟩
  refine Wp.dec (fun h => Wp.ret rfl) (fun h0 => ?_)
  have ha := hr (by omega)
  have hs := specForm_ok a b n
  have hi := implForm_ok a b n
  repeat' (first
    | exact Wp.ret rfl
    | (refine Wp.bind hs ?_; rintro _ rfl)
    | (refine Wp.bind hi ?_; rintro _ rfl)
    | (refine Wp.bind (toPacket_ok _ (by assumption)) ?_; rintro _ rfl)
    | simp (disch := first | omega | rfl) only [cbdec, cbnot, cbeq, cbne, cbseq, cbbeq, cond_true, cond_false, Option.bind_some, Bool.not_true, Bool.not_false, if_true, if_false, if_neg, if_pos])
theorem readM_sm (s b : ByteArray) (w : Int) (hs : s.size ≤ 1048576) : smPacket (readM s b w).1 := by
  unfold readM
  split
  · split
    · unfold candP
      split
      · show noB.size ≤ 1048576
        simp [noB_size]
      · show (ByteArray.extract _ _ _).size ≤ 1048576
        rw [ext_size, ext_size]; omega
    · show noB.size ≤ 1048576
      simp [noB_size]
  · show noB.size ≤ 1048576
    simp [noB_size]
theorem exact_FnExactReadPacket (a : ByteArray) (b : ByteArray) (n : Int) (h : a.size ≤ maxLen) (h1 : b.size ≤ maxLen) (h2 : (Lit.int .i64 n).wf = true) : ∃ k, laws_FnExactReadPacket k a b n = some true := by
  refine Wp.exists (f := fun k => laws_FnExactReadPacket k a b n) ?_
  unfold laws_FnExactReadPacket
  refine Wp.dec (fun h => Wp.ret rfl) (fun ha => ?_)
  refine Wp.dec (fun h => Wp.ret rfl) (fun hb => ?_)
  have hs := specRead_ok a b n (by omega)
  have hi := implRead_ok a b n (by omega)
  have hv := readM_sm a b n (by omega)
  repeat' (first
    | exact Wp.ret rfl
    | (refine Wp.bind hs ?_; rintro _ rfl)
    | (refine Wp.bind hi ?_; rintro _ rfl)
    | (refine Wp.bind (eqPacket_ok _ (by assumption)) ?_; rintro _ rfl)
    | simp (disch := first | omega | rfl) only [cbdec, cbnot, cbeq, cbne, cbseq, cbbeq, cond_true, cond_false, Option.bind_some, Bool.not_true, Bool.not_false, if_true, if_false, if_neg, if_pos])
end Km.X
