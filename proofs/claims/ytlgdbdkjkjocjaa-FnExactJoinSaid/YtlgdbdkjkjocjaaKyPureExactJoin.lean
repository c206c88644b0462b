/- A part of the proof of FnExactJoin: plain laws of these functions. There is no condition. -/
import Derived.Test.YtlgdbdkjkjocjaaKmAm3
import Derived.Test.YtlgdbdkjkjocjaaKxDef
namespace Km.X
open Go Km
set_option linter.unusedVariables false
set_option linter.unusedSimpArgs false
def smL {α : Type} (p : α → Prop) (l : List α) : Prop := l.length ≤ 1048576 ∧ ∀ y ∈ l, p y
theorem addk (k : Int) (a b : Int) : k + a + b = k + (a + b) := by omega

def smPart (x : DPart) : Prop := x.Text.size ≤ 1048576
def smItem (x : DItem) : Prop := smPart x.Part
def smHeld (x : DHeld) : Prop := smPart x.Part
def smSend (x : DSend) : Prop := smL smItem x.Items
def smTake (x : DTake) : Prop := smL smHeld x.Held ∧ x.Open.size ≤ 1048576 ∧ smL (fun s : ByteArray => s.size ≤ 1048576) x.Ready
def smPacket (x : DPacket) : Prop := x.Part.size ≤ 1048576
theorem toPart_ok (x : DPart) (h : smPart x) : Wp (fun k => laws_toPart k x) (· = x) := Wp.ret rfl
theorem toItem_ok (x : DItem) (h : smItem x) : Wp (fun k => laws_toItem k x) (· = x) := Wp.ret rfl
theorem toHeld_ok (x : DHeld) (h : smHeld x) : Wp (fun k => laws_toHeld k x) (· = x) := Wp.ret rfl
theorem toPacket_ok (x : DPacket) (h : smPacket x) : Wp (fun k => laws_toPacket k x) (· = x) := Wp.ret rfl
theorem toPartS_ok (xs : List DPart) (h : smL smPart xs) : Wp (fun k => laws_toPartS k xs) (· = xs) := by
  unfold laws_toPartS
  obtain ⟨hl, hp⟩ := h
  refine Wp.opt (x := xs.length) (by rw [if_pos rfl]; exact room_ok (by omega)) ?_
  refine Wp.loop (n := xs.length) (f := fun k i (ys : List DPart) => laws_toPartS_l3 k xs (i : Int) ys) (Inv := fun i ys => ys.length = xs.length ∧ ys.take i = xs.take i) (Q := (· = xs)) ?_ ?_ xs.length 0 _ (by omega) ⟨by simp, by simp⟩
  · rintro i ys hi ⟨h1, h2⟩ ih
    refine Wp.step ?_
    simp only [laws_toPartS_l3]
    simp (disch := omega) only [cbdec, if_pos, idxN, getN, Option.bind_some, w64', castS, Int.ofNat_lt]
    refine Wp.bind (toPart_ok _ (hp _ (List.getElem_mem hi))) (fun _ e => ?_); subst e
    refine ih _ ⟨by simpa using h1, ?_⟩
    rw [Int.toNat_natCast, List.take_add_one, List.take_add_one, List.getElem?_set_self (by omega), List.take_set, List.set_eq_of_length_le (by simp; omega), h2, List.getElem?_eq_getElem hi]
  · rintro ys ⟨h1, h2⟩
    refine Wp.step ?_
    simp only [laws_toPartS_l3]
    simp (disch := omega) only [cbdec, if_neg]
    rw [List.take_of_length_le (by omega), List.take_of_length_le (by omega)] at h2
    exact Wp.ret h2
theorem toItemS_ok (xs : List DItem) (h : smL smItem xs) : Wp (fun k => laws_toItemS k xs) (· = xs) := by
  unfold laws_toItemS
  obtain ⟨hl, hp⟩ := h
  refine Wp.opt (x := xs.length) (by rw [if_pos rfl]; exact room_ok (by omega)) ?_
  refine Wp.loop (n := xs.length) (f := fun k i (ys : List DItem) => laws_toItemS_l3 k xs (i : Int) ys) (Inv := fun i ys => ys.length = xs.length ∧ ys.take i = xs.take i) (Q := (· = xs)) ?_ ?_ xs.length 0 _ (by omega) ⟨by simp, by simp⟩
  · rintro i ys hi ⟨h1, h2⟩ ih
    refine Wp.step ?_
    simp only [laws_toItemS_l3]
    simp (disch := omega) only [cbdec, if_pos, idxN, getN, Option.bind_some, w64', castS, Int.ofNat_lt]
    refine Wp.bind (toItem_ok _ (hp _ (List.getElem_mem hi))) (fun _ e => ?_); subst e
    refine ih _ ⟨by simpa using h1, ?_⟩
    rw [Int.toNat_natCast, List.take_add_one, List.take_add_one, List.getElem?_set_self (by omega), List.take_set, List.set_eq_of_length_le (by simp; omega), h2, List.getElem?_eq_getElem hi]
  · rintro ys ⟨h1, h2⟩
    refine Wp.step ?_
    simp only [laws_toItemS_l3]
    simp (disch := omega) only [cbdec, if_neg]
    rw [List.take_of_length_le (by omega), List.take_of_length_le (by omega)] at h2
    exact Wp.ret h2
theorem toHeldS_ok (xs : List DHeld) (h : smL smHeld xs) : Wp (fun k => laws_toHeldS k xs) (· = xs) := by
  unfold laws_toHeldS
  obtain ⟨hl, hp⟩ := h
  refine Wp.opt (x := xs.length) (by rw [if_pos rfl]; exact room_ok (by omega)) ?_
  refine Wp.loop (n := xs.length) (f := fun k i (ys : List DHeld) => laws_toHeldS_l3 k xs (i : Int) ys) (Inv := fun i ys => ys.length = xs.length ∧ ys.take i = xs.take i) (Q := (· = xs)) ?_ ?_ xs.length 0 _ (by omega) ⟨by simp, by simp⟩
  · rintro i ys hi ⟨h1, h2⟩ ih
    refine Wp.step ?_
    simp only [laws_toHeldS_l3]
    simp (disch := omega) only [cbdec, if_pos, idxN, getN, Option.bind_some, w64', castS, Int.ofNat_lt]
    refine Wp.bind (toHeld_ok _ (hp _ (List.getElem_mem hi))) (fun _ e => ?_); subst e
    refine ih _ ⟨by simpa using h1, ?_⟩
    rw [Int.toNat_natCast, List.take_add_one, List.take_add_one, List.getElem?_set_self (by omega), List.take_set, List.set_eq_of_length_le (by simp; omega), h2, List.getElem?_eq_getElem hi]
  · rintro ys ⟨h1, h2⟩
    refine Wp.step ?_
    simp only [laws_toHeldS_l3]
    simp (disch := omega) only [cbdec, if_neg]
    rw [List.take_of_length_le (by omega), List.take_of_length_le (by omega)] at h2
    exact Wp.ret h2
theorem toStringS_ok (xs : List ByteArray) (h : smL (fun s : ByteArray => s.size ≤ 1048576) xs) : Wp (fun k => laws_toStringS k xs) (· = xs) := by
  unfold laws_toStringS
  obtain ⟨hl, hp⟩ := h
  refine Wp.opt (x := xs.length) (by rw [if_pos rfl]; exact room_ok (by omega)) ?_
  refine Wp.loop (n := xs.length) (f := fun k i (ys : List ByteArray) => laws_toStringS_l3 k xs (i : Int) ys) (Inv := fun i ys => ys.length = xs.length ∧ ys.take i = xs.take i) (Q := (· = xs)) ?_ ?_ xs.length 0 _ (by omega) ⟨by simp, by simp⟩
  · rintro i ys hi ⟨h1, h2⟩ ih
    refine Wp.step ?_
    simp only [laws_toStringS_l3]
    simp (disch := omega) only [cbdec, if_pos, idxN, getN, Option.bind_some, w64', castS, Int.ofNat_lt]
    refine ih _ ⟨by simpa using h1, ?_⟩
    rw [Int.toNat_natCast, List.take_add_one, List.take_add_one, List.getElem?_set_self (by omega), List.take_set, List.set_eq_of_length_le (by simp; omega), h2, List.getElem?_eq_getElem hi]
  · rintro ys ⟨h1, h2⟩
    refine Wp.step ?_
    simp only [laws_toStringS_l3]
    simp (disch := omega) only [cbdec, if_neg]
    rw [List.take_of_length_le (by omega), List.take_of_length_le (by omega)] at h2
    exact Wp.ret h2
theorem toSend_ok (x : DSend) (h : smSend x) : Wp (fun k => laws_toSend k x) (· = x) := by
  unfold smSend at h
  have h0 := h
  unfold laws_toSend
  refine Wp.bind (toItemS_ok _ h0) (fun _ e => ?_); subst e
  exact Wp.ret rfl
theorem toTake_ok (x : DTake) (h : smTake x) : Wp (fun k => laws_toTake k x) (· = x) := by
  unfold smTake at h
  obtain ⟨h0, h1, h2⟩ := h
  unfold laws_toTake
  refine Wp.bind (toHeldS_ok _ h0) (fun _ e => ?_); subst e
  refine Wp.bind (toStringS_ok _ h2) (fun _ e => ?_); subst e
  exact Wp.ret rfl
theorem szPart_ok (x : DPart) (hw : wfDPart x) (a : Int) (ha : 0 ≤ a ∧ a ≤ 1048576) : Wp (fun k => laws_szPart k x a) (fun r => r ≤ 1048576 ∧ (0 ≤ r → smPart x)) := by
  unfold smPart
  unfold wfDPart at hw
  unfold laws_szPart
  have h1 : x.Text.size ≤ 2 ^ 63 - 1 := by first | exact hw.1 | exact hw.2.2.2.2.2.2.2.2 | exact hw.2.2.2.2 | exact hw.2.2.2
  try simp (disch := omega) only [w64', cbdec]
  refine Wp.ite (fun h => Wp.ret ⟨by omega, fun h => by omega⟩) (fun h => Wp.ret ⟨by omega, fun _ => by omega⟩)
theorem szItem_ok (x : DItem) (hw : wfDItem x) (a : Int) (ha : 0 ≤ a ∧ a ≤ 1048576) : Wp (fun k => laws_szItem k x a) (fun r => r ≤ 1048576 ∧ (0 ≤ r → smItem x)) := by
  unfold smItem
  unfold wfDItem at hw
  unfold laws_szItem
  have h1 : wfDPart x.Part := by first | exact hw.1 | exact hw.2
  refine Wp.bind (szPart_ok _ h1 a ha) (fun r hr => ?_)
  refine Wp.dec (fun h => Wp.ret ⟨by omega, fun h => by omega⟩) (fun h => Wp.ret ⟨hr.1, hr.2⟩)
theorem szHeld_ok (x : DHeld) (hw : wfDHeld x) (a : Int) (ha : 0 ≤ a ∧ a ≤ 1048576) : Wp (fun k => laws_szHeld k x a) (fun r => r ≤ 1048576 ∧ (0 ≤ r → smHeld x)) := by
  unfold smHeld
  unfold wfDHeld at hw
  unfold laws_szHeld
  have h1 : wfDPart x.Part := by first | exact hw.1 | exact hw.2
  refine Wp.bind (szPart_ok _ h1 a ha) (fun r hr => ?_)
  refine Wp.dec (fun h => Wp.ret ⟨by omega, fun h => by omega⟩) (fun h => Wp.ret ⟨hr.1, hr.2⟩)
theorem szPacket_ok (x : DPacket) (hw : wfDPacket x) (a : Int) (ha : 0 ≤ a ∧ a ≤ 1048576) : Wp (fun k => laws_szPacket k x a) (fun r => r ≤ 1048576 ∧ (0 ≤ r → smPacket x)) := by
  unfold smPacket
  unfold wfDPacket at hw
  unfold laws_szPacket
  have h1 : x.Part.size ≤ 2 ^ 63 - 1 := by first | exact hw.1 | exact hw.2.2.2.2.2.2.2.2 | exact hw.2.2.2.2 | exact hw.2.2.2
  try simp (disch := omega) only [w64', cbdec]
  refine Wp.ite (fun h => Wp.ret ⟨by omega, fun h => by omega⟩) (fun h => Wp.ret ⟨by omega, fun _ => by omega⟩)
theorem szPartS_ok (xs : List DPart) (hw : xs.length ≤ maxLen ∧ ∀ y ∈ xs, wf_part y) (a : Int) (ha : 0 ≤ a ∧ a ≤ 1048576) : Wp (fun k => laws_szPartS k xs a) (fun r => r ≤ 1048576 ∧ (0 ≤ r → smL smPart xs)) := by
  obtain ⟨hl, hp⟩ := hw
  have hl : xs.length ≤ 2 ^ 63 - 1 := hl
  unfold laws_szPartS
  try simp (disch := omega) only [w64', cbdec]
  refine Wp.ite (fun h => Wp.ret ⟨by omega, fun h => by omega⟩) (fun h => ?_)
  refine Wp.loop (n := xs.length) (f := fun k i (l : Int) => laws_szPartS_l5 k xs l (i : Int)) (Inv := fun i l => (0 ≤ l ∧ l ≤ 1048576) ∧ ∀ j (hj : j < xs.length), j < i → smPart xs[j]) (Q := fun r => r ≤ 1048576 ∧ (0 ≤ r → smL smPart xs)) ?_ ?_ xs.length 0 (a - xs.length) (by omega) ⟨by omega, fun j _ h => by omega⟩
  · rintro i l hi ⟨h1, h2⟩ ih
    refine Wp.step ?_
    simp only [laws_szPartS_l5]
    simp (disch := omega) only [cbdec, if_pos, idxN, Option.bind_some, w64', castS]
    refine Wp.bind (szPart_ok _ (hp _ (List.getElem_mem hi)) l h1) (fun r hr => ?_)
    refine Wp.ite (fun h => Wp.ret ⟨by omega, fun h => by omega⟩) (fun h => ?_)
    refine ih _ ⟨by omega, fun j hj hji => ?_⟩
    by_cases e : j = i
    · subst e; exact hr.2 (by omega)
    · exact h2 j hj (by omega)
  · rintro l ⟨h1, h2⟩
    refine Wp.step ?_
    simp only [laws_szPartS_l5]
    simp (disch := omega) only [cbdec, if_neg]
    refine Wp.ret ⟨by omega, fun _ => ⟨by omega, fun y hy => ?_⟩⟩
    obtain ⟨j, hj, rfl⟩ := List.getElem_of_mem hy
    exact h2 j hj hj
theorem szItemS_ok (xs : List DItem) (hw : xs.length ≤ maxLen ∧ ∀ y ∈ xs, wf_item y) (a : Int) (ha : 0 ≤ a ∧ a ≤ 1048576) : Wp (fun k => laws_szItemS k xs a) (fun r => r ≤ 1048576 ∧ (0 ≤ r → smL smItem xs)) := by
  obtain ⟨hl, hp⟩ := hw
  have hl : xs.length ≤ 2 ^ 63 - 1 := hl
  unfold laws_szItemS
  try simp (disch := omega) only [w64', cbdec]
  refine Wp.ite (fun h => Wp.ret ⟨by omega, fun h => by omega⟩) (fun h => ?_)
  refine Wp.loop (n := xs.length) (f := fun k i (l : Int) => laws_szItemS_l5 k xs l (i : Int)) (Inv := fun i l => (0 ≤ l ∧ l ≤ 1048576) ∧ ∀ j (hj : j < xs.length), j < i → smItem xs[j]) (Q := fun r => r ≤ 1048576 ∧ (0 ≤ r → smL smItem xs)) ?_ ?_ xs.length 0 (a - xs.length) (by omega) ⟨by omega, fun j _ h => by omega⟩
  · rintro i l hi ⟨h1, h2⟩ ih
    refine Wp.step ?_
    simp only [laws_szItemS_l5]
    simp (disch := omega) only [cbdec, if_pos, idxN, Option.bind_some, w64', castS]
    refine Wp.bind (szItem_ok _ (hp _ (List.getElem_mem hi)) l h1) (fun r hr => ?_)
    refine Wp.ite (fun h => Wp.ret ⟨by omega, fun h => by omega⟩) (fun h => ?_)
    refine ih _ ⟨by omega, fun j hj hji => ?_⟩
    by_cases e : j = i
    · subst e; exact hr.2 (by omega)
    · exact h2 j hj (by omega)
  · rintro l ⟨h1, h2⟩
    refine Wp.step ?_
    simp only [laws_szItemS_l5]
    simp (disch := omega) only [cbdec, if_neg]
    refine Wp.ret ⟨by omega, fun _ => ⟨by omega, fun y hy => ?_⟩⟩
    obtain ⟨j, hj, rfl⟩ := List.getElem_of_mem hy
    exact h2 j hj hj
theorem szHeldS_ok (xs : List DHeld) (hw : xs.length ≤ maxLen ∧ ∀ y ∈ xs, wf_held y) (a : Int) (ha : 0 ≤ a ∧ a ≤ 1048576) : Wp (fun k => laws_szHeldS k xs a) (fun r => r ≤ 1048576 ∧ (0 ≤ r → smL smHeld xs)) := by
  obtain ⟨hl, hp⟩ := hw
  have hl : xs.length ≤ 2 ^ 63 - 1 := hl
  unfold laws_szHeldS
  try simp (disch := omega) only [w64', cbdec]
  refine Wp.ite (fun h => Wp.ret ⟨by omega, fun h => by omega⟩) (fun h => ?_)
  refine Wp.loop (n := xs.length) (f := fun k i (l : Int) => laws_szHeldS_l5 k xs l (i : Int)) (Inv := fun i l => (0 ≤ l ∧ l ≤ 1048576) ∧ ∀ j (hj : j < xs.length), j < i → smHeld xs[j]) (Q := fun r => r ≤ 1048576 ∧ (0 ≤ r → smL smHeld xs)) ?_ ?_ xs.length 0 (a - xs.length) (by omega) ⟨by omega, fun j _ h => by omega⟩
  · rintro i l hi ⟨h1, h2⟩ ih
    refine Wp.step ?_
    simp only [laws_szHeldS_l5]
    simp (disch := omega) only [cbdec, if_pos, idxN, Option.bind_some, w64', castS]
    refine Wp.bind (szHeld_ok _ (hp _ (List.getElem_mem hi)) l h1) (fun r hr => ?_)
    refine Wp.ite (fun h => Wp.ret ⟨by omega, fun h => by omega⟩) (fun h => ?_)
    refine ih _ ⟨by omega, fun j hj hji => ?_⟩
    by_cases e : j = i
    · subst e; exact hr.2 (by omega)
    · exact h2 j hj (by omega)
  · rintro l ⟨h1, h2⟩
    refine Wp.step ?_
    simp only [laws_szHeldS_l5]
    simp (disch := omega) only [cbdec, if_neg]
    refine Wp.ret ⟨by omega, fun _ => ⟨by omega, fun y hy => ?_⟩⟩
    obtain ⟨j, hj, rfl⟩ := List.getElem_of_mem hy
    exact h2 j hj hj
theorem szStringS_ok (xs : List ByteArray) (hw : xs.length ≤ maxLen ∧ ∀ y ∈ xs, wf_str y) (a : Int) (ha : 0 ≤ a ∧ a ≤ 1048576) : Wp (fun k => laws_szStringS k xs a) (fun r => r ≤ 1048576 ∧ (0 ≤ r → smL (fun s : ByteArray => s.size ≤ 1048576) xs)) := by
  obtain ⟨hl, hp⟩ := hw
  have hl : xs.length ≤ 2 ^ 63 - 1 := hl
  unfold laws_szStringS
  try simp (disch := omega) only [w64', cbdec]
  refine Wp.ite (fun h => Wp.ret ⟨by omega, fun h => by omega⟩) (fun h => ?_)
  refine Wp.loop (n := xs.length) (f := fun k i (l : Int) => laws_szStringS_l5 k xs l (i : Int)) (Inv := fun i l => (0 ≤ l ∧ l ≤ 1048576) ∧ ∀ j (hj : j < xs.length), j < i → (fun s : ByteArray => s.size ≤ 1048576) xs[j]) (Q := fun r => r ≤ 1048576 ∧ (0 ≤ r → smL (fun s : ByteArray => s.size ≤ 1048576) xs)) ?_ ?_ xs.length 0 (a - xs.length) (by omega) ⟨by omega, fun j _ h => by omega⟩
  · rintro i l hi ⟨h1, h2⟩ ih
    refine Wp.step ?_
    simp only [laws_szStringS_l5]
    simp (disch := omega) only [cbdec, if_pos, idxN, Option.bind_some, w64', castS]
    have h3 : xs[i].size ≤ 2 ^ 63 - 1 := hp _ (List.getElem_mem hi)
    try simp (disch := omega) only [w64']
    refine Wp.ite (fun h => Wp.ret ⟨by omega, fun h => by omega⟩) (fun h => ?_)
    refine ih _ ⟨by omega, fun j hj hji => ?_⟩
    by_cases e : j = i
    · subst e; show xs[j].size ≤ 1048576; omega
    · exact h2 j hj (by omega)
  · rintro l ⟨h1, h2⟩
    refine Wp.step ?_
    simp only [laws_szStringS_l5]
    simp (disch := omega) only [cbdec, if_neg]
    refine Wp.ret ⟨by omega, fun _ => ⟨by omega, fun y hy => ?_⟩⟩
    obtain ⟨j, hj, rfl⟩ := List.getElem_of_mem hy
    exact h2 j hj hj
theorem szSend_ok (x : DSend) (hw : wfDSend x) (a : Int) (ha : 0 ≤ a ∧ a ≤ 1048576) : Wp (fun k => laws_szSend k x a) (fun r => r ≤ 1048576 ∧ (0 ≤ r → smSend x)) := by
  unfold smSend
  obtain ⟨w0, w1⟩ := hw
  unfold laws_szSend
  refine Wp.bind (szItemS_ok _ w1 a (by omega)) (fun r0 e0 => ?_)
  first | refine Wp.dec (fun h => Wp.ret ⟨by omega, fun h => by omega⟩) (fun h0 => Wp.ret ⟨by omega, fun _ => ?_⟩) | refine Wp.ite (fun h => Wp.ret ⟨by omega, fun h => by omega⟩) (fun h0 => Wp.ret ⟨by omega, fun _ => ?_⟩)
  exact e0.2 (by omega)
theorem szTake_ok (x : DTake) (hw : wfDTake x) (a : Int) (ha : 0 ≤ a ∧ a ≤ 1048576) : Wp (fun k => laws_szTake k x a) (fun r => r ≤ 1048576 ∧ (0 ≤ r → smTake x)) := by
  unfold smTake
  obtain ⟨w0, w1, w2, w3⟩ := hw
  unfold laws_szTake
  refine Wp.bind (szHeldS_ok _ w1 a (by omega)) (fun r0 e0 => ?_)
  first | refine Wp.dec (fun h => Wp.ret ⟨by omega, fun h => by omega⟩) (fun h0 => ?_) | refine Wp.ite (fun h => Wp.ret ⟨by omega, fun h => by omega⟩) (fun h0 => ?_)
  have s1 : x.Open.size ≤ 2 ^ 63 - 1 := w2
  try simp (disch := omega) only [w64', cbdec]
  refine Wp.ite (fun h => Wp.ret ⟨by omega, fun h => by omega⟩) (fun h1 => ?_)
  refine Wp.bind (szStringS_ok _ w3 (r0 - (x.Open.size : Int)) (by omega)) (fun r2 e2 => ?_)
  first | refine Wp.dec (fun h => Wp.ret ⟨by omega, fun h => by omega⟩) (fun h2 => Wp.ret ⟨by omega, fun _ => ?_⟩) | refine Wp.ite (fun h => Wp.ret ⟨by omega, fun h => by omega⟩) (fun h2 => Wp.ret ⟨by omega, fun _ => ?_⟩)
  exact ⟨e0.2 (by omega), (by omega), e2.2 (by omega)⟩
theorem eqPart_ok (x : DPart) (h : smPart x) : Wp (fun k => laws_eqPart k x x) (· = true) := by
  unfold laws_eqPart
  unfold smPart at h
  have h0 := h
  simp only [w64', cbdec, cbnot, cbeq, cbne, cbseq, cbbeq, cond_true, cond_false, Option.bind_some, Bool.not_true, Bool.not_false, if_true, if_false]
  exact Wp.ret rfl
theorem eqItem_ok (x : DItem) (h : smItem x) : Wp (fun k => laws_eqItem k x x) (· = true) := by
  unfold laws_eqItem
  unfold smItem at h
  have h0 := h
  simp only [w64', cbdec, cbnot, cbeq, cbne, cbseq, cbbeq, cond_true, cond_false, Option.bind_some, Bool.not_true, Bool.not_false, if_true, if_false]
  refine Wp.bind (eqPart_ok _ h0) (fun _ e => ?_); subst e
  simp only [w64', cbdec, cbnot, cbeq, cbne, cbseq, cbbeq, cond_true, cond_false, Option.bind_some, Bool.not_true, Bool.not_false, if_true, if_false]
  exact Wp.ret rfl
theorem eqHeld_ok (x : DHeld) (h : smHeld x) : Wp (fun k => laws_eqHeld k x x) (· = true) := by
  unfold laws_eqHeld
  unfold smHeld at h
  have h0 := h
  simp only [w64', cbdec, cbnot, cbeq, cbne, cbseq, cbbeq, cond_true, cond_false, Option.bind_some, Bool.not_true, Bool.not_false, if_true, if_false]
  refine Wp.bind (eqPart_ok _ h0) (fun _ e => ?_); subst e
  simp only [w64', cbdec, cbnot, cbeq, cbne, cbseq, cbbeq, cond_true, cond_false, Option.bind_some, Bool.not_true, Bool.not_false, if_true, if_false]
  exact Wp.ret rfl
theorem eqPacket_ok (x : DPacket) (h : smPacket x) : Wp (fun k => laws_eqPacket k x x) (· = true) := by
  unfold laws_eqPacket
  unfold smPacket at h
  have h0 := h
  simp only [w64', cbdec, cbnot, cbeq, cbne, cbseq, cbbeq, cond_true, cond_false, Option.bind_some, Bool.not_true, Bool.not_false, if_true, if_false]
  exact Wp.ret rfl
theorem eqPartS_ok (xs : List DPart) (h : smL smPart xs) : Wp (fun k => laws_eqPartS k xs xs) (· = true) := by
  unfold laws_eqPartS
  obtain ⟨hl, hp⟩ := h
  simp only [cbne, if_true]
  refine Wp.loop (n := xs.length) (f := fun k i (_ : Unit) => laws_eqPartS_l4 k xs xs (i : Int)) (Inv := fun _ _ => True) (Q := (· = true)) ?_ ?_ xs.length 0 () (by omega) trivial
  · rintro i _ hi _ ih
    refine Wp.step ?_
    simp only [laws_eqPartS_l4]
    simp (disch := omega) only [cbdec, if_pos, idxN, Option.bind_some, w64', castS]
    refine Wp.bind (eqPart_ok _ (hp _ (List.getElem_mem hi))) (fun _ e => ?_); subst e
    simp only [w64', cbdec, cbnot, cbeq, cbne, cbseq, cbbeq, cond_true, cond_false, Option.bind_some, Bool.not_true, Bool.not_false, if_true, if_false]
    exact ih () trivial
  · rintro _ _
    refine Wp.step ?_
    simp only [laws_eqPartS_l4]
    simp (disch := omega) only [cbdec, if_neg]
    exact Wp.ret rfl
theorem eqItemS_ok (xs : List DItem) (h : smL smItem xs) : Wp (fun k => laws_eqItemS k xs xs) (· = true) := by
  unfold laws_eqItemS
  obtain ⟨hl, hp⟩ := h
  simp only [cbne, if_true]
  refine Wp.loop (n := xs.length) (f := fun k i (_ : Unit) => laws_eqItemS_l4 k xs xs (i : Int)) (Inv := fun _ _ => True) (Q := (· = true)) ?_ ?_ xs.length 0 () (by omega) trivial
  · rintro i _ hi _ ih
    refine Wp.step ?_
    simp only [laws_eqItemS_l4]
    simp (disch := omega) only [cbdec, if_pos, idxN, Option.bind_some, w64', castS]
    refine Wp.bind (eqItem_ok _ (hp _ (List.getElem_mem hi))) (fun _ e => ?_); subst e
    simp only [w64', cbdec, cbnot, cbeq, cbne, cbseq, cbbeq, cond_true, cond_false, Option.bind_some, Bool.not_true, Bool.not_false, if_true, if_false]
    exact ih () trivial
  · rintro _ _
    refine Wp.step ?_
    simp only [laws_eqItemS_l4]
    simp (disch := omega) only [cbdec, if_neg]
    exact Wp.ret rfl
theorem eqHeldS_ok (xs : List DHeld) (h : smL smHeld xs) : Wp (fun k => laws_eqHeldS k xs xs) (· = true) := by
  unfold laws_eqHeldS
  obtain ⟨hl, hp⟩ := h
  simp only [cbne, if_true]
  refine Wp.loop (n := xs.length) (f := fun k i (_ : Unit) => laws_eqHeldS_l4 k xs xs (i : Int)) (Inv := fun _ _ => True) (Q := (· = true)) ?_ ?_ xs.length 0 () (by omega) trivial
  · rintro i _ hi _ ih
    refine Wp.step ?_
    simp only [laws_eqHeldS_l4]
    simp (disch := omega) only [cbdec, if_pos, idxN, Option.bind_some, w64', castS]
    refine Wp.bind (eqHeld_ok _ (hp _ (List.getElem_mem hi))) (fun _ e => ?_); subst e
    simp only [w64', cbdec, cbnot, cbeq, cbne, cbseq, cbbeq, cond_true, cond_false, Option.bind_some, Bool.not_true, Bool.not_false, if_true, if_false]
    exact ih () trivial
  · rintro _ _
    refine Wp.step ?_
    simp only [laws_eqHeldS_l4]
    simp (disch := omega) only [cbdec, if_neg]
    exact Wp.ret rfl
theorem eqStringS_ok (xs : List ByteArray) (h : smL (fun s : ByteArray => s.size ≤ 1048576) xs) : Wp (fun k => laws_eqStringS k xs xs) (· = true) := by
  unfold laws_eqStringS
  obtain ⟨hl, hp⟩ := h
  simp only [cbne, if_true]
  refine Wp.loop (n := xs.length) (f := fun k i (_ : Unit) => laws_eqStringS_l4 k xs xs (i : Int)) (Inv := fun _ _ => True) (Q := (· = true)) ?_ ?_ xs.length 0 () (by omega) trivial
  · rintro i _ hi _ ih
    refine Wp.step ?_
    simp only [laws_eqStringS_l4]
    simp (disch := omega) only [cbdec, if_pos, idxN, Option.bind_some, w64', castS]
    simp only [w64', cbdec, cbnot, cbeq, cbne, cbseq, cbbeq, cond_true, cond_false, Option.bind_some, Bool.not_true, Bool.not_false, if_true, if_false]
    exact ih () trivial
  · rintro _ _
    refine Wp.step ?_
    simp only [laws_eqStringS_l4]
    simp (disch := omega) only [cbdec, if_neg]
    exact Wp.ret rfl
theorem eqIntS_ok (xs : List Int) (h : smL (fun _ : Int => True) xs) : Wp (fun k => laws_eqIntS k xs xs) (· = true) := by
  unfold laws_eqIntS
  obtain ⟨hl, hp⟩ := h
  simp only [cbne, if_true]
  refine Wp.loop (n := xs.length) (f := fun k i (_ : Unit) => laws_eqIntS_l4 k xs xs (i : Int)) (Inv := fun _ _ => True) (Q := (· = true)) ?_ ?_ xs.length 0 () (by omega) trivial
  · rintro i _ hi _ ih
    refine Wp.step ?_
    simp only [laws_eqIntS_l4]
    simp (disch := omega) only [cbdec, if_pos, idxN, Option.bind_some, w64', castS]
    simp only [w64', cbdec, cbnot, cbeq, cbne, cbseq, cbbeq, cond_true, cond_false, Option.bind_some, Bool.not_true, Bool.not_false, if_true, if_false]
    exact ih () trivial
  · rintro _ _
    refine Wp.step ?_
    simp only [laws_eqIntS_l4]
    simp (disch := omega) only [cbdec, if_neg]
    exact Wp.ret rfl
theorem eqSend_ok (x : DSend) (h : smSend x) : Wp (fun k => laws_eqSend k x x) (· = true) := by
  unfold laws_eqSend
  unfold smSend at h
  have h0 := h
  simp only [w64', cbdec, cbnot, cbeq, cbne, cbseq, cbbeq, cond_true, cond_false, Option.bind_some, Bool.not_true, Bool.not_false, if_true, if_false]
  refine Wp.bind (eqItemS_ok _ h0) (fun _ e => ?_); subst e
  simp only [w64', cbdec, cbnot, cbeq, cbne, cbseq, cbbeq, cond_true, cond_false, Option.bind_some, Bool.not_true, Bool.not_false, if_true, if_false]
  exact Wp.ret rfl
theorem eqTake_ok (x : DTake) (h : smTake x) : Wp (fun k => laws_eqTake k x x) (· = true) := by
  unfold laws_eqTake
  unfold smTake at h
  obtain ⟨h0, h1, h2⟩ := h
  simp only [w64', cbdec, cbnot, cbeq, cbne, cbseq, cbbeq, cond_true, cond_false, Option.bind_some, Bool.not_true, Bool.not_false, if_true, if_false]
  refine Wp.bind (eqHeldS_ok _ h0) (fun _ e => ?_); subst e
  simp only [w64', cbdec, cbnot, cbeq, cbne, cbseq, cbbeq, cond_true, cond_false, Option.bind_some, Bool.not_true, Bool.not_false, if_true, if_false]
  refine Wp.bind (eqStringS_ok _ h2) (fun _ e => ?_); subst e
  simp only [w64', cbdec, cbnot, cbeq, cbne, cbseq, cbbeq, cond_true, cond_false, Option.bind_some, Bool.not_true, Bool.not_false, if_true, if_false]
  exact Wp.ret rfl
end Km.X
namespace Km.X
open Go Km
set_option linter.unusedVariables false
set_option linter.unusedSimpArgs false
theorem markText_loop : ∀ (d : Nat) (k : Int) (s : ByteArray), k < 10 ^ d → k ≤ 9223372036854775807 → d + s.size ≤ 1000 → Wp (fun n => laws_markText_l4 n k s) (fun _ => True)
  | 0, k, s, hk, hb, hs => by
    refine Wp.step ?_
    simp only [laws_markText_l4]
    have hk0 : ¬ (k > 0) := by simp at hk; omega
    simp only [cbdec, if_neg hk0, sadd_ok (x := ⟨#[109]⟩) (y := s) (by show (1 : Nat) + s.size ≤ _; omega), Option.bind_some]
    exact Wp.ret trivial
  | d + 1, k, s, hk, hb, hs => by
    refine Wp.step ?_
    simp only [laws_markText_l4, cbdec]
    refine Wp.ite (fun h => ?_) (fun h => ?_)
    · have hs1 : sadd (bstr [IntKind.wrap .u8 (IntKind.wrap .i64 (48 + k % 10))]) s = some _ := sadd_ok (by rw [bstr_size]; simp; omega)
      simp (disch := omega) only [qrem_nn, qdiv_nn, Option.bind_some]
      rw [hs1]
      simp (disch := omega) only [Option.bind_some, w64']
      refine markText_loop d (k / 10) _ ?_ (by omega) ?_
      · rw [Int.pow_succ] at hk; omega
      · rw [ba_size_append, bstr_size]; simp; omega
    · simp only [sadd_ok (x := ⟨#[109]⟩) (y := s) (by show (1 : Nat) + s.size ≤ _; omega), Option.bind_some]
      exact Wp.ret trivial
noncomputable def mt (k : Int) : ByteArray := ans (fun n => laws_markText n k)
theorem markText_ok {k : Int} (h : 0 ≤ k ∧ k ≤ 1000000000000) : Wp (fun n => laws_markText n k) (· = mt k) := by
  have : Wp (fun n => laws_markText n k) (fun _ => True) := by
    unfold laws_markText
    simp only [cbdec]
    refine Wp.ite (fun h => Wp.ret trivial) (fun h => markText_loop 13 k _ (by omega) (by omega) (by decide))
  exact (Wp.ans_eq this).2

def MkSPart : Int → List DPart → Prop
  | _, [] => True
  | k, x :: t => (x.Text = mt k ∧ x.Last = ((k + 1) % 3 == 0)) ∧ MkSPart (k + 2) t
theorem heldPartS_loop : ∀ (t pre : List DPart) (k : Int), (pre ++ t).length ≤ 100000000 → 0 ≤ k → k + 2 * t.length ≤ 1000000000000 → MkSPart k t → Wp (fun n => laws_heldPartS_l2 n (pre ++ t) k (pre.length : Int)) (· = k + 2 * t.length)
  | [], pre, k, hl, h0, hk, _ => by
    refine Wp.step ?_
    simp only [laws_heldPartS_l2, List.append_nil]
    simp (disch := omega) only [cbdec, if_neg]
    exact Wp.ret (by simp)
  | x :: t, pre, k, hl, h0, hk, hm => by
    simp only [MkSPart] at hm
    obtain ⟨hm, hm2⟩ := hm
    simp only [List.length_append, List.length_cons] at hl hk
    refine Wp.step ?_
    simp only [laws_heldPartS_l2]
    have hlt := lt_mid (pre := pre) (t := t) (x := x)
    obtain ⟨m0, m1⟩ := hm
    simp (disch := first | omega | rfl | assumption) only [cbdec, cbne, cbnot, cbbeq, cbseq, if_pos, if_neg, if_true, eq_self, Int.reduceAdd, idx_mid, Option.bind_some, w64', qrem_nn, addk, hlt, m0, m1]
    refine Wp.bind (markText_ok (by omega)) (fun _ e => ?_); subst e
    try simp (disch := first | omega | rfl | assumption) only [cbdec, cbne, cbnot, cbbeq, cbseq, if_pos, if_neg, if_true, eq_self, Int.reduceAdd, idx_mid, Option.bind_some, w64', qrem_nn, addk, hlt, m0, m1]
    have ih : Wp (fun n => laws_heldPartS_l2 n (pre ++ x :: t) (k + 2) ((pre.length : Int) + 1)) (· = k + 2 + 2 * t.length) := by
      have := heldPartS_loop t (pre ++ [x]) (k + 2) (by simp; omega) (by omega) (by omega) hm2
      rwa [← mid_succ, ← mid_len] at this
    exact ih.mono (fun r hr => by simp only [List.length_cons]; omega)
theorem heldPartS_ok {k : Int} {l : List DPart} (h0 : 0 ≤ k) (hk : k + 2 * l.length ≤ 1000000000000) (hl : l.length ≤ 100000000) (hm : MkSPart k l) : Wp (fun n => laws_heldPartS n l k) (· = k + 2 * l.length) := by
  unfold laws_heldPartS
  exact heldPartS_loop l [] k (by simpa using hl) h0 hk hm
theorem markPartS_loop : ∀ (t pre : List DPart) (k : Int), (pre ++ t).length ≤ 100000000 → 0 ≤ k → k + 2 * t.length ≤ 1000000000000 → Wp (fun n => laws_markPartS_l2 n k (pre.length : Int) (pre ++ t)) (fun r => r.1 = k + 2 * t.length ∧ ∃ t', r.2 = pre ++ t' ∧ t'.length = t.length ∧ MkSPart k t')
  | [], pre, k, hl, h0, hk => by
    refine Wp.step ?_
    simp only [laws_markPartS_l2, List.append_nil]
    simp (disch := omega) only [cbdec, if_neg]
    exact Wp.ret ⟨by simp, [], by simp, rfl, trivial⟩
  | x :: t, pre, k, hl, h0, hk => by
    simp only [List.length_append, List.length_cons] at hl hk
    refine Wp.step ?_
    simp only [laws_markPartS_l2]
    simp (disch := omega) only [cbdec, if_pos, if_true, Int.reduceAdd, lt_mid, idx_mid, get_mid, set_mid, Option.bind_some, w64', qrem_nn, addk]
    refine Wp.bind (markText_ok (by omega)) (fun _ e => ?_); subst e
    try simp (disch := omega) only [cbdec, if_pos, if_true, Int.reduceAdd, lt_mid, idx_mid, get_mid, set_mid, Option.bind_some, w64', qrem_nn, addk]
    have key : ∀ y : DPart, (y.Text = mt k ∧ y.Last = ((k + 1) % 3 == 0)) → Wp (fun n => laws_markPartS_l2 n (k + 2) ((pre.length : Int) + 1) (pre ++ y :: t)) (fun r => r.1 = k + 2 * (x :: t).length ∧ ∃ t', r.2 = pre ++ t' ∧ t'.length = (x :: t).length ∧ MkSPart k t') := fun y hy => by
      have := markPartS_loop t (pre ++ [y]) (k + 2) (by simp; omega) (by omega) (by omega)
      rw [← mid_succ, ← mid_len] at this
      refine this.mono ?_
      rintro ⟨r1, r2⟩ ⟨e1, t', e2, e3, e4⟩
      refine ⟨by simp only [List.length_cons] at *; omega, y :: t', by rw [e2]; simp, by simp [e3], ?_⟩
      simp only [MkSPart]
      exact ⟨hy, e4⟩
    exact key _ (by simp)
theorem markPartS_ok {k : Int} {l : List DPart} (h0 : 0 ≤ k) (hk : k + 2 * l.length ≤ 1000000000000) (hl : l.length ≤ 100000000) : Wp (fun n => laws_markPartS n l k) (fun r => r.1 = k + 2 * l.length ∧ r.2.length = l.length ∧ MkSPart k r.2) := by
  unfold laws_markPartS
  refine (markPartS_loop l [] k (by simpa using hl) h0 hk).mono ?_
  rintro ⟨r1, r2⟩ ⟨e1, t', e2, e3, e4⟩
  simp only [List.nil_append] at e2
  subst e2
  exact ⟨e1, e3, e4⟩
def MkSItem : Int → List DItem → Prop
  | _, [] => True
  | k, x :: t => (x.Part.Text = mt k ∧ x.Part.Last = ((k + 1) % 3 == 0) ∧ x.Has = ((k + 2) % 3 == 0) ∧ x.Since = (k + 3)) ∧ MkSItem (k + 4) t
theorem heldItemS_loop : ∀ (t pre : List DItem) (k : Int), (pre ++ t).length ≤ 100000000 → 0 ≤ k → k + 4 * t.length ≤ 1000000000000 → MkSItem k t → Wp (fun n => laws_heldItemS_l2 n (pre ++ t) k (pre.length : Int)) (· = k + 4 * t.length)
  | [], pre, k, hl, h0, hk, _ => by
    refine Wp.step ?_
    simp only [laws_heldItemS_l2, List.append_nil]
    simp (disch := omega) only [cbdec, if_neg]
    exact Wp.ret (by simp)
  | x :: t, pre, k, hl, h0, hk, hm => by
    simp only [MkSItem] at hm
    obtain ⟨hm, hm2⟩ := hm
    simp only [List.length_append, List.length_cons] at hl hk
    refine Wp.step ?_
    simp only [laws_heldItemS_l2]
    have hlt := lt_mid (pre := pre) (t := t) (x := x)
    obtain ⟨m0, m1, m2, m3⟩ := hm
    simp (disch := first | omega | rfl | assumption) only [cbdec, cbne, cbnot, cbbeq, cbseq, if_pos, if_neg, if_true, eq_self, Int.reduceAdd, idx_mid, Option.bind_some, w64', qrem_nn, addk, hlt, m0, m1, m2, m3]
    refine Wp.bind (markText_ok (by omega)) (fun _ e => ?_); subst e
    try simp (disch := first | omega | rfl | assumption) only [cbdec, cbne, cbnot, cbbeq, cbseq, if_pos, if_neg, if_true, eq_self, Int.reduceAdd, idx_mid, Option.bind_some, w64', qrem_nn, addk, hlt, m0, m1, m2, m3]
    have ih : Wp (fun n => laws_heldItemS_l2 n (pre ++ x :: t) (k + 4) ((pre.length : Int) + 1)) (· = k + 4 + 4 * t.length) := by
      have := heldItemS_loop t (pre ++ [x]) (k + 4) (by simp; omega) (by omega) (by omega) hm2
      rwa [← mid_succ, ← mid_len] at this
    exact ih.mono (fun r hr => by simp only [List.length_cons]; omega)
theorem heldItemS_ok {k : Int} {l : List DItem} (h0 : 0 ≤ k) (hk : k + 4 * l.length ≤ 1000000000000) (hl : l.length ≤ 100000000) (hm : MkSItem k l) : Wp (fun n => laws_heldItemS n l k) (· = k + 4 * l.length) := by
  unfold laws_heldItemS
  exact heldItemS_loop l [] k (by simpa using hl) h0 hk hm
theorem markItemS_loop : ∀ (t pre : List DItem) (k : Int), (pre ++ t).length ≤ 100000000 → 0 ≤ k → k + 4 * t.length ≤ 1000000000000 → Wp (fun n => laws_markItemS_l2 n k (pre.length : Int) (pre ++ t)) (fun r => r.1 = k + 4 * t.length ∧ ∃ t', r.2 = pre ++ t' ∧ t'.length = t.length ∧ MkSItem k t')
  | [], pre, k, hl, h0, hk => by
    refine Wp.step ?_
    simp only [laws_markItemS_l2, List.append_nil]
    simp (disch := omega) only [cbdec, if_neg]
    exact Wp.ret ⟨by simp, [], by simp, rfl, trivial⟩
  | x :: t, pre, k, hl, h0, hk => by
    simp only [List.length_append, List.length_cons] at hl hk
    refine Wp.step ?_
    simp only [laws_markItemS_l2]
    simp (disch := omega) only [cbdec, if_pos, if_true, Int.reduceAdd, lt_mid, idx_mid, get_mid, set_mid, Option.bind_some, w64', qrem_nn, addk]
    refine Wp.bind (markText_ok (by omega)) (fun _ e => ?_); subst e
    try simp (disch := omega) only [cbdec, if_pos, if_true, Int.reduceAdd, lt_mid, idx_mid, get_mid, set_mid, Option.bind_some, w64', qrem_nn, addk]
    have key : ∀ y : DItem, (y.Part.Text = mt k ∧ y.Part.Last = ((k + 1) % 3 == 0) ∧ y.Has = ((k + 2) % 3 == 0) ∧ y.Since = (k + 3)) → Wp (fun n => laws_markItemS_l2 n (k + 4) ((pre.length : Int) + 1) (pre ++ y :: t)) (fun r => r.1 = k + 4 * (x :: t).length ∧ ∃ t', r.2 = pre ++ t' ∧ t'.length = (x :: t).length ∧ MkSItem k t') := fun y hy => by
      have := markItemS_loop t (pre ++ [y]) (k + 4) (by simp; omega) (by omega) (by omega)
      rw [← mid_succ, ← mid_len] at this
      refine this.mono ?_
      rintro ⟨r1, r2⟩ ⟨e1, t', e2, e3, e4⟩
      refine ⟨by simp only [List.length_cons] at *; omega, y :: t', by rw [e2]; simp, by simp [e3], ?_⟩
      simp only [MkSItem]
      exact ⟨hy, e4⟩
    exact key _ (by simp)
theorem markItemS_ok {k : Int} {l : List DItem} (h0 : 0 ≤ k) (hk : k + 4 * l.length ≤ 1000000000000) (hl : l.length ≤ 100000000) : Wp (fun n => laws_markItemS n l k) (fun r => r.1 = k + 4 * l.length ∧ r.2.length = l.length ∧ MkSItem k r.2) := by
  unfold laws_markItemS
  refine (markItemS_loop l [] k (by simpa using hl) h0 hk).mono ?_
  rintro ⟨r1, r2⟩ ⟨e1, t', e2, e3, e4⟩
  simp only [List.nil_append] at e2
  subst e2
  exact ⟨e1, e3, e4⟩
def MkSHeld : Int → List DHeld → Prop
  | _, [] => True
  | k, x :: t => (x.Seq = k ∧ x.Part.Text = mt (k + 1) ∧ x.Part.Last = ((k + 2) % 3 == 0)) ∧ MkSHeld (k + 3) t
theorem heldHeldS_loop : ∀ (t pre : List DHeld) (k : Int), (pre ++ t).length ≤ 100000000 → 0 ≤ k → k + 3 * t.length ≤ 1000000000000 → MkSHeld k t → Wp (fun n => laws_heldHeldS_l2 n (pre ++ t) k (pre.length : Int)) (· = k + 3 * t.length)
  | [], pre, k, hl, h0, hk, _ => by
    refine Wp.step ?_
    simp only [laws_heldHeldS_l2, List.append_nil]
    simp (disch := omega) only [cbdec, if_neg]
    exact Wp.ret (by simp)
  | x :: t, pre, k, hl, h0, hk, hm => by
    simp only [MkSHeld] at hm
    obtain ⟨hm, hm2⟩ := hm
    simp only [List.length_append, List.length_cons] at hl hk
    refine Wp.step ?_
    simp only [laws_heldHeldS_l2]
    have hlt := lt_mid (pre := pre) (t := t) (x := x)
    obtain ⟨m0, m1, m2⟩ := hm
    simp (disch := first | omega | rfl | assumption) only [cbdec, cbne, cbnot, cbbeq, cbseq, if_pos, if_neg, if_true, eq_self, Int.reduceAdd, idx_mid, Option.bind_some, w64', qrem_nn, addk, hlt, m0, m1, m2]
    refine Wp.bind (markText_ok (by omega)) (fun _ e => ?_); subst e
    try simp (disch := first | omega | rfl | assumption) only [cbdec, cbne, cbnot, cbbeq, cbseq, if_pos, if_neg, if_true, eq_self, Int.reduceAdd, idx_mid, Option.bind_some, w64', qrem_nn, addk, hlt, m0, m1, m2]
    have ih : Wp (fun n => laws_heldHeldS_l2 n (pre ++ x :: t) (k + 3) ((pre.length : Int) + 1)) (· = k + 3 + 3 * t.length) := by
      have := heldHeldS_loop t (pre ++ [x]) (k + 3) (by simp; omega) (by omega) (by omega) hm2
      rwa [← mid_succ, ← mid_len] at this
    exact ih.mono (fun r hr => by simp only [List.length_cons]; omega)
theorem heldHeldS_ok {k : Int} {l : List DHeld} (h0 : 0 ≤ k) (hk : k + 3 * l.length ≤ 1000000000000) (hl : l.length ≤ 100000000) (hm : MkSHeld k l) : Wp (fun n => laws_heldHeldS n l k) (· = k + 3 * l.length) := by
  unfold laws_heldHeldS
  exact heldHeldS_loop l [] k (by simpa using hl) h0 hk hm
theorem markHeldS_loop : ∀ (t pre : List DHeld) (k : Int), (pre ++ t).length ≤ 100000000 → 0 ≤ k → k + 3 * t.length ≤ 1000000000000 → Wp (fun n => laws_markHeldS_l2 n k (pre.length : Int) (pre ++ t)) (fun r => r.1 = k + 3 * t.length ∧ ∃ t', r.2 = pre ++ t' ∧ t'.length = t.length ∧ MkSHeld k t')
  | [], pre, k, hl, h0, hk => by
    refine Wp.step ?_
    simp only [laws_markHeldS_l2, List.append_nil]
    simp (disch := omega) only [cbdec, if_neg]
    exact Wp.ret ⟨by simp, [], by simp, rfl, trivial⟩
  | x :: t, pre, k, hl, h0, hk => by
    simp only [List.length_append, List.length_cons] at hl hk
    refine Wp.step ?_
    simp only [laws_markHeldS_l2]
    simp (disch := omega) only [cbdec, if_pos, if_true, Int.reduceAdd, lt_mid, idx_mid, get_mid, set_mid, Option.bind_some, w64', qrem_nn, addk]
    refine Wp.bind (markText_ok (by omega)) (fun _ e => ?_); subst e
    try simp (disch := omega) only [cbdec, if_pos, if_true, Int.reduceAdd, lt_mid, idx_mid, get_mid, set_mid, Option.bind_some, w64', qrem_nn, addk]
    have key : ∀ y : DHeld, (y.Seq = k ∧ y.Part.Text = mt (k + 1) ∧ y.Part.Last = ((k + 2) % 3 == 0)) → Wp (fun n => laws_markHeldS_l2 n (k + 3) ((pre.length : Int) + 1) (pre ++ y :: t)) (fun r => r.1 = k + 3 * (x :: t).length ∧ ∃ t', r.2 = pre ++ t' ∧ t'.length = (x :: t).length ∧ MkSHeld k t') := fun y hy => by
      have := markHeldS_loop t (pre ++ [y]) (k + 3) (by simp; omega) (by omega) (by omega)
      rw [← mid_succ, ← mid_len] at this
      refine this.mono ?_
      rintro ⟨r1, r2⟩ ⟨e1, t', e2, e3, e4⟩
      refine ⟨by simp only [List.length_cons] at *; omega, y :: t', by rw [e2]; simp, by simp [e3], ?_⟩
      simp only [MkSHeld]
      exact ⟨hy, e4⟩
    exact key _ (by simp)
theorem markHeldS_ok {k : Int} {l : List DHeld} (h0 : 0 ≤ k) (hk : k + 3 * l.length ≤ 1000000000000) (hl : l.length ≤ 100000000) : Wp (fun n => laws_markHeldS n l k) (fun r => r.1 = k + 3 * l.length ∧ r.2.length = l.length ∧ MkSHeld k r.2) := by
  unfold laws_markHeldS
  refine (markHeldS_loop l [] k (by simpa using hl) h0 hk).mono ?_
  rintro ⟨r1, r2⟩ ⟨e1, t', e2, e3, e4⟩
  simp only [List.nil_append] at e2
  subst e2
  exact ⟨e1, e3, e4⟩
def MkSString : Int → List ByteArray → Prop
  | _, [] => True
  | k, x :: t => (x = mt k) ∧ MkSString (k + 1) t
theorem heldStringS_loop : ∀ (t pre : List ByteArray) (k : Int), (pre ++ t).length ≤ 100000000 → 0 ≤ k → k + 1 * t.length ≤ 1000000000000 → MkSString k t → Wp (fun n => laws_heldStringS_l2 n (pre ++ t) k (pre.length : Int)) (· = k + 1 * t.length)
  | [], pre, k, hl, h0, hk, _ => by
    refine Wp.step ?_
    simp only [laws_heldStringS_l2, List.append_nil]
    simp (disch := omega) only [cbdec, if_neg]
    exact Wp.ret (by simp)
  | x :: t, pre, k, hl, h0, hk, hm => by
    simp only [MkSString] at hm
    obtain ⟨hm, hm2⟩ := hm
    simp only [List.length_append, List.length_cons] at hl hk
    refine Wp.step ?_
    simp only [laws_heldStringS_l2]
    have hlt := lt_mid (pre := pre) (t := t) (x := x)
    have m0 := hm
    simp (disch := first | omega | rfl | assumption) only [cbdec, cbne, cbnot, cbbeq, cbseq, if_pos, if_neg, if_true, eq_self, Int.reduceAdd, idx_mid, Option.bind_some, w64', qrem_nn, addk, hlt, true_and]
    refine Wp.bind (markText_ok (by omega)) (fun _ e => ?_); subst e
    try simp (disch := first | omega | rfl | assumption) only [cbdec, cbne, cbnot, cbbeq, cbseq, if_pos, if_neg, if_true, eq_self, Int.reduceAdd, idx_mid, Option.bind_some, w64', qrem_nn, addk, hlt, true_and]
    have ih : Wp (fun n => laws_heldStringS_l2 n (pre ++ x :: t) (k + 1) ((pre.length : Int) + 1)) (· = k + 1 + 1 * t.length) := by
      have := heldStringS_loop t (pre ++ [x]) (k + 1) (by simp; omega) (by omega) (by omega) hm2
      rwa [← mid_succ, ← mid_len] at this
    exact ih.mono (fun r hr => by simp only [List.length_cons]; omega)
theorem heldStringS_ok {k : Int} {l : List ByteArray} (h0 : 0 ≤ k) (hk : k + 1 * l.length ≤ 1000000000000) (hl : l.length ≤ 100000000) (hm : MkSString k l) : Wp (fun n => laws_heldStringS n l k) (· = k + 1 * l.length) := by
  unfold laws_heldStringS
  exact heldStringS_loop l [] k (by simpa using hl) h0 hk hm
theorem markStringS_loop : ∀ (t pre : List ByteArray) (k : Int), (pre ++ t).length ≤ 100000000 → 0 ≤ k → k + 1 * t.length ≤ 1000000000000 → Wp (fun n => laws_markStringS_l2 n k (pre.length : Int) (pre ++ t)) (fun r => r.1 = k + 1 * t.length ∧ ∃ t', r.2 = pre ++ t' ∧ t'.length = t.length ∧ MkSString k t')
  | [], pre, k, hl, h0, hk => by
    refine Wp.step ?_
    simp only [laws_markStringS_l2, List.append_nil]
    simp (disch := omega) only [cbdec, if_neg]
    exact Wp.ret ⟨by simp, [], by simp, rfl, trivial⟩
  | x :: t, pre, k, hl, h0, hk => by
    simp only [List.length_append, List.length_cons] at hl hk
    refine Wp.step ?_
    simp only [laws_markStringS_l2]
    simp (disch := omega) only [cbdec, if_pos, if_true, Int.reduceAdd, lt_mid, idx_mid, get_mid, set_mid, Option.bind_some, w64', qrem_nn, addk]
    refine Wp.bind (markText_ok (by omega)) (fun _ e => ?_); subst e
    try simp (disch := omega) only [cbdec, if_pos, if_true, Int.reduceAdd, lt_mid, idx_mid, get_mid, set_mid, Option.bind_some, w64', qrem_nn, addk]
    have key : ∀ y : ByteArray, (y = mt k) → Wp (fun n => laws_markStringS_l2 n (k + 1) ((pre.length : Int) + 1) (pre ++ y :: t)) (fun r => r.1 = k + 1 * (x :: t).length ∧ ∃ t', r.2 = pre ++ t' ∧ t'.length = (x :: t).length ∧ MkSString k t') := fun y hy => by
      have := markStringS_loop t (pre ++ [y]) (k + 1) (by simp; omega) (by omega) (by omega)
      rw [← mid_succ, ← mid_len] at this
      refine this.mono ?_
      rintro ⟨r1, r2⟩ ⟨e1, t', e2, e3, e4⟩
      refine ⟨by simp only [List.length_cons] at *; omega, y :: t', by rw [e2]; simp, by simp [e3], ?_⟩
      simp only [MkSString]
      exact ⟨hy, e4⟩
    exact key _ (by simp)
theorem markStringS_ok {k : Int} {l : List ByteArray} (h0 : 0 ≤ k) (hk : k + 1 * l.length ≤ 1000000000000) (hl : l.length ≤ 100000000) : Wp (fun n => laws_markStringS n l k) (fun r => r.1 = k + 1 * l.length ∧ r.2.length = l.length ∧ MkSString k r.2) := by
  unfold laws_markStringS
  refine (markStringS_loop l [] k (by simpa using hl) h0 hk).mono ?_
  rintro ⟨r1, r2⟩ ⟨e1, t', e2, e3, e4⟩
  simp only [List.nil_append] at e2
  subst e2
  exact ⟨e1, e3, e4⟩
def MkSInt : Int → List Int → Prop
  | _, [] => True
  | k, x :: t => (x = k) ∧ MkSInt (k + 1) t
theorem heldIntS_loop : ∀ (t pre : List Int) (k : Int), (pre ++ t).length ≤ 100000000 → 0 ≤ k → k + 1 * t.length ≤ 1000000000000 → MkSInt k t → Wp (fun n => laws_heldIntS_l2 n (pre ++ t) k (pre.length : Int)) (· = k + 1 * t.length)
  | [], pre, k, hl, h0, hk, _ => by
    refine Wp.step ?_
    simp only [laws_heldIntS_l2, List.append_nil]
    simp (disch := omega) only [cbdec, if_neg]
    exact Wp.ret (by simp)
  | x :: t, pre, k, hl, h0, hk, hm => by
    simp only [MkSInt] at hm
    obtain ⟨hm, hm2⟩ := hm
    simp only [List.length_append, List.length_cons] at hl hk
    refine Wp.step ?_
    simp only [laws_heldIntS_l2]
    have hlt := lt_mid (pre := pre) (t := t) (x := x)
    have m0 := hm
    simp (disch := first | omega | rfl | assumption) only [cbdec, cbne, cbnot, cbbeq, cbseq, if_pos, if_neg, if_true, eq_self, Int.reduceAdd, idx_mid, Option.bind_some, w64', qrem_nn, addk, hlt, true_and]
    have ih : Wp (fun n => laws_heldIntS_l2 n (pre ++ x :: t) (k + 1) ((pre.length : Int) + 1)) (· = k + 1 + 1 * t.length) := by
      have := heldIntS_loop t (pre ++ [x]) (k + 1) (by simp; omega) (by omega) (by omega) hm2
      rwa [← mid_succ, ← mid_len] at this
    exact ih.mono (fun r hr => by simp only [List.length_cons]; omega)
theorem heldIntS_ok {k : Int} {l : List Int} (h0 : 0 ≤ k) (hk : k + 1 * l.length ≤ 1000000000000) (hl : l.length ≤ 100000000) (hm : MkSInt k l) : Wp (fun n => laws_heldIntS n l k) (· = k + 1 * l.length) := by
  unfold laws_heldIntS
  exact heldIntS_loop l [] k (by simpa using hl) h0 hk hm
theorem markIntS_loop : ∀ (t pre : List Int) (k : Int), (pre ++ t).length ≤ 100000000 → 0 ≤ k → k + 1 * t.length ≤ 1000000000000 → Wp (fun n => laws_markIntS_l2 n k (pre.length : Int) (pre ++ t)) (fun r => r.1 = k + 1 * t.length ∧ ∃ t', r.2 = pre ++ t' ∧ t'.length = t.length ∧ MkSInt k t')
  | [], pre, k, hl, h0, hk => by
    refine Wp.step ?_
    simp only [laws_markIntS_l2, List.append_nil]
    simp (disch := omega) only [cbdec, if_neg]
    exact Wp.ret ⟨by simp, [], by simp, rfl, trivial⟩
  | x :: t, pre, k, hl, h0, hk => by
    simp only [List.length_append, List.length_cons] at hl hk
    refine Wp.step ?_
    simp only [laws_markIntS_l2]
    simp (disch := omega) only [cbdec, if_pos, if_true, Int.reduceAdd, lt_mid, idx_mid, get_mid, set_mid, Option.bind_some, w64', qrem_nn, addk]
    have key : ∀ y : Int, (y = k) → Wp (fun n => laws_markIntS_l2 n (k + 1) ((pre.length : Int) + 1) (pre ++ y :: t)) (fun r => r.1 = k + 1 * (x :: t).length ∧ ∃ t', r.2 = pre ++ t' ∧ t'.length = (x :: t).length ∧ MkSInt k t') := fun y hy => by
      have := markIntS_loop t (pre ++ [y]) (k + 1) (by simp; omega) (by omega) (by omega)
      rw [← mid_succ, ← mid_len] at this
      refine this.mono ?_
      rintro ⟨r1, r2⟩ ⟨e1, t', e2, e3, e4⟩
      refine ⟨by simp only [List.length_cons] at *; omega, y :: t', by rw [e2]; simp, by simp [e3], ?_⟩
      simp only [MkSInt]
      exact ⟨hy, e4⟩
    exact key _ (by simp)
theorem markIntS_ok {k : Int} {l : List Int} (h0 : 0 ≤ k) (hk : k + 1 * l.length ≤ 1000000000000) (hl : l.length ≤ 100000000) : Wp (fun n => laws_markIntS n l k) (fun r => r.1 = k + 1 * l.length ∧ r.2.length = l.length ∧ MkSInt k r.2) := by
  unfold laws_markIntS
  refine (markIntS_loop l [] k (by simpa using hl) h0 hk).mono ?_
  rintro ⟨r1, r2⟩ ⟨e1, t', e2, e3, e4⟩
  simp only [List.nil_append] at e2
  subst e2
  exact ⟨e1, e3, e4⟩
end Km.X
namespace Km.X
open Go Km
set_option linter.unusedVariables false
set_option linter.unusedSimpArgs false
abbrev noB : ByteArray := ⟨#[]⟩
theorem noB_size : noB.size = 0 := rfl
def joinL : List DPart → ByteArray → List ByteArray → List ByteArray × ByteArray × Bool
  | [], o, out => (out, o, true)
  | p :: ps, o, out => if 20 < p.Text.size ∨ 200 < o.size + p.Text.size then ([], noB, false) else if p.Last then joinL ps noB (out ++ [o ++ p.Text]) else joinL ps (o ++ p.Text) out
def joinM (xs : List DPart) : List ByteArray × ByteArray × Bool := if 1000000 < xs.length then ([], noB, false) else joinL xs noB []
theorem joinL_spec : ∀ (t pre : List DPart) (o : ByteArray) (out : List ByteArray), (pre ++ t).length ≤ 1000000 → o.size ≤ 200 → out.length ≤ pre.length →
    Wp (fun k => spec_Join_l6 k (pre ++ t) o (pre.length : Int) out) (· = joinL t o out)
  | [], pre, o, out, hl, ho, hout => by
    refine Wp.step ?_
    simp only [spec_Join_l6, List.append_nil]
    simp (disch := omega) only [cbdec, if_neg]
    exact Wp.ret rfl
  | x :: t, pre, o, out, hl, ho, hout => by
    refine Wp.step ?_
    simp only [spec_Join_l6, joinL]
    simp only [List.length_append, List.length_cons] at hl
    simp only [cbdec, lt_mid, if_true, idx_mid, Option.bind_some]
    refine Wp.ite (fun h => ?_) (fun h => ?_)
    · rw [if_pos (.inl (by omega))]; exact Wp.ret rfl
    simp (disch := omega) only [w64']
    refine Wp.ite (fun h2 => ?_) (fun h2 => ?_)
    · rw [if_pos (.inr (by omega))]; exact Wp.ret rfl
    simp (disch := omega) only [sadd_ok, Option.bind_some]
    rw [if_neg (by omega)]
    cases hx : x.Last
    · simp only [cond_false]
      refine Wp.step ?_
      simp (disch := omega) only [spec_Join_l7, w64']
      have ih := joinL_spec t (pre ++ [x]) (o ++ x.Text) out (by simp; omega) (by rw [ba_size_append]; omega) (by simp; omega)
      rwa [← mid_succ, ← mid_len] at ih
    · simp only [cond_true]
      refine Wp.opt (app_ok (by simp; omega)) ?_
      refine Wp.step ?_
      simp (disch := omega) only [spec_Join_l7, w64']
      have ih := joinL_spec t (pre ++ [x]) noB (out ++ [o ++ x.Text]) (by simp; omega) (by simp [noB_size]) (by simp; omega)
      rwa [← mid_succ, ← mid_len] at ih
theorem specJoin_ok (xs : List DPart) (h : xs.length ≤ 1048576) : Wp (fun k => spec_Join k xs) (· = joinM xs) := by
  unfold spec_Join joinM
  simp only [cbdec]
  refine Wp.ite (fun h => ?_) (fun h => ?_)
  · rw [if_pos (by omega)]; exact Wp.ret rfl
  · rw [if_neg (by omega)]; exact joinL_spec xs [] noB [] (by simp; omega) (by simp [noB_size]) (by simp)
theorem joinL_impl : ∀ (t pre : List DPart) (o : ByteArray) (out : List ByteArray), (pre ++ t).length ≤ 1000000 → (∀ y ∈ t, y.Text.size ≤ 1048576) → o.size ≤ 200 → out.length ≤ pre.length →
    Wp (fun k => impl_Join_l6 k o (pre ++ t) ((pre ++ t).length : Int) (pre.length : Int) out) (· = joinL t o out)
  | [], pre, o, out, hl, hy, ho, hout => by
    refine Wp.step ?_
    simp only [impl_Join_l6, List.append_nil]
    simp (disch := omega) only [cbdec, if_neg]
    exact Wp.ret rfl
  | x :: t, pre, o, out, hl, hy, ho, hout => by
    refine Wp.step ?_
    simp only [impl_Join_l6, joinL]
    have hx1 := hy x (List.mem_cons_self ..)
    have hl' := hl
    simp only [List.length_append, List.length_cons] at hl
    simp only [cbdec, lt_mid, if_true, idx_mid, Option.bind_some]
    simp (disch := omega) only [sadd_ok, Option.bind_some]
    refine Wp.ite (fun h => ?_) (fun h => ?_)
    · rw [if_pos (.inl (by omega))]; exact Wp.ret rfl
    simp only [ba_size_append]
    refine Wp.ite (fun h2 => ?_) (fun h2 => ?_)
    · rw [if_pos (.inr (by omega))]; exact Wp.ret rfl
    rw [if_neg (by omega)]
    cases hx : x.Last
    · simp only [cond_false]
      refine Wp.step ?_
      simp (disch := omega) only [impl_Join_l14, w64']
      have ih := joinL_impl t (pre ++ [x]) (o ++ x.Text) out (by simp; omega) (fun y h => hy y (List.mem_cons_of_mem _ h)) (by rw [ba_size_append]; omega) (by simp; omega)
      rwa [← mid_succ, ← mid_len] at ih
    · simp only [cond_true]
      refine Wp.opt (app_ok (by simp; omega)) ?_
      refine Wp.step ?_
      simp (disch := omega) only [impl_Join_l14, w64']
      have ih := joinL_impl t (pre ++ [x]) noB (out ++ [o ++ x.Text]) (by simp; omega) (fun y h => hy y (List.mem_cons_of_mem _ h)) (by simp [noB_size]) (by simp; omega)
      rwa [← mid_succ, ← mid_len] at ih
theorem implJoin_ok (xs : List DPart) (h : smL smPart xs) : Wp (fun k => impl_Join k xs) (· = joinM xs) := by
  unfold impl_Join joinM
  simp only [cbdec]
  refine Wp.ite (fun h => ?_) (fun h => ?_)
  · rw [if_pos (by omega)]; exact Wp.ret rfl
  · rw [if_neg (by omega)]; exact joinL_impl xs [] noB [] (by simp; omega) (fun y hy => by have := ‹smL smPart xs›.2 y hy; exact this) (by simp [noB_size]) (by simp)
theorem joinL_sm : ∀ (t : List DPart) (o : ByteArray) (out : List ByteArray), o.size ≤ 200 → (∀ y ∈ out, y.size ≤ 200) → ((joinL t o out).1.length ≤ out.length + t.length) ∧ (∀ y ∈ (joinL t o out).1, y.size ≤ 200) ∧ (joinL t o out).2.1.size ≤ 200
  | [], o, out, ho, hout => ⟨by simp [joinL], hout, ho⟩
  | x :: t, o, out, ho, hout => by
    simp only [joinL]
    split
    · exact ⟨by simp, fun y hy => by simp at hy, by simp [noB_size]⟩
    · rename_i h
      split
      · have := joinL_sm t noB (out ++ [o ++ x.Text]) (by simp [noB_size]) (fun y hy => by
          simp only [List.mem_append, List.mem_singleton] at hy
          rcases hy with hy | rfl
          · exact hout y hy
          · rw [ba_size_append]; omega)
        refine ⟨?_, this.2⟩
        have h1 := this.1
        simp only [List.length_append, List.length_cons, List.length_nil] at h1 ⊢
        omega
      · have := joinL_sm t (o ++ x.Text) out (by rw [ba_size_append]; omega) hout
        refine ⟨?_, this.2⟩
        have h1 := this.1
        simp only [List.length_cons] at h1 ⊢
        omega
theorem joinM_sm (xs : List DPart) : (joinM xs).1.length ≤ 1000000 ∧ (∀ y ∈ (joinM xs).1, y.size ≤ 200) ∧ (joinM xs).2.1.size ≤ 200 := by
  unfold joinM
  split
  · exact ⟨by simp, fun y hy => by simp at hy, by simp [noB_size]⟩
  · have := joinL_sm xs noB [] (by simp [noB_size]) (fun y hy => by simp at hy)
    exact ⟨by simp at this; omega, this.2⟩
theorem exact_FnExactJoin (a : List DPart) (h : a.length ≤ maxLen ∧ ∀ y ∈ a, wf_part y) : ∃ k, laws_FnExactJoin k a = some true := by
  refine Wp.exists (f := fun k => laws_FnExactJoin k a) ?_
  unfold laws_FnExactJoin
  refine Wp.bind (szPartS_ok a h 1048576 (by omega)) ?_
  rintro r ⟨_, hr⟩
  refine Wp.dec (fun h => Wp.ret rfl) (fun h0 => ?_)
  have ha := hr (by omega)
  have hal := ha.1
  have hs := specJoin_ok a ha.1
  have hi := implJoin_ok a ha
  obtain ⟨v1, v2, v3⟩ := joinM_sm a
  have hv : smL (fun s : ByteArray => s.size ≤ 1048576) (joinM a).1 := ⟨by omega, fun y hy => by have := v2 y hy; omega⟩
  repeat' (first
    | exact Wp.ret rfl
    | (refine Wp.bind hs ?_; rintro _ rfl)
    | (refine Wp.bind hi ?_; rintro _ rfl)
    | (refine Wp.bind (toPartS_ok _ (by assumption)) ?_; rintro _ rfl)
    | (refine Wp.bind (eqStringS_ok _ (by assumption)) ?_; rintro _ rfl)
    | (refine Wp.bind (eqPartS_ok _ (by assumption)) ?_; rintro _ rfl)
    | (refine Wp.bind (heldStringS_ok (by omega) (by omega) (by omega) (by assumption)) ?_; rintro _ rfl)
    | (refine Wp.bind (markStringS_ok (by omega) (by omega) (by omega)) ?_; rintro ⟨_, _⟩ ⟨rfl, _, _⟩; dsimp only at *)
    | (refine Wp.bind (heldPartS_ok (by omega) (by omega) (by omega) (by assumption)) ?_; rintro _ rfl)
    | (refine Wp.bind (markPartS_ok (by omega) (by omega) (by omega)) ?_; rintro ⟨_, _⟩ ⟨rfl, _, _⟩; dsimp only at *)
    | simp (disch := first | omega | rfl) only [cbdec, cbnot, cbeq, cbne, cbseq, cbbeq, cond_true, cond_false, Option.bind_some, Bool.not_true, Bool.not_false, if_true, if_false, if_neg, if_pos])
end Km.X
