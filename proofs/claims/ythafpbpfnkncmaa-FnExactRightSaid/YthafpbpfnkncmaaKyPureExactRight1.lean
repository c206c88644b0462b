/- A part of the proof of FnExactRight: plain laws of these functions. There is no condition. -/
import Derived.Test.YthafpbpfnkncmaaKmAm3
import Derived.Test.YthafpbpfnkncmaaKxDef1
import Derived.Test.YthafpbpfnkncmaaKxDef2
namespace Km.X
open Go Km
set_option linter.unusedVariables false
set_option linter.unusedSimpArgs false
def smL {α : Type} (p : α → Prop) (l : List α) : Prop := l.length ≤ 1048576 ∧ ∀ y ∈ l, p y
def smPart (x : DPart) : Prop := x.Text.size ≤ 1048576
def smItem (x : DItem) : Prop := smPart x.Part
def smHeld (x : DHeld) : Prop := smPart x.Part
def smSend (x : DSend) : Prop := smL smItem x.Items
def smTake (x : DTake) : Prop := smL smHeld x.Held ∧ x.Open.size ≤ 1048576 ∧ smL (fun s : ByteArray => s.size ≤ 1048576) x.Ready
theorem toItem_ok (x : DItem) (h : smItem x) : Wp (fun k => laws_toItem k x) (· = x) := Wp.ret rfl
theorem toHeld_ok (x : DHeld) (h : smHeld x) : Wp (fun k => laws_toHeld k x) (· = x) := Wp.ret rfl
theorem toItemS_ok (xs : List DItem) (h : smL smItem xs) : Wp (fun k => laws_toItemS k xs) (· = xs) := by
  unfold laws_toItemS
  obtain ⟨hl, hp⟩ := h
  refine Wp.opt (x := xs.length) (by rw [if_pos rfl]; exact room_ok (by omega)) ?_
  refine Wp.loop (n := xs.length) (f := fun k i (ys : List DItem) => laws_toItemS_l3 k xs (i : Int) ys) (Inv := fun i ys => ys.length = xs.length ∧ ys.take i = xs.take i) (Q := (· = xs)) ?_ ?_ xs.length 0 _ (by omega) ⟨by simp, by simp⟩
  · rintro i ys hi ⟨h1, h2⟩ ih
    refine Wp.step ?_
    simp only [laws_toItemS_l3]
    simp (disch := omega) only [cbdec, if_pos, idxN, getN, Option.bind_some, w64', castS, Int.ofNat_lt]
    refine Wp.bind (toItem_ok _ (hp _ (List.getElem_mem hi))) (fun _ e => ?_); subst e
    refine ih _ ⟨by simpa using h1, ?_⟩
    rw [Int.toNat_natCast, List.take_add_one, List.take_add_one, List.getElem?_set_self (by omega), List.take_set, List.set_eq_of_length_le (by simp; omega), h2, List.getElem?_eq_getElem hi]
  · rintro ys ⟨h1, h2⟩
    refine Wp.step ?_
    simp only [laws_toItemS_l3]
    simp (disch := omega) only [cbdec, if_neg]
    rw [List.take_of_length_le (by omega), List.take_of_length_le (by omega)] at h2
    exact Wp.ret h2
theorem toHeldS_ok (xs : List DHeld) (h : smL smHeld xs) : Wp (fun k => laws_toHeldS k xs) (· = xs) := by
  unfold laws_toHeldS
  obtain ⟨hl, hp⟩ := h
  refine Wp.opt (x := xs.length) (by rw [if_pos rfl]; exact room_ok (by omega)) ?_
  refine Wp.loop (n := xs.length) (f := fun k i (ys : List DHeld) => laws_toHeldS_l3 k xs (i : Int) ys) (Inv := fun i ys => ys.length = xs.length ∧ ys.take i = xs.take i) (Q := (· = xs)) ?_ ?_ xs.length 0 _ (by omega) ⟨by simp, by simp⟩
  · rintro i ys hi ⟨h1, h2⟩ ih
    refine Wp.step ?_
    simp only [laws_toHeldS_l3]
    simp (disch := omega) only [cbdec, if_pos, idxN, getN, Option.bind_some, w64', castS, Int.ofNat_lt]
    refine Wp.bind (toHeld_ok _ (hp _ (List.getElem_mem hi))) (fun _ e => ?_); subst e
    refine ih _ ⟨by simpa using h1, ?_⟩
    rw [Int.toNat_natCast, List.take_add_one, List.take_add_one, List.getElem?_set_self (by omega), List.take_set, List.set_eq_of_length_le (by simp; omega), h2, List.getElem?_eq_getElem hi]
  · rintro ys ⟨h1, h2⟩
    refine Wp.step ?_
    simp only [laws_toHeldS_l3]
    simp (disch := omega) only [cbdec, if_neg]
    rw [List.take_of_length_le (by omega), List.take_of_length_le (by omega)] at h2
    exact Wp.ret h2
theorem toStringS_ok (xs : List ByteArray) (h : smL (fun s : ByteArray => s.size ≤ 1048576) xs) : Wp (fun k => laws_toStringS k xs) (· = xs) := by
  unfold laws_toStringS
  obtain ⟨hl, hp⟩ := h
  refine Wp.opt (x := xs.length) (by rw [if_pos rfl]; exact room_ok (by omega)) ?_
  refine Wp.loop (n := xs.length) (f := fun k i (ys : List ByteArray) => laws_toStringS_l3 k xs (i : Int) ys) (Inv := fun i ys => ys.length = xs.length ∧ ys.take i = xs.take i) (Q := (· = xs)) ?_ ?_ xs.length 0 _ (by omega) ⟨by simp, by simp⟩
  · rintro i ys hi ⟨h1, h2⟩ ih
    refine Wp.step ?_
    simp only [laws_toStringS_l3]
    simp (disch := omega) only [cbdec, if_pos, idxN, getN, Option.bind_some, w64', castS, Int.ofNat_lt]
    refine ih _ ⟨by simpa using h1, ?_⟩
    rw [Int.toNat_natCast, List.take_add_one, List.take_add_one, List.getElem?_set_self (by omega), List.take_set, List.set_eq_of_length_le (by simp; omega), h2, List.getElem?_eq_getElem hi]
  · rintro ys ⟨h1, h2⟩
    refine Wp.step ?_
    simp only [laws_toStringS_l3]
    simp (disch := omega) only [cbdec, if_neg]
    rw [List.take_of_length_le (by omega), List.take_of_length_le (by omega)] at h2
    exact Wp.ret h2
theorem toSend_ok (x : DSend) (h : smSend x) : Wp (fun k => laws_toSend k x) (· = x) := by
  unfold smSend at h
  have h0 := h
  unfold laws_toSend
  refine Wp.bind (toItemS_ok _ h0) (fun _ e => ?_); subst e
  exact Wp.ret rfl
theorem toTake_ok (x : DTake) (h : smTake x) : Wp (fun k => laws_toTake k x) (· = x) := by
  unfold smTake at h
  obtain ⟨h0, h1, h2⟩ := h
  unfold laws_toTake
  refine Wp.bind (toHeldS_ok _ h0) (fun _ e => ?_); subst e
  refine Wp.bind (toStringS_ok _ h2) (fun _ e => ?_); subst e
  exact Wp.ret rfl
theorem szPart_ok (x : DPart) (hw : wfDPart x) (a : Int) (ha : 0 ≤ a ∧ a ≤ 1048576) : Wp (fun k => laws_szPart k x a) (fun r => r ≤ 1048576 ∧ (0 ≤ r → smPart x)) := by
  unfold smPart
  unfold wfDPart at hw
  unfold laws_szPart
  have h1 : x.Text.size ≤ 2 ^ 63 - 1 := by first | exact hw.1 | exact hw.2.2.2.2.2.2.2.2 | exact hw.2.2.2.2 | exact hw.2.2.2
  try simp (disch := omega) only [w64', cbdec]
  refine Wp.ite (fun h => Wp.ret ⟨by omega, fun h => by omega⟩) (fun h => Wp.ret ⟨by omega, fun _ => by omega⟩)
theorem szItem_ok (x : DItem) (hw : wfDItem x) (a : Int) (ha : 0 ≤ a ∧ a ≤ 1048576) : Wp (fun k => laws_szItem k x a) (fun r => r ≤ 1048576 ∧ (0 ≤ r → smItem x)) := by
  unfold smItem
  unfold wfDItem at hw
  unfold laws_szItem
  have h1 : wfDPart x.Part := by first | exact hw.1 | exact hw.2
  refine Wp.bind (szPart_ok _ h1 a ha) (fun r hr => ?_)
  refine Wp.dec (fun h => Wp.ret ⟨by omega, fun h => by omega⟩) (fun h => Wp.ret ⟨hr.1, hr.2⟩)
theorem szHeld_ok (x : DHeld) (hw : wfDHeld x) (a : Int) (ha : 0 ≤ a ∧ a ≤ 1048576) : Wp (fun k => laws_szHeld k x a) (fun r => r ≤ 1048576 ∧ (0 ≤ r → smHeld x)) := by
  unfold smHeld
  unfold wfDHeld at hw
  unfold laws_szHeld
  have h1 : wfDPart x.Part := by first | exact hw.1 | exact hw.2
  refine Wp.bind (szPart_ok _ h1 a ha) (fun r hr => ?_)
  refine Wp.dec (fun h => Wp.ret ⟨by omega, fun h => by omega⟩) (fun h => Wp.ret ⟨hr.1, hr.2⟩)
theorem szItemS_ok (xs : List DItem) (hw : xs.length ≤ maxLen ∧ ∀ y ∈ xs, wf_item y) (a : Int) (ha : 0 ≤ a ∧ a ≤ 1048576) : Wp (fun k => laws_szItemS k xs a) (fun r => r ≤ 1048576 ∧ (0 ≤ r → smL smItem xs)) := by
  obtain ⟨hl, hp⟩ := hw
  have hl : xs.length ≤ 2 ^ 63 - 1 := hl
  unfold laws_szItemS
  try simp (disch := omega) only [w64', cbdec]
  refine Wp.ite (fun h => Wp.ret ⟨by omega, fun h => by omega⟩) (fun h => ?_)
  refine Wp.loop (n := xs.length) (f := fun k i (l : Int) => laws_szItemS_l5 k xs l (i : Int)) (Inv := fun i l => (0 ≤ l ∧ l ≤ 1048576) ∧ ∀ j (hj : j < xs.length), j < i → smItem xs[j]) (Q := fun r => r ≤ 1048576 ∧ (0 ≤ r → smL smItem xs)) ?_ ?_ xs.length 0 (a - xs.length) (by omega) ⟨by omega, fun j _ h => by omega⟩
  · rintro i l hi ⟨h1, h2⟩ ih
    refine Wp.step ?_
    simp only [laws_szItemS_l5]
    simp (disch := omega) only [cbdec, if_pos, idxN, Option.bind_some, w64', castS]
    refine Wp.bind (szItem_ok _ (hp _ (List.getElem_mem hi)) l h1) (fun r hr => ?_)
    refine Wp.ite (fun h => Wp.ret ⟨by omega, fun h => by omega⟩) (fun h => ?_)
    refine ih _ ⟨by omega, fun j hj hji => ?_⟩
    by_cases e : j = i
    · subst e; exact hr.2 (by omega)
    · exact h2 j hj (by omega)
  · rintro l ⟨h1, h2⟩
    refine Wp.step ?_
    simp only [laws_szItemS_l5]
    simp (disch := omega) only [cbdec, if_neg]
    refine Wp.ret ⟨by omega, fun _ => ⟨by omega, fun y hy => ?_⟩⟩
    obtain ⟨j, hj, rfl⟩ := List.getElem_of_mem hy
    exact h2 j hj hj
theorem szHeldS_ok (xs : List DHeld) (hw : xs.length ≤ maxLen ∧ ∀ y ∈ xs, wf_held y) (a : Int) (ha : 0 ≤ a ∧ a ≤ 1048576) : Wp (fun k => laws_szHeldS k xs a) (fun r => r ≤ 1048576 ∧ (0 ≤ r → smL smHeld xs)) := by
  obtain ⟨hl, hp⟩ := hw
  have hl : xs.length ≤ 2 ^ 63 - 1 := hl
  unfold laws_szHeldS
  try simp (disch := omega) only [w64', cbdec]
  refine Wp.ite (fun h => Wp.ret ⟨by omega, fun h => by omega⟩) (fun h => ?_)
  refine Wp.loop (n := xs.length) (f := fun k i (l : Int) => laws_szHeldS_l5 k xs l (i : Int)) (Inv := fun i l => (0 ≤ l ∧ l ≤ 1048576) ∧ ∀ j (hj : j < xs.length), j < i → smHeld xs[j]) (Q := fun r => r ≤ 1048576 ∧ (0 ≤ r → smL smHeld xs)) ?_ ?_ xs.length 0 (a - xs.length) (by omega) ⟨by omega, fun j _ h => by omega⟩
  · rintro i l hi ⟨h1, h2⟩ ih
    refine Wp.step ?_
    simp only [laws_szHeldS_l5]
    simp (disch := omega) only [cbdec, if_pos, idxN, Option.bind_some, w64', castS]
    refine Wp.bind (szHeld_ok _ (hp _ (List.getElem_mem hi)) l h1) (fun r hr => ?_)
    refine Wp.ite (fun h => Wp.ret ⟨by omega, fun h => by omega⟩) (fun h => ?_)
    refine ih _ ⟨by omega, fun j hj hji => ?_⟩
    by_cases e : j = i
    · subst e; exact hr.2 (by omega)
    · exact h2 j hj (by omega)
  · rintro l ⟨h1, h2⟩
    refine Wp.step ?_
    simp only [laws_szHeldS_l5]
    simp (disch := omega) only [cbdec, if_neg]
    refine Wp.ret ⟨by omega, fun _ => ⟨by omega, fun y hy => ?_⟩⟩
    obtain ⟨j, hj, rfl⟩ := List.getElem_of_mem hy
    exact h2 j hj hj
theorem szStringS_ok (xs : List ByteArray) (hw : xs.length ≤ maxLen ∧ ∀ y ∈ xs, wf_str y) (a : Int) (ha : 0 ≤ a ∧ a ≤ 1048576) : Wp (fun k => laws_szStringS k xs a) (fun r => r ≤ 1048576 ∧ (0 ≤ r → smL (fun s : ByteArray => s.size ≤ 1048576) xs)) := by
  obtain ⟨hl, hp⟩ := hw
  have hl : xs.length ≤ 2 ^ 63 - 1 := hl
  unfold laws_szStringS
  try simp (disch := omega) only [w64', cbdec]
  refine Wp.ite (fun h => Wp.ret ⟨by omega, fun h => by omega⟩) (fun h => ?_)
  refine Wp.loop (n := xs.length) (f := fun k i (l : Int) => laws_szStringS_l5 k xs l (i : Int)) (Inv := fun i l => (0 ≤ l ∧ l ≤ 1048576) ∧ ∀ j (hj : j < xs.length), j < i → (fun s : ByteArray => s.size ≤ 1048576) xs[j]) (Q := fun r => r ≤ 1048576 ∧ (0 ≤ r → smL (fun s : ByteArray => s.size ≤ 1048576) xs)) ?_ ?_ xs.length 0 (a - xs.length) (by omega) ⟨by omega, fun j _ h => by omega⟩
  · rintro i l hi ⟨h1, h2⟩ ih
    refine Wp.step ?_
    simp only [laws_szStringS_l5]
    simp (disch := omega) only [cbdec, if_pos, idxN, Option.bind_some, w64', castS]
    have h3 : xs[i].size ≤ 2 ^ 63 - 1 := hp _ (List.getElem_mem hi)
    try simp (disch := omega) only [w64']
    refine Wp.ite (fun h => Wp.ret ⟨by omega, fun h => by omega⟩) (fun h => ?_)
    refine ih _ ⟨by omega, fun j hj hji => ?_⟩
    by_cases e : j = i
    · subst e; show xs[j].size ≤ 1048576; omega
    · exact h2 j hj (by omega)
  · rintro l ⟨h1, h2⟩
    refine Wp.step ?_
    simp only [laws_szStringS_l5]
    simp (disch := omega) only [cbdec, if_neg]
    refine Wp.ret ⟨by omega, fun _ => ⟨by omega, fun y hy => ?_⟩⟩
    obtain ⟨j, hj, rfl⟩ := List.getElem_of_mem hy
    exact h2 j hj hj
theorem szSend_ok (x : DSend) (hw : wfDSend x) (a : Int) (ha : 0 ≤ a ∧ a ≤ 1048576) : Wp (fun k => laws_szSend k x a) (fun r => r ≤ 1048576 ∧ (0 ≤ r → smSend x)) := by
  unfold smSend
  obtain ⟨w0, w1⟩ := hw
  unfold laws_szSend
  refine Wp.bind (szItemS_ok _ w1 a (by omega)) (fun r0 e0 => ?_)
  first | refine Wp.dec (fun h => Wp.ret ⟨by omega, fun h => by omega⟩) (fun h0 => Wp.ret ⟨by omega, fun _ => ?_⟩) | refine Wp.ite (fun h => Wp.ret ⟨by omega, fun h => by omega⟩) (fun h0 => Wp.ret ⟨by omega, fun _ => ?_⟩)
  exact e0.2 (by omega)
theorem szTake_ok (x : DTake) (hw : wfDTake x) (a : Int) (ha : 0 ≤ a ∧ a ≤ 1048576) : Wp (fun k => laws_szTake k x a) (fun r => r ≤ 1048576 ∧ (0 ≤ r → smTake x)) := by
  unfold smTake
  obtain ⟨w0, w1, w2, w3⟩ := hw
  unfold laws_szTake
  refine Wp.bind (szHeldS_ok _ w1 a (by omega)) (fun r0 e0 => ?_)
  first | refine Wp.dec (fun h => Wp.ret ⟨by omega, fun h => by omega⟩) (fun h0 => ?_) | refine Wp.ite (fun h => Wp.ret ⟨by omega, fun h => by omega⟩) (fun h0 => ?_)
  have s1 : x.Open.size ≤ 2 ^ 63 - 1 := w2
  try simp (disch := omega) only [w64', cbdec]
  refine Wp.ite (fun h => Wp.ret ⟨by omega, fun h => by omega⟩) (fun h1 => ?_)
  refine Wp.bind (szStringS_ok _ w3 (r0 - (x.Open.size : Int)) (by omega)) (fun r2 e2 => ?_)
  first | refine Wp.dec (fun h => Wp.ret ⟨by omega, fun h => by omega⟩) (fun h2 => Wp.ret ⟨by omega, fun _ => ?_⟩) | refine Wp.ite (fun h => Wp.ret ⟨by omega, fun h => by omega⟩) (fun h2 => Wp.ret ⟨by omega, fun _ => ?_⟩)
  exact ⟨e0.2 (by omega), (by omega), e2.2 (by omega)⟩
theorem eqPart_ok (x : DPart) (h : smPart x) : Wp (fun k => laws_eqPart k x x) (· = true) := by
  unfold laws_eqPart
  unfold smPart at h
  have h0 := h
  simp only [w64', cbdec, cbnot, cbeq, cbne, cbseq, cbbeq, cond_true, cond_false, Option.bind_some, Bool.not_true, Bool.not_false, if_true, if_false]
  exact Wp.ret rfl
theorem eqItem_ok (x : DItem) (h : smItem x) : Wp (fun k => laws_eqItem k x x) (· = true) := by
  unfold laws_eqItem
  unfold smItem at h
  have h0 := h
  simp only [w64', cbdec, cbnot, cbeq, cbne, cbseq, cbbeq, cond_true, cond_false, Option.bind_some, Bool.not_true, Bool.not_false, if_true, if_false]
  refine Wp.bind (eqPart_ok _ h0) (fun _ e => ?_); subst e
  simp only [w64', cbdec, cbnot, cbeq, cbne, cbseq, cbbeq, cond_true, cond_false, Option.bind_some, Bool.not_true, Bool.not_false, if_true, if_false]
  exact Wp.ret rfl
theorem eqHeld_ok (x : DHeld) (h : smHeld x) : Wp (fun k => laws_eqHeld k x x) (· = true) := by
  unfold laws_eqHeld
  unfold smHeld at h
  have h0 := h
  simp only [w64', cbdec, cbnot, cbeq, cbne, cbseq, cbbeq, cond_true, cond_false, Option.bind_some, Bool.not_true, Bool.not_false, if_true, if_false]
  refine Wp.bind (eqPart_ok _ h0) (fun _ e => ?_); subst e
  simp only [w64', cbdec, cbnot, cbeq, cbne, cbseq, cbbeq, cond_true, cond_false, Option.bind_some, Bool.not_true, Bool.not_false, if_true, if_false]
  exact Wp.ret rfl
theorem eqItemS_ok (xs : List DItem) (h : smL smItem xs) : Wp (fun k => laws_eqItemS k xs xs) (· = true) := by
  unfold laws_eqItemS
  obtain ⟨hl, hp⟩ := h
  simp only [cbne, if_true]
  refine Wp.loop (n := xs.length) (f := fun k i (_ : Unit) => laws_eqItemS_l4 k xs xs (i : Int)) (Inv := fun _ _ => True) (Q := (· = true)) ?_ ?_ xs.length 0 () (by omega) trivial
  · rintro i _ hi _ ih
    refine Wp.step ?_
    simp only [laws_eqItemS_l4]
    simp (disch := omega) only [cbdec, if_pos, idxN, Option.bind_some, w64', castS]
    refine Wp.bind (eqItem_ok _ (hp _ (List.getElem_mem hi))) (fun _ e => ?_); subst e
    simp only [w64', cbdec, cbnot, cbeq, cbne, cbseq, cbbeq, cond_true, cond_false, Option.bind_some, Bool.not_true, Bool.not_false, if_true, if_false]
    exact ih () trivial
  · rintro _ _
    refine Wp.step ?_
    simp only [laws_eqItemS_l4]
    simp (disch := omega) only [cbdec, if_neg]
    exact Wp.ret rfl
theorem eqHeldS_ok (xs : List DHeld) (h : smL smHeld xs) : Wp (fun k => laws_eqHeldS k xs xs) (· = true) := by
  unfold laws_eqHeldS
  obtain ⟨hl, hp⟩ := h
  simp only [cbne, if_true]
  refine Wp.loop (n := xs.length) (f := fun k i (_ : Unit) => laws_eqHeldS_l4 k xs xs (i : Int)) (Inv := fun _ _ => True) (Q := (· = true)) ?_ ?_ xs.length 0 () (by omega) trivial
  · rintro i _ hi _ ih
    refine Wp.step ?_
    simp only [laws_eqHeldS_l4]
    simp (disch := omega) only [cbdec, if_pos, idxN, Option.bind_some, w64', castS]
    refine Wp.bind (eqHeld_ok _ (hp _ (List.getElem_mem hi))) (fun _ e => ?_); subst e
    simp only [w64', cbdec, cbnot, cbeq, cbne, cbseq, cbbeq, cond_true, cond_false, Option.bind_some, Bool.not_true, Bool.not_false, if_true, if_false]
    exact ih () trivial
  · rintro _ _
    refine Wp.step ?_
    simp only [laws_eqHeldS_l4]
    simp (disch := omega) only [cbdec, if_neg]
    exact Wp.ret rfl
theorem eqStringS_ok (xs : List ByteArray) (h : smL (fun s : ByteArray => s.size ≤ 1048576) xs) : Wp (fun k => laws_eqStringS k xs xs) (· = true) := by
  unfold laws_eqStringS
  obtain ⟨hl, hp⟩ := h
  simp only [cbne, if_true]
  refine Wp.loop (n := xs.length) (f := fun k i (_ : Unit) => laws_eqStringS_l4 k xs xs (i : Int)) (Inv := fun _ _ => True) (Q := (· = true)) ?_ ?_ xs.length 0 () (by omega) trivial
  · rintro i _ hi _ ih
    refine Wp.step ?_
    simp only [laws_eqStringS_l4]
    simp (disch := omega) only [cbdec, if_pos, idxN, Option.bind_some, w64', castS]
    simp only [w64', cbdec, cbnot, cbeq, cbne, cbseq, cbbeq, cond_true, cond_false, Option.bind_some, Bool.not_true, Bool.not_false, if_true, if_false]
    exact ih () trivial
  · rintro _ _
    refine Wp.step ?_
    simp only [laws_eqStringS_l4]
    simp (disch := omega) only [cbdec, if_neg]
    exact Wp.ret rfl
theorem eqSend_ok (x : DSend) (h : smSend x) : Wp (fun k => laws_eqSend k x x) (· = true) := by
  unfold laws_eqSend
  unfold smSend at h
  have h0 := h
  simp only [w64', cbdec, cbnot, cbeq, cbne, cbseq, cbbeq, cond_true, cond_false, Option.bind_some, Bool.not_true, Bool.not_false, if_true, if_false]
  refine Wp.bind (eqItemS_ok _ h0) (fun _ e => ?_); subst e
  simp only [w64', cbdec, cbnot, cbeq, cbne, cbseq, cbbeq, cond_true, cond_false, Option.bind_some, Bool.not_true, Bool.not_false, if_true, if_false]
  exact Wp.ret rfl
theorem eqTake_ok (x : DTake) (h : smTake x) : Wp (fun k => laws_eqTake k x x) (· = true) := by
  unfold laws_eqTake
  unfold smTake at h
  obtain ⟨h0, h1, h2⟩ := h
  simp only [w64', cbdec, cbnot, cbeq, cbne, cbseq, cbbeq, cond_true, cond_false, Option.bind_some, Bool.not_true, Bool.not_false, if_true, if_false]
  refine Wp.bind (eqHeldS_ok _ h0) (fun _ e => ?_); subst e
  simp only [w64', cbdec, cbnot, cbeq, cbne, cbseq, cbbeq, cond_true, cond_false, Option.bind_some, Bool.not_true, Bool.not_false, if_true, if_false]
  refine Wp.bind (eqStringS_ok _ h2) (fun _ e => ?_); subst e
  simp only [w64', cbdec, cbnot, cbeq, cbne, cbseq, cbbeq, cond_true, cond_false, Option.bind_some, Bool.not_true, Bool.not_false, if_true, if_false]
  exact Wp.ret rfl
end Km.X
namespace Km.X
open Go Km
set_option linter.unusedVariables false
set_option linter.unusedSimpArgs false
end Km.X
namespace Km.X
open Go Km
set_option linter.unusedVariables false
set_option linter.unusedSimpArgs false
abbrev noB : ByteArray := ⟨#[]⟩
/-- the w lowest bytes, the highest first -/
def bytesL : Nat → Nat → List Int
  | 0, _ => []
  | w + 1, n => bytesL w (n / 256) ++ [((n % 256 : Nat) : Int)]
def hstep (v : Int) (c : UInt8) : Int := IntKind.wrap .u64 ((bitsXor .u64 v (IntKind.wrap .u64 (c.toNat : Int))) * 1099511628211)
theorem l1In_ok (a b c : Int) : Wp (fun k => spec_l1In k a b c) (· = (decide (b ≤ a) && decide (a ≤ c))) := by
  unfold spec_l1In
  refine Wp.dec (fun h => Wp.ret ?_) (fun h => Wp.ret ?_)
  · rw [decide_eq_true (show b ≤ a by omega)]; rfl
  · rw [decide_eq_false (show ¬ b ≤ a by omega)]; rfl
theorem in_ok (a b c : Int) : Wp (fun k => impl_in k a b c) (· = (decide (b ≤ a) && decide (a ≤ c))) := l1In_ok a b c
theorem inB {a b c : Int} : (decide (b ≤ a) && decide (a ≤ c)) = decide (b ≤ a ∧ a ≤ c) := by rw [Bool.decide_and]

end Km.X
namespace Km.X
open Go Km
set_option linter.unusedVariables false
set_option linter.unusedSimpArgs false
/-! ### Send -/
def OkItem (i : Nat) (x : DItem) : Prop := x.Part.Text.size ≤ 20 ∧ (-1 ≤ x.Since ∧ x.Since ≤ 3) ∧ (8 ≤ i → x.Since = -1) ∧ (x.Has = true → 0 ≤ x.Since)
def OkItems : Nat → List DItem → Prop
  | _, [] => True
  | i, x :: t => OkItem i x ∧ OkItems (i + 1) t
instance (i : Nat) (x : DItem) : Decidable (OkItem i x) := by unfold OkItem; infer_instance
instance decOkItems : (i : Nat) → (l : List DItem) → Decidable (OkItems i l)
  | _, [] => .isTrue trivial
  | i, x :: t => by
    have := decOkItems (i + 1) t
    unfold OkItems; infer_instance
def VSend (s : DSend) : Prop := s.Items.length ≤ 60 ∧ (0 ≤ s.Base ∧ s.Base ≤ 1000000) ∧ s.Base + s.Items.length ≤ 1000000 ∧ OkItems 0 s.Items
instance (s : DSend) : Decidable (VSend s) := by unfold VSend; infer_instance
theorem validSend_loop (b : Int) : ∀ (t pre : List DItem), (pre ++ t).length ≤ 60 → Wp (fun k => spec_ValidSend_l4 k (pre.length : Int) b (pre ++ t)) (· = decide (OkItems pre.length t))
  | [], pre, hl => by
    refine Wp.step ?_
    simp only [spec_ValidSend_l4, List.append_nil]
    simp (disch := omega) only [cbdec, if_neg]
    exact Wp.ret rfl
  | x :: t, pre, hl => by
    refine Wp.step ?_
    have hl' := hl
    simp only [List.length_append, List.length_cons] at hl
    simp only [spec_ValidSend_l4, OkItems]
    simp (disch := omega) only [cbdec, lt_mid, if_true, idx_mid, Option.bind_some, w64', cbnot, cbne]
    have F : ¬ OkItem pre.length x → Wp (fun _ => some false) (· = decide (OkItem pre.length x ∧ OkItems (pre.length + 1) t)) := fun h => Wp.ret (decide_eq_false fun h' => h h'.1).symm
    have ih := validSend_loop b t (pre ++ [x]) (by simpa using hl')
    rw [← mid_succ, ← mid_len, List.length_append, List.length_singleton] at ih
    have G : OkItem pre.length x → Wp (fun k => spec_ValidSend_l4 k ((pre.length : Int) + 1) b (pre ++ x :: t)) (· = decide (OkItem pre.length x ∧ OkItems (pre.length + 1) t)) := fun h => by
      refine Wp.mono ih fun r hr => ?_
      rw [hr, decide_eq_decide]
      exact ⟨fun g => ⟨h, g⟩, fun g => g.2⟩
    refine Wp.ite (fun h => F fun h' => by have := h'.1; omega) (fun h1 => ?_)
    refine Wp.bind (l1In_ok _ _ _) (fun _ e => ?_); subst e
    simp only [inB, cbdec]
    refine Wp.ite (fun h2 => ?_) (fun h2 => F fun h' => h2 h'.2.1)
    refine Wp.ite (fun h3 => ?_) (fun h3 => ?_)
    · refine Wp.ite (fun h4 => ?_) (fun h4 => F fun h' => h4 (h'.2.2.1 (by omega)))
      refine Wp.bif (fun h5 => ?_) (fun h5 => ?_)
      · refine Wp.ite (fun h6 => F fun h' => by have := h'.2.2.2 h5; omega) (fun h6 => by omega)
      · exact G ⟨by omega, h2, fun _ => h4, fun h => by rw [h5] at h; cases h⟩
    · refine Wp.bif (fun h5 => ?_) (fun h5 => ?_)
      · refine Wp.ite (fun h6 => F fun h' => by have := h'.2.2.2 h5; omega) (fun h6 => ?_)
        exact G ⟨by omega, h2, fun h => by omega, fun _ => by omega⟩
      · exact G ⟨by omega, h2, fun h => by omega, fun h => by rw [h5] at h; cases h⟩
theorem specValidSend_ok (s : DSend) : Wp (fun k => spec_ValidSend k s) (· = decide (VSend s)) := by
  unfold spec_ValidSend
  simp only [cbdec, cbnot]
  have F : ¬ VSend s → Wp (fun _ => some false) (· = decide (VSend s)) := fun h => Wp.ret (decide_eq_false h).symm
  refine Wp.ite (fun h => F fun h' => by have := h'.1; omega) (fun h1 => ?_)
  refine Wp.bind (l1In_ok _ _ _) (fun _ e => ?_); subst e
  simp only [inB, cbdec]
  refine Wp.ite (fun h2 => ?_) (fun h2 => F fun h' => h2 h'.2.1)
  rw [w64' (by omega) (by omega)]
  refine Wp.ite (fun h3 => F fun h' => by have := h'.2.2.1; omega) (fun h3 => ?_)
  refine Wp.mono (validSend_loop s.Base s.Items [] (by simp; omega)) fun r hr => ?_
  rw [hr, decide_eq_decide]
  exact ⟨fun h => ⟨by omega, h2, by omega, h⟩, fun h => h.2.2.2⟩
theorem validSend_same_l (xs : List DItem) (b : Int) : ∀ (k : Nat) (j : Int), impl_ValidSend_l4 k xs (xs.length : Int) j = spec_ValidSend_l4 k j b xs
  | 0, _ => rfl
  | k + 1, j => by
    have hi : ∀ a b c, impl_in k a b c = spec_l1In k a b c := fun _ _ _ => rfl
    simp only [impl_ValidSend_l4, spec_ValidSend_l4, validSend_same_l xs b k, hi]
theorem validSend_same (k : Nat) (s : DSend) : impl_ValidSend k s = spec_ValidSend k s := by
  have hi : ∀ a b c, impl_in k a b c = spec_l1In k a b c := fun _ _ _ => rfl
  simp only [impl_ValidSend, spec_ValidSend, hi, validSend_same_l s.Items s.Base]
theorem implValidSend_ok (s : DSend) : Wp (fun k => impl_ValidSend k s) (· = decide (VSend s)) := by
  have : (fun k => impl_ValidSend k s) = fun k => spec_ValidSend k s := funext fun k => validSend_same k s
  rw [this]; exact specValidSend_ok s
/-! ### SendTick -/
def sendsI (x : DItem) : Prop := ¬ x.Has = true ∧ (x.Since = -1 ∨ x.Since = 3)
instance (x : DItem) : Decidable (sendsI x) := by unfold sendsI; infer_instance
end Km.X
namespace Km.X
open Go Km
set_option linter.unusedVariables false
set_option linter.unusedSimpArgs false
/-! ### marks of composite values -/
/-! ### a tick keeps it valid -/
theorem okItems_mem : ∀ {l : List DItem} {i : Nat}, OkItems i l → ∀ x ∈ l, x.Part.Text.size ≤ 20
  | [], _, _, x, h => by simp at h
  | y :: t, i, ⟨h1, h2⟩, x, h => by
    rcases List.mem_cons.mp h with rfl | h
    · exact h1.1
    · exact okItems_mem h2 x h
theorem VSend.sm {s : DSend} (h : VSend s) : smSend s := by
  unfold smSend smL
  refine ⟨by have := h.1; omega, fun x hx => ?_⟩
  have := okItems_mem h.2.2.2 x hx
  show x.Part.Text.size ≤ 1048576
  omega
end Km.X
namespace Km.X
open Go Km
set_option linter.unusedVariables false
set_option linter.unusedSimpArgs false
/-! ### Cut -/
/-! ### SendPush -/
/-! ### SendWord -/
theorem OkItem.mono {i j : Nat} {x : DItem} (h : OkItem j x) (hij : i ≤ j) : OkItem i x := ⟨h.1, h.2.1, fun h8 => h.2.2.1 (by omega), h.2.2.2⟩
theorem OkItems.mono : ∀ {l : List DItem} {i j : Nat}, OkItems j l → i ≤ j → OkItems i l
  | [], _, _, _, _ => trivial
  | x :: t, i, j, ⟨h1, h2⟩, hij => ⟨h1.mono hij, h2.mono (by omega)⟩
theorem OkItems.drop : ∀ {l : List DItem} {i : Nat} (d : Nat), OkItems i l → OkItems i (l.drop d)
  | l, i, 0, h => h
  | [], i, d + 1, h => trivial
  | x :: t, i, d + 1, ⟨_, h2⟩ => (OkItems.drop d h2).mono (by omega)
end Km.X
namespace Km.X
open Go Km
set_option linter.unusedVariables false
set_option linter.unusedSimpArgs false
/-! ### Take -/
def goes (o : ByteArray) (r : List ByteArray) (p : DPart) : Prop := o.size + p.Text.size ≤ 200 ∧ (p.Last = true → r.length < 4)
instance (o : ByteArray) (r : List ByteArray) (p : DPart) : Decidable (goes o r p) := by unfold goes; infer_instance
theorem can_ok (n : Int) (h : List DHeld) (o : ByteArray) (r : List ByteArray) (p : DPart) (ho : o.size ≤ 1048576) (hp : p.Text.size ≤ 1048576) : Wp (fun k => spec_l5Can k ⟨n, h, o, r⟩ p) (· = decide (goes o r p)) := by
  unfold spec_l5Can
  simp (disch := omega) only [w64', cbdec, cbnot]
  refine Wp.ite (fun h1 => ?_) (fun h1 => Wp.ret (decide_eq_false fun h => by have := h.1; omega).symm)
  refine Wp.bif (fun h2 => ?_) (fun h2 => ?_)
  · refine Wp.ret ?_
    rw [decide_eq_decide]
    exact ⟨fun h => ⟨by omega, fun _ => by omega⟩, fun h => by have := h.2 h2; omega⟩
  · exact Wp.ret (decide_eq_true ⟨by omega, fun h => by rw [h2] at h; cases h⟩).symm
theorem goes_ok (n : Int) (h : List DHeld) (o : ByteArray) (r : List ByteArray) (p : DPart) (ho : o.size ≤ 1048576) (hp : p.Text.size ≤ 1048576) : Wp (fun k => impl_goes k ⟨n, h, o, r⟩ p) (· = decide (goes o r p)) := can_ok n h o r p ho hp
/-- what is held: above prev, in order, near n -/
def WHs (n : Int) : Int → List DHeld → Prop
  | _, [] => True
  | p, x :: t => (p < x.Seq ∧ x.Seq ≤ n + 7 ∧ x.Seq ≤ 999999 ∧ x.Part.Text.size ≤ 20) ∧ WHs n x.Seq t
instance decWHs (n : Int) : (p : Int) → (l : List DHeld) → Decidable (WHs n p l)
  | _, [] => .isTrue trivial
  | p, x :: t => by
    have := decWHs n x.Seq t
    unfold WHs; infer_instance
def NoGo (n : Int) (o : ByteArray) (r : List ByteArray) (l : List DHeld) : Prop := ∀ x ∈ l, x.Seq = n → ¬ goes o r x.Part
instance (n : Int) (o : ByteArray) (r : List ByteArray) (l : List DHeld) : Decidable (NoGo n o r l) := by unfold NoGo; infer_instance
def SmR (l : List ByteArray) : Prop := ∀ s ∈ l, s.size ≤ 200
instance (l : List ByteArray) : Decidable (SmR l) := by unfold SmR; infer_instance
def VTake (t : DTake) : Prop := (0 ≤ t.Next ∧ t.Next ≤ 1000000) ∧ t.Held.length ≤ 8 ∧ t.Open.size ≤ 200 ∧ t.Ready.length ≤ 4 ∧ SmR t.Ready ∧ WHs t.Next (t.Next - 1) t.Held ∧ NoGo t.Next t.Open t.Ready t.Held
instance (t : DTake) : Decidable (VTake t) := by unfold VTake; infer_instance
def prevOf (n : Int) (pre : List DHeld) : Int := match pre.getLast? with | none => n - 1 | some y => y.Seq
theorem prevOf_snoc (n : Int) (pre : List DHeld) (x : DHeld) : prevOf n (pre ++ [x]) = x.Seq := by simp [prevOf]
theorem prevOf_idx (n : Int) (pre t : List DHeld) (h : 0 < pre.length) : ∃ y, idx (pre ++ t) ((pre.length : Int) - 1) = some y ∧ prevOf n pre = y.Seq := by
  rcases List.eq_nil_or_concat pre with rfl | ⟨l, y, rfl⟩
  · simp at h
  · refine ⟨y, ?_, by simp [prevOf]⟩
    simp only [List.concat_eq_append, List.length_append, List.length_singleton]
    rw [show ((l.length + 1 : Nat) : Int) - 1 = (l.length : Int) by omega, idx_nat]
    simp
theorem near_ok (n s : Int) (h : List DHeld) (o : ByteArray) (r : List ByteArray) (hn : 0 ≤ n ∧ n ≤ 1000000) : Wp (fun k => spec_l5Near k ⟨n, h, o, r⟩ s) (· = decide (n ≤ s ∧ s ≤ n + 7 ∧ s ≤ 999999)) := by
  unfold spec_l5Near
  simp (disch := omega) only [w64']
  refine Wp.bind (l1In_ok _ _ _) (fun _ e => ?_); subst e
  simp only [inB, cbdec]
  refine Wp.ite (fun h1 => Wp.ret ?_) (fun h1 => Wp.ret (decide_eq_false (by omega)).symm)
  rw [decide_eq_decide]; omega
theorem validTake_held (n : Int) (o : ByteArray) (r : List ByteArray) (hn : 0 ≤ n ∧ n ≤ 1000000) (ho : o.size ≤ 200) : ∀ (t pre : List DHeld), (pre ++ t).length ≤ 1000 → n - 1 ≤ prevOf n pre →
    Wp (fun k => spec_ValidTake_l9 k (pre.length : Int) n (pre ++ t) o r) (· = decide (WHs n (prevOf n pre) t ∧ NoGo n o r t))
  | [], pre, hl, hp => by
    refine Wp.step ?_
    simp only [spec_ValidTake_l9, List.append_nil]
    simp (disch := omega) only [cbdec, if_neg]
    exact Wp.ret (decide_eq_true ⟨trivial, fun x hx => by simp at hx⟩).symm
  | x :: t, pre, hl, hp => by
    refine Wp.step ?_
    have hl' := hl
    simp only [List.length_append, List.length_cons] at hl
    simp only [spec_ValidTake_l9]
    simp only [cbdec, lt_mid, if_true, idx_mid, Option.bind_some]
    have F : ¬ (WHs n (prevOf n pre) (x :: t) ∧ NoGo n o r (x :: t)) → Wp (fun _ => some false) (· = decide (WHs n (prevOf n pre) (x :: t) ∧ NoGo n o r (x :: t))) := fun h => Wp.ret (decide_eq_false h).symm
    refine Wp.bind (near_ok n x.Seq _ o r hn) (fun _ e => ?_); subst e
    simp only [cbdec, cbnot]
    refine Wp.ite (fun h1 => ?_) (fun h1 => F fun h' => by have := h'.1.1; omega)
    refine Wp.ite (fun h2 => F fun h' => by have := h'.1.1; omega) (fun h2 => ?_)
    have ih := validTake_held n o r hn ho t (pre ++ [x]) (by simpa using hl') (by rw [prevOf_snoc]; omega)
    rw [← mid_succ, ← mid_len, prevOf_snoc] at ih
    have G : (x.Seq = n → ¬ goes o r x.Part) → prevOf n pre < x.Seq → Wp (fun k => spec_ValidTake_l9 k ((pre.length : Int) + 1) n (pre ++ x :: t) o r) (· = decide (WHs n (prevOf n pre) (x :: t) ∧ NoGo n o r (x :: t))) := fun h h' => by
      refine Wp.mono ih fun v hv => ?_
      rw [hv, decide_eq_decide]
      constructor
      · rintro ⟨g1, g2⟩
        refine ⟨⟨⟨h', by omega, by omega, by omega⟩, g1⟩, fun y hy => ?_⟩
        rcases List.mem_cons.mp hy with rfl | hy
        · exact h
        · exact g2 y hy
      · rintro ⟨g1, g2⟩
        exact ⟨g1.2, fun y hy => g2 y (List.mem_cons_of_mem _ hy)⟩
    have C : prevOf n pre < x.Seq → Wp (fun k => bif x.Seq == n then (spec_l5Can k ⟨n, pre ++ x :: t, o, r⟩ x.Part).bind fun r6 => bif r6 then some false else spec_ValidTake_l9 k (IntKind.wrap .i64 ((pre.length : Int) + 1)) n (pre ++ x :: t) o r
        else spec_ValidTake_l9 k (IntKind.wrap .i64 ((pre.length : Int) + 1)) n (pre ++ x :: t) o r) (· = decide (WHs n (prevOf n pre) (x :: t) ∧ NoGo n o r (x :: t))) := fun h' => by
      simp (disch := omega) only [w64', cbeq]
      refine Wp.ite (fun h3 => ?_) (fun h3 => G (fun g => absurd g h3) h')
      refine Wp.bind (can_ok n _ o r x.Part (by omega) (by omega)) (fun _ e => ?_); subst e
      simp only [cbdec]
      exact Wp.ite (fun h4 => F fun g => g.2 x (List.mem_cons_self ..) h3 h4) (fun h4 => G (fun _ => h4) h')
    refine Wp.ite (fun h3 => ?_) (fun h3 => ?_)
    · obtain ⟨y, hy, hy'⟩ := prevOf_idx n pre (x :: t) (by omega)
      rw [w64' (by omega) (by omega), hy]
      simp only [Option.bind_some]
      refine Wp.ite (fun h4 => F fun h' => by have := h'.1.1; omega) (fun h4 => ?_)
      exact C (by omega)
    · have : pre = [] := List.length_eq_zero_iff.mp (by omega)
      exact C (by subst this; simp [prevOf]; omega)
theorem validTake_ready (n : Int) (o : ByteArray) (h : List DHeld) (hn : 0 ≤ n ∧ n ≤ 1000000) (ho : o.size ≤ 200) (hh : h.length ≤ 8) (rr : List ByteArray) : ∀ (t pre : List ByteArray), pre ++ t = rr → (pre ++ t).length ≤ 1000 →
    Wp (fun k => spec_ValidTake_l4 k (pre.length : Int) n h o (pre ++ t)) (· = decide (SmR t ∧ WHs n (n - 1) h ∧ NoGo n o rr h))
  | [], pre, hr, hl => by
    refine Wp.step ?_
    simp only [spec_ValidTake_l4]
    rw [hr] at hl ⊢
    rw [List.append_nil] at hr
    subst hr
    simp (disch := omega) only [cbdec, if_neg]
    have := validTake_held n o pre hn ho h [] (by simp; omega) (by simp [prevOf])
    refine this.mono fun v hv => ?_
    rw [hv, decide_eq_decide]
    exact ⟨fun g => ⟨fun s hs => by simp at hs, g⟩, fun g => g.2⟩
  | x :: t, pre, hr, hl => by
    refine Wp.step ?_
    have hl' := hl
    simp only [List.length_append, List.length_cons] at hl
    simp only [spec_ValidTake_l4]
    simp only [cbdec, lt_mid, if_true, idx_mid, Option.bind_some]
    refine Wp.ite (fun h1 => Wp.ret (decide_eq_false fun h' => by have := h'.1 x (List.mem_cons_self ..); omega).symm) (fun h1 => ?_)
    simp (disch := omega) only [w64']
    have ih := validTake_ready n o h hn ho hh rr t (pre ++ [x]) (by simpa using hr) (by simpa using hl')
    rw [← mid_succ, ← mid_len] at ih
    refine ih.mono fun v hv => ?_
    rw [hv, decide_eq_decide]
    constructor
    · rintro ⟨g1, g2⟩
      refine ⟨fun y hy => ?_, g2⟩
      rcases List.mem_cons.mp hy with rfl | hy
      · omega
      · exact g1 y hy
    · rintro ⟨g1, g2⟩
      exact ⟨fun y hy => g1 y (List.mem_cons_of_mem _ hy), g2⟩
theorem specValidTake_ok (t : DTake) : Wp (fun k => spec_ValidTake k t) (· = decide (VTake t)) := by
  unfold spec_ValidTake
  simp only [cbdec, cbnot]
  have F : ¬ VTake t → Wp (fun _ => some false) (· = decide (VTake t)) := fun h => Wp.ret (decide_eq_false h).symm
  refine Wp.bind (l1In_ok _ _ _) (fun _ e => ?_); subst e
  simp only [inB, cbdec]
  refine Wp.ite (fun h1 => ?_) (fun h1 => F fun h' => h1 h'.1)
  refine Wp.ite (fun h2 => F fun h' => by have := h'.2.1; omega) (fun h2 => ?_)
  refine Wp.ite (fun h3 => F fun h' => by have := h'.2.2.1; omega) (fun h3 => ?_)
  refine Wp.ite (fun h4 => F fun h' => by have := h'.2.2.2.1; omega) (fun h4 => ?_)
  refine Wp.mono (validTake_ready t.Next t.Open t.Held h1 (by omega) (by omega) t.Ready t.Ready [] rfl (by simp; omega)) fun v hv => ?_
  rw [hv, decide_eq_decide]
  exact ⟨fun g => ⟨h1, by omega, by omega, by omega, g⟩, fun g => g.2.2.2.2⟩
theorem implTake_ready : ∀ (t pre : List ByteArray), (pre ++ t).length ≤ 1000 →
    Wp (fun k => impl_ValidTake_l12 k (pre ++ t) ((pre ++ t).length : Int) (pre.length : Int)) (· = decide (SmR t))
  | [], pre, hl => by
    refine Wp.step ?_
    simp only [impl_ValidTake_l12, List.append_nil]
    simp (disch := omega) only [cbdec, if_neg]
    exact Wp.ret (decide_eq_true fun s hs => by simp at hs).symm
  | x :: t, pre, hl => by
    refine Wp.step ?_
    have hl' := hl
    simp only [List.length_append, List.length_cons] at hl
    simp only [impl_ValidTake_l12]
    simp only [cbdec, lt_mid, if_true, idx_mid, Option.bind_some]
    refine Wp.ite (fun h1 => Wp.ret (decide_eq_false fun h' => by have := h' x (List.mem_cons_self ..); omega).symm) (fun h1 => ?_)
    simp (disch := omega) only [w64']
    have ih := implTake_ready t (pre ++ [x]) (by simpa using hl')
    rw [← mid_succ, ← mid_len] at ih
    refine ih.mono fun v hv => ?_
    rw [hv, decide_eq_decide]
    constructor
    · intro g1 y hy
      rcases List.mem_cons.mp hy with rfl | hy
      · omega
      · exact g1 y hy
    · exact fun g1 y hy => g1 y (List.mem_cons_of_mem _ hy)
theorem implTake_held (n : Int) (o : ByteArray) (r : List ByteArray) (hn : 0 ≤ n ∧ n ≤ 1000000) (ho : o.size ≤ 200) (hr : r.length ≤ 4) : ∀ (t pre : List DHeld), (pre ++ t).length ≤ 1000 → n - 1 ≤ prevOf n pre →
    Wp (fun k => impl_ValidTake_l4 k (pre ++ t) ((pre ++ t).length : Int) (pre.length : Int) n (pre ++ t) o r) (· = decide ((WHs n (prevOf n pre) t ∧ NoGo n o r t) ∧ SmR r))
  | [], pre, hl, hp => by
    refine Wp.step ?_
    simp only [impl_ValidTake_l4, List.append_nil]
    simp (disch := omega) only [cbdec, if_neg]
    refine Wp.mono (implTake_ready r [] (by simp; omega)) fun v hv => ?_
    rw [hv, decide_eq_decide]
    exact ⟨fun g => ⟨⟨trivial, fun x hx => by simp at hx⟩, g⟩, fun g => g.2⟩
  | x :: t, pre, hl, hp => by
    refine Wp.step ?_
    have hl' := hl
    simp only [List.length_append, List.length_cons] at hl
    simp only [impl_ValidTake_l4]
    simp only [cbdec, lt_mid, if_true, idx_mid, Option.bind_some]
    have F : ¬ (WHs n (prevOf n pre) (x :: t) ∧ NoGo n o r (x :: t)) → Wp (fun _ => some false) (· = decide ((WHs n (prevOf n pre) (x :: t) ∧ NoGo n o r (x :: t)) ∧ SmR r)) := fun h => Wp.ret (decide_eq_false fun g => h g.1).symm
    simp (disch := omega) only [w64']
    refine Wp.bind (in_ok _ _ _) (fun _ e => ?_); subst e
    simp only [inB, cbdec, cbnot]
    refine Wp.ite (fun h1 => ?_) (fun h1 => F fun h' => by have := h'.1.1; omega)
    refine Wp.ite (fun h1' => F fun h' => by have := h'.1.1; omega) (fun h1' => ?_)
    refine Wp.ite (fun h2 => F fun h' => by have := h'.1.1; omega) (fun h2 => ?_)
    have ih := implTake_held n o r hn ho hr t (pre ++ [x]) (by simpa using hl') (by rw [prevOf_snoc]; omega)
    rw [← mid_succ, ← mid_len, prevOf_snoc] at ih
    have G : (x.Seq = n → ¬ goes o r x.Part) → prevOf n pre < x.Seq → Wp (fun k => impl_ValidTake_l4 k (pre ++ x :: t) ((pre ++ x :: t).length : Int) ((pre.length : Int) + 1) n (pre ++ x :: t) o r) (· = decide ((WHs n (prevOf n pre) (x :: t) ∧ NoGo n o r (x :: t)) ∧ SmR r)) := fun h h' => by
      refine Wp.mono ih fun v hv => ?_
      rw [hv, decide_eq_decide]
      constructor
      · rintro ⟨⟨g1, g2⟩, g3⟩
        refine ⟨⟨⟨⟨h', by omega, by omega, by omega⟩, g1⟩, fun y hy => ?_⟩, g3⟩
        rcases List.mem_cons.mp hy with rfl | hy
        · exact h
        · exact g2 y hy
      · rintro ⟨⟨g1, g2⟩, g3⟩
        exact ⟨⟨g1.2, fun y hy => g2 y (List.mem_cons_of_mem _ hy)⟩, g3⟩
    have C : prevOf n pre < x.Seq → Wp (fun k => if x.Seq = n then (impl_goes k ⟨n, pre ++ x :: t, o, r⟩ x.Part).bind fun r6 => bif r6 then some false else impl_ValidTake_l4 k (pre ++ x :: t) ((pre ++ x :: t).length : Int) ((pre.length : Int) + 1) n (pre ++ x :: t) o r
        else impl_ValidTake_l4 k (pre ++ x :: t) ((pre ++ x :: t).length : Int) ((pre.length : Int) + 1) n (pre ++ x :: t) o r) (· = decide ((WHs n (prevOf n pre) (x :: t) ∧ NoGo n o r (x :: t)) ∧ SmR r)) := fun h' => by
      refine Wp.ite (fun h3 => ?_) (fun h3 => G (fun g => absurd g h3) h')
      refine Wp.bind (goes_ok n _ o r x.Part (by omega) (by omega)) (fun _ e => ?_); subst e
      simp only [cbdec]
      exact Wp.ite (fun h4 => F fun g => g.2 x (List.mem_cons_self ..) h3 h4) (fun h4 => G (fun _ => h4) h')
    simp only [cbeq]
    refine Wp.ite (fun h3 => ?_) (fun h3 => ?_)
    · obtain ⟨y, hy, hy'⟩ := prevOf_idx n pre (x :: t) (by omega)
      rw [hy]
      simp only [Option.bind_some]
      refine Wp.ite (fun h4 => F fun h' => by have := h'.1.1; omega) (fun h4 => ?_)
      exact C (by omega)
    · have : pre = [] := List.length_eq_zero_iff.mp (by omega)
      exact C (by subst this; simp [prevOf]; omega)
theorem implValidTake_ok (t : DTake) : Wp (fun k => impl_ValidTake k t) (· = decide (VTake t)) := by
  unfold impl_ValidTake
  simp only [cbdec, cbnot]
  have F : ¬ VTake t → Wp (fun _ => some false) (· = decide (VTake t)) := fun h => Wp.ret (decide_eq_false h).symm
  refine Wp.bind (in_ok _ _ _) (fun _ e => ?_); subst e
  simp only [inB, cbdec]
  refine Wp.ite (fun h1 => ?_) (fun h1 => F fun h' => h1 h'.1)
  refine Wp.ite (fun h2 => F fun h' => by have := h'.2.1; omega) (fun h2 => ?_)
  refine Wp.ite (fun h3 => F fun h' => by have := h'.2.2.1; omega) (fun h3 => ?_)
  refine Wp.ite (fun h4 => F fun h' => by have := h'.2.2.2.1; omega) (fun h4 => ?_)
  refine Wp.mono (implTake_held t.Next t.Open t.Ready h1 (by omega) (by omega) t.Held [] (by simp; omega) (by simp [prevOf])) fun v hv => ?_
  rw [hv, decide_eq_decide]
  exact ⟨fun g => ⟨h1, by omega, by omega, by omega, g.2, g.1⟩, fun g => ⟨g.2.2.2.2.2, g.2.2.2.2.1⟩⟩
theorem whs_mem {n : Int} : ∀ {l : List DHeld} {p : Int}, WHs n p l → ∀ x ∈ l, x.Part.Text.size ≤ 20
  | [], _, _, x, h => by simp at h
  | y :: t, p, ⟨h1, h2⟩, x, h => by
    rcases List.mem_cons.mp h with rfl | h
    · exact h1.2.2.2
    · exact whs_mem h2 x h
theorem VTake.sm {t : DTake} (h : VTake t) : smTake t := by
  obtain ⟨h1, h2, h3, h4, h5, h6, h7⟩ := h
  unfold smTake smL
  refine ⟨⟨by omega, fun x hx => ?_⟩, by omega, ⟨by omega, fun s hs => by have := h5 s hs; omega⟩⟩
  have := whs_mem h6 x hx
  show x.Part.Text.size ≤ 1048576
  omega
/-! ### flow -/
/-! ### TakePull -/
theorem VTake.small {t : DTake} (h : VTake t) : ∀ x ∈ t.Held, x.Seq ≤ 999999 ∧ x.Part.Text.size ≤ 1000 := by
  have hw := h.2.2.2.2.2.1
  have G : ∀ {l : List DHeld} {p : Int}, WHs t.Next p l → ∀ x ∈ l, x.Seq ≤ 999999 := by
    intro l
    induction l with
    | nil => intro p _ x hx; simp at hx
    | cons y l ih =>
      rintro p ⟨h1, h2⟩ x hx
      rcases List.mem_cons.mp hx with rfl | hx
      · exact h1.2.2.1
      · exact ih h2 x hx
  exact fun x hx => ⟨G hw x hx, by have := whs_mem hw x hx; omega⟩
end Km.X
namespace Km.X
open Go Km
set_option linter.unusedVariables false
set_option linter.unusedSimpArgs false
/-! ### TakeWord -/
end Km.X
namespace Km.X
open Go Km
set_option linter.unusedVariables false
set_option linter.unusedSimpArgs false

def smEnd (x : DEnd) : Prop := smSend x.Send ∧ smTake x.Take
theorem toEnd_ok (x : DEnd) (h : smEnd x) : Wp (fun k => laws_toEnd k x) (· = x) := by
  unfold smEnd at h
  obtain ⟨h0, h1⟩ := h
  unfold laws_toEnd
  refine Wp.bind (toSend_ok _ h0) (fun _ e => ?_); subst e
  refine Wp.bind (toTake_ok _ h1) (fun _ e => ?_); subst e
  exact Wp.ret rfl
theorem szEnd_ok (x : DEnd) (hw : wfDEnd x) (a : Int) (ha : 0 ≤ a ∧ a ≤ 1048576) : Wp (fun k => laws_szEnd k x a) (fun r => r ≤ 1048576 ∧ (0 ≤ r → smEnd x)) := by
  unfold smEnd
  obtain ⟨w0, w1, w2, w3, w4, w5, w6, w7⟩ := hw
  unfold laws_szEnd
  refine Wp.bind (szSend_ok _ w6 a (by omega)) (fun r0 e0 => ?_)
  first | refine Wp.dec (fun h => Wp.ret ⟨by omega, fun h => by omega⟩) (fun h0 => ?_) | refine Wp.ite (fun h => Wp.ret ⟨by omega, fun h => by omega⟩) (fun h0 => ?_)
  refine Wp.bind (szTake_ok _ w7 r0 (by omega)) (fun r1 e1 => ?_)
  first | refine Wp.dec (fun h => Wp.ret ⟨by omega, fun h => by omega⟩) (fun h1 => Wp.ret ⟨by omega, fun _ => ?_⟩) | refine Wp.ite (fun h => Wp.ret ⟨by omega, fun h => by omega⟩) (fun h1 => Wp.ret ⟨by omega, fun _ => ?_⟩)
  exact ⟨e0.2 (by omega), e1.2 (by omega)⟩
theorem eqEnd_ok (x : DEnd) (h : smEnd x) : Wp (fun k => laws_eqEnd k x x) (· = true) := by
  unfold laws_eqEnd
  unfold smEnd at h
  obtain ⟨h0, h1⟩ := h
  simp only [w64', cbdec, cbnot, cbeq, cbne, cbseq, cbbeq, cond_true, cond_false, Option.bind_some, Bool.not_true, Bool.not_false, if_true, if_false]
  refine Wp.bind (eqSend_ok _ h0) (fun _ e => ?_); subst e
  simp only [w64', cbdec, cbnot, cbeq, cbne, cbseq, cbbeq, cond_true, cond_false, Option.bind_some, Bool.not_true, Bool.not_false, if_true, if_false]
  refine Wp.bind (eqTake_ok _ h1) (fun _ e => ?_); subst e
  simp only [w64', cbdec, cbnot, cbeq, cbne, cbseq, cbbeq, cond_true, cond_false, Option.bind_some, Bool.not_true, Bool.not_false, if_true, if_false]
  exact Wp.ret rfl
end Km.X
namespace Km.X
open Go Km
set_option linter.unusedVariables false
set_option linter.unusedSimpArgs false
/-! ### End -/
def PNoS (s : DSend) : Prop := s.Base = 0 ∧ s.Items.length = 0
instance (s : DSend) : Decidable (PNoS s) := by unfold PNoS; infer_instance
def PNoT (t : DTake) : Prop := t.Next = 0 ∧ t.Held.length = 0 ∧ t.Open = noB ∧ t.Ready.length = 0
instance (t : DTake) : Decidable (PNoT t) := by unfold PNoT; infer_instance
theorem eqInt_dec (a b : Int) : (a == b) = decide (a = b) := by by_cases h : a = b <;> simp [h]
theorem noSend_ok (s : DSend) : Wp (fun k => spec_l6NoSend k s) (· = decide (PNoS s)) := by
  unfold spec_l6NoSend
  simp only [eqInt_dec, cbdec]
  refine Wp.ite (fun h => Wp.ret ?_) (fun h => Wp.ret (decide_eq_false fun g => h g.1).symm)
  rw [decide_eq_decide]; exact ⟨fun g => ⟨h, by omega⟩, fun g => by have := g.2; omega⟩
theorem noTake_ok (t : DTake) : Wp (fun k => spec_l6NoTake k t) (· = decide (PNoT t)) := by
  unfold spec_l6NoTake
  simp only [eqInt_dec, cbseq, cbdec]
  have F : ¬ PNoT t → Wp (fun _ => some false) (· = decide (PNoT t)) := fun h => Wp.ret (decide_eq_false h).symm
  refine Wp.ite (fun h => ?_) (fun h => F fun g => h g.1)
  refine Wp.ite (fun h2 => ?_) (fun h2 => F fun g => by have := g.2.1; omega)
  refine Wp.ite (fun h3 => Wp.ret ?_) (fun h3 => F fun g => h3 g.2.2.1)
  rw [decide_eq_decide]; exact ⟨fun g => ⟨h, by omega, h3, by omega⟩, fun g => by have := g.2.2.2; omega⟩
def VEnd (e : DEnd) : Prop := (1 ≤ e.Number ∧ e.Number ≤ 2) ∧ (1 ≤ e.Life ∧ e.Life ≤ 1000) ∧ (0 ≤ e.Peer ∧ e.Peer ≤ 1000) ∧ (0 ≤ e.Since ∧ e.Since ≤ 1000000) ∧ VSend e.Send ∧ VTake e.Take ∧ (e.Peer = 0 → PNoS e.Send ∧ PNoT e.Take) ∧ (e.Up = false → e.Peer = 0 ∧ e.Since = 0 ∧ e.Owes = false)
instance (e : DEnd) : Decidable (VEnd e) := by unfold VEnd; infer_instance
theorem VEnd.sm {e : DEnd} (h : VEnd e) : smEnd e := ⟨h.2.2.2.2.1.sm, h.2.2.2.2.2.1.sm⟩
theorem endTail (e : DEnd) (h : (1 ≤ e.Number ∧ e.Number ≤ 2) ∧ (1 ≤ e.Life ∧ e.Life ≤ 1000) ∧ (0 ≤ e.Peer ∧ e.Peer ≤ 1000) ∧ (0 ≤ e.Since ∧ e.Since ≤ 1000000) ∧ VSend e.Send ∧ VTake e.Take) (h' : e.Peer = 0 → PNoS e.Send ∧ PNoT e.Take) :
    Wp (fun _ => bif e.Up then some true else bif e.Peer == 0 then bif e.Since == 0 then some (!e.Owes) else some false else some false) (· = decide (VEnd e)) := by
  obtain ⟨h1, h2, h3, h4, h5, h6⟩ := h
  simp only [cbeq]
  refine Wp.bif (fun u => Wp.ret (decide_eq_true ⟨h1, h2, h3, h4, h5, h6, h', fun g => by rw [u] at g; cases g⟩).symm) (fun u => ?_)
  refine Wp.ite (fun h7 => ?_) (fun h7 => Wp.ret (decide_eq_false fun g => h7 (g.2.2.2.2.2.2.2 u).1).symm)
  refine Wp.ite (fun h8 => Wp.ret ?_) (fun h8 => Wp.ret (decide_eq_false fun g => h8 (g.2.2.2.2.2.2.2 u).2.1).symm)
  by_cases ho : e.Owes = true
  · rw [ho]; exact (decide_eq_false fun g => by have := (g.2.2.2.2.2.2.2 u).2.2; rw [ho] at this; cases this).symm
  · have ho : e.Owes = false := by simpa using ho
    rw [ho]; exact (decide_eq_true ⟨h1, h2, h3, h4, h5, h6, h', fun _ => ⟨h7, h8, ho⟩⟩).symm
theorem specValidEnd_ok (e : DEnd) : Wp (fun k => spec_ValidEnd k e) (· = decide (VEnd e)) := by
  unfold spec_ValidEnd
  have F : ¬ VEnd e → Wp (fun _ => some false) (· = decide (VEnd e)) := fun h => Wp.ret (decide_eq_false h).symm
  refine Wp.bind (l1In_ok _ _ _) (fun _ q => ?_); subst q
  simp only [inB, cbdec, cbnot]
  refine Wp.ite (fun h1 => ?_) (fun h1 => F fun g => h1 g.1)
  refine Wp.bind (l1In_ok _ _ _) (fun _ q => ?_); subst q
  simp only [inB, cbdec]
  refine Wp.ite (fun h2 => ?_) (fun h2 => F fun g => h2 g.2.1)
  refine Wp.bind (l1In_ok _ _ _) (fun _ q => ?_); subst q
  simp only [inB, cbdec]
  refine Wp.ite (fun h3 => ?_) (fun h3 => F fun g => h3 g.2.2.1)
  refine Wp.bind (l1In_ok _ _ _) (fun _ q => ?_); subst q
  simp only [inB, cbdec]
  refine Wp.ite (fun h4 => ?_) (fun h4 => F fun g => h4 g.2.2.2.1)
  refine Wp.bind (specValidSend_ok _) (fun _ q => ?_); subst q
  simp only [cbdec]
  refine Wp.ite (fun h5 => ?_) (fun h5 => F fun g => h5 g.2.2.2.2.1)
  refine Wp.bind (specValidTake_ok _) (fun _ q => ?_); subst q
  simp only [cbdec]
  refine Wp.ite (fun h6 => ?_) (fun h6 => F fun g => h6 g.2.2.2.2.2.1)
  have T := endTail e ⟨h1, h2, h3, h4, h5, h6⟩
  simp only [cbeq] at T ⊢
  refine Wp.ite (fun h7 => ?_) (fun h7 => T fun g => absurd g h7)
  refine Wp.bind (noSend_ok _) (fun _ q => ?_); subst q
  simp only [cbdec]
  refine Wp.ite (fun h8 => ?_) (fun h8 => F fun g => h8 (g.2.2.2.2.2.2.1 h7).1)
  refine Wp.bind (noTake_ok _) (fun _ q => ?_); subst q
  simp only [cbdec]
  exact Wp.ite (fun h9 => T fun _ => ⟨h8, h9⟩) (fun h9 => F fun g => h9 (g.2.2.2.2.2.2.1 h7).2)
theorem implValidEnd_ok (e : DEnd) : Wp (fun k => impl_ValidEnd k e) (· = decide (VEnd e)) := by
  unfold impl_ValidEnd
  have F : ¬ VEnd e → Wp (fun _ => some false) (· = decide (VEnd e)) := fun h => Wp.ret (decide_eq_false h).symm
  have M : (1 ≤ e.Number ∧ e.Number ≤ 2) → Wp (fun k => (impl_in k e.Life 1 1000).bind fun r8 =>
    bif (!r8) then
      some false
    else
      (impl_in k e.Peer 0 1000).bind fun r9 =>
      bif (!r9) then
        some false
      else
        (impl_in k e.Since 0 1000000).bind fun r10 =>
        bif (!r10) then
          some false
        else
          (impl_ValidSend k e.Send).bind fun r11 =>
          bif (!r11) then
            some false
          else
            (impl_ValidTake k e.Take).bind fun r12 =>
            bif (!r12) then
              some false
            else
              bif (e.Peer == 0) then
                (impl_noSend k e.Send).bind fun r13 =>
                bif r13 then
                  (impl_noTake k e.Take).bind fun r14 =>
                  bif (!r14) then
                    some false
                  else
                    bif e.Up then
                      some true
                    else
                      bif (e.Peer == 0) then
                        bif (e.Since == 0) then
                          some (!e.Owes)
                        else
                          some false
                      else
                        some false
                else
                  some false
              else
                bif e.Up then
                  some true
                else
                  bif (e.Peer == 0) then
                    bif (e.Since == 0) then
                      some (!e.Owes)
                    else
                      some false
                  else
                    some false) (· = decide (VEnd e)) := fun h1 => by
    refine Wp.bind (in_ok _ _ _) (fun _ q => ?_); subst q
    simp only [inB, cbdec, cbnot]
    refine Wp.ite (fun h2 => ?_) (fun h2 => F fun g => h2 g.2.1)
    refine Wp.bind (in_ok _ _ _) (fun _ q => ?_); subst q
    simp only [inB, cbdec]
    refine Wp.ite (fun h3 => ?_) (fun h3 => F fun g => h3 g.2.2.1)
    refine Wp.bind (in_ok _ _ _) (fun _ q => ?_); subst q
    simp only [inB, cbdec]
    refine Wp.ite (fun h4 => ?_) (fun h4 => F fun g => h4 g.2.2.2.1)
    refine Wp.bind (implValidSend_ok _) (fun _ q => ?_); subst q
    simp only [cbdec]
    refine Wp.ite (fun h5 => ?_) (fun h5 => F fun g => h5 g.2.2.2.2.1)
    refine Wp.bind (implValidTake_ok _) (fun _ q => ?_); subst q
    simp only [cbdec]
    refine Wp.ite (fun h6 => ?_) (fun h6 => F fun g => h6 g.2.2.2.2.2.1)
    have T := endTail e ⟨h1, h2, h3, h4, h5, h6⟩
    simp only [cbeq] at T ⊢
    refine Wp.ite (fun h7 => ?_) (fun h7 => T fun g => absurd g h7)
    refine Wp.bind (P := fun r => r = decide (PNoS e.Send)) (noSend_ok _) (fun _ q => ?_); subst q
    simp only [cbdec]
    refine Wp.ite (fun h8 => ?_) (fun h8 => F fun g => h8 (g.2.2.2.2.2.2.1 h7).1)
    refine Wp.bind (P := fun r => r = decide (PNoT e.Take)) (noTake_ok _) (fun _ q => ?_); subst q
    simp only [cbdec]
    exact Wp.ite (fun h9 => T fun _ => ⟨h8, h9⟩) (fun h9 => F fun g => h9 (g.2.2.2.2.2.2.1 h7).2)
  simp only [cbne]
  refine Wp.ite (fun h => M (by omega)) (fun h => ?_)
  exact Wp.ite (fun h2 => M (by omega)) (fun h2 => F fun g => by have := g.1; omega)
/-! ### NewEnd, EndFall, EndRise -/
/-! ### EndPull, EndPush -/
end Km.X
namespace Km.X
open Go Km
set_option linter.unusedVariables false
set_option linter.unusedSimpArgs false
/-! ### EndTick -/
end Km.X
namespace Km.X
open Go Km
set_option linter.unusedVariables false
set_option linter.unusedSimpArgs false

def smParcel (x : DParcel) : Prop := x.Sent.size ≤ 1048576 ∧ x.Bytes.size ≤ 1048576
def smRecord (x : DRecord) : Prop := x.Text.size ≤ 1048576
def smWorld (x : DWorld) : Prop := x.Key.size ≤ 1048576 ∧ smL smEnd x.Ends ∧ smL smParcel x.Flight ∧ x.Forged.size ≤ 1048576 ∧ smL smRecord x.Given ∧ smL smRecord x.Taken
theorem toParcel_ok (x : DParcel) (h : smParcel x) : Wp (fun k => laws_toParcel k x) (· = x) := Wp.ret rfl
theorem toRecord_ok (x : DRecord) (h : smRecord x) : Wp (fun k => laws_toRecord k x) (· = x) := Wp.ret rfl
theorem toEndS_ok (xs : List DEnd) (h : smL smEnd xs) : Wp (fun k => laws_toEndS k xs) (· = xs) := by
  unfold laws_toEndS
  obtain ⟨hl, hp⟩ := h
  refine Wp.opt (x := xs.length) (by rw [if_pos rfl]; exact room_ok (by omega)) ?_
  refine Wp.loop (n := xs.length) (f := fun k i (ys : List DEnd) => laws_toEndS_l3 k xs (i : Int) ys) (Inv := fun i ys => ys.length = xs.length ∧ ys.take i = xs.take i) (Q := (· = xs)) ?_ ?_ xs.length 0 _ (by omega) ⟨by simp, by simp⟩
  · rintro i ys hi ⟨h1, h2⟩ ih
    refine Wp.step ?_
    simp only [laws_toEndS_l3]
    simp (disch := omega) only [cbdec, if_pos, idxN, getN, Option.bind_some, w64', castS, Int.ofNat_lt]
    refine Wp.bind (toEnd_ok _ (hp _ (List.getElem_mem hi))) (fun _ e => ?_); subst e
    refine ih _ ⟨by simpa using h1, ?_⟩
    rw [Int.toNat_natCast, List.take_add_one, List.take_add_one, List.getElem?_set_self (by omega), List.take_set, List.set_eq_of_length_le (by simp; omega), h2, List.getElem?_eq_getElem hi]
  · rintro ys ⟨h1, h2⟩
    refine Wp.step ?_
    simp only [laws_toEndS_l3]
    simp (disch := omega) only [cbdec, if_neg]
    rw [List.take_of_length_le (by omega), List.take_of_length_le (by omega)] at h2
    exact Wp.ret h2
theorem toParcelS_ok (xs : List DParcel) (h : smL smParcel xs) : Wp (fun k => laws_toParcelS k xs) (· = xs) := by
  unfold laws_toParcelS
  obtain ⟨hl, hp⟩ := h
  refine Wp.opt (x := xs.length) (by rw [if_pos rfl]; exact room_ok (by omega)) ?_
  refine Wp.loop (n := xs.length) (f := fun k i (ys : List DParcel) => laws_toParcelS_l3 k xs (i : Int) ys) (Inv := fun i ys => ys.length = xs.length ∧ ys.take i = xs.take i) (Q := (· = xs)) ?_ ?_ xs.length 0 _ (by omega) ⟨by simp, by simp⟩
  · rintro i ys hi ⟨h1, h2⟩ ih
    refine Wp.step ?_
    simp only [laws_toParcelS_l3]
    simp (disch := omega) only [cbdec, if_pos, idxN, getN, Option.bind_some, w64', castS, Int.ofNat_lt]
    refine Wp.bind (toParcel_ok _ (hp _ (List.getElem_mem hi))) (fun _ e => ?_); subst e
    refine ih _ ⟨by simpa using h1, ?_⟩
    rw [Int.toNat_natCast, List.take_add_one, List.take_add_one, List.getElem?_set_self (by omega), List.take_set, List.set_eq_of_length_le (by simp; omega), h2, List.getElem?_eq_getElem hi]
  · rintro ys ⟨h1, h2⟩
    refine Wp.step ?_
    simp only [laws_toParcelS_l3]
    simp (disch := omega) only [cbdec, if_neg]
    rw [List.take_of_length_le (by omega), List.take_of_length_le (by omega)] at h2
    exact Wp.ret h2
theorem toRecordS_ok (xs : List DRecord) (h : smL smRecord xs) : Wp (fun k => laws_toRecordS k xs) (· = xs) := by
  unfold laws_toRecordS
  obtain ⟨hl, hp⟩ := h
  refine Wp.opt (x := xs.length) (by rw [if_pos rfl]; exact room_ok (by omega)) ?_
  refine Wp.loop (n := xs.length) (f := fun k i (ys : List DRecord) => laws_toRecordS_l3 k xs (i : Int) ys) (Inv := fun i ys => ys.length = xs.length ∧ ys.take i = xs.take i) (Q := (· = xs)) ?_ ?_ xs.length 0 _ (by omega) ⟨by simp, by simp⟩
  · rintro i ys hi ⟨h1, h2⟩ ih
    refine Wp.step ?_
    simp only [laws_toRecordS_l3]
    simp (disch := omega) only [cbdec, if_pos, idxN, getN, Option.bind_some, w64', castS, Int.ofNat_lt]
    refine Wp.bind (toRecord_ok _ (hp _ (List.getElem_mem hi))) (fun _ e => ?_); subst e
    refine ih _ ⟨by simpa using h1, ?_⟩
    rw [Int.toNat_natCast, List.take_add_one, List.take_add_one, List.getElem?_set_self (by omega), List.take_set, List.set_eq_of_length_le (by simp; omega), h2, List.getElem?_eq_getElem hi]
  · rintro ys ⟨h1, h2⟩
    refine Wp.step ?_
    simp only [laws_toRecordS_l3]
    simp (disch := omega) only [cbdec, if_neg]
    rw [List.take_of_length_le (by omega), List.take_of_length_le (by omega)] at h2
    exact Wp.ret h2
theorem toWorld_ok (x : DWorld) (h : smWorld x) : Wp (fun k => laws_toWorld k x) (· = x) := by
  unfold smWorld at h
  obtain ⟨h0, h1, h2, h3, h4, h5⟩ := h
  unfold laws_toWorld
  refine Wp.bind (toEndS_ok _ h1) (fun _ e => ?_); subst e
  refine Wp.bind (toParcelS_ok _ h2) (fun _ e => ?_); subst e
  refine Wp.bind (toRecordS_ok _ h4) (fun _ e => ?_); subst e
  refine Wp.bind (toRecordS_ok _ h5) (fun _ e => ?_); subst e
  exact Wp.ret rfl
theorem szParcel_ok (x : DParcel) (hw : wfDParcel x) (a : Int) (ha : 0 ≤ a ∧ a ≤ 1048576) : Wp (fun k => laws_szParcel k x a) (fun r => r ≤ 1048576 ∧ (0 ≤ r → smParcel x)) := by
  unfold smParcel
  unfold wfDParcel at hw
  unfold laws_szParcel
  obtain ⟨_, h1, h2⟩ := hw
  have h1 : x.Sent.size ≤ 2 ^ 63 - 1 := h1
  have h2 : x.Bytes.size ≤ 2 ^ 63 - 1 := h2
  try simp (disch := omega) only [w64', cbdec]
  refine Wp.ite (fun h => Wp.ret ⟨by omega, fun h => by omega⟩) (fun h => ?_)
  try simp (disch := omega) only [w64']
  refine Wp.ite (fun h => Wp.ret ⟨by omega, fun h => by omega⟩) (fun h => Wp.ret ⟨by omega, fun _ => by omega⟩)
theorem szRecord_ok (x : DRecord) (hw : wfDRecord x) (a : Int) (ha : 0 ≤ a ∧ a ≤ 1048576) : Wp (fun k => laws_szRecord k x a) (fun r => r ≤ 1048576 ∧ (0 ≤ r → smRecord x)) := by
  unfold smRecord
  unfold wfDRecord at hw
  unfold laws_szRecord
  have h1 : x.Text.size ≤ 2 ^ 63 - 1 := by first | exact hw.1 | exact hw.2.2.2.2.2.2.2.2 | exact hw.2.2.2.2 | exact hw.2.2.2
  try simp (disch := omega) only [w64', cbdec]
  refine Wp.ite (fun h => Wp.ret ⟨by omega, fun h => by omega⟩) (fun h => Wp.ret ⟨by omega, fun _ => by omega⟩)
theorem szEndS_ok (xs : List DEnd) (hw : xs.length ≤ maxLen ∧ ∀ y ∈ xs, wf_end y) (a : Int) (ha : 0 ≤ a ∧ a ≤ 1048576) : Wp (fun k => laws_szEndS k xs a) (fun r => r ≤ 1048576 ∧ (0 ≤ r → smL smEnd xs)) := by
  obtain ⟨hl, hp⟩ := hw
  have hl : xs.length ≤ 2 ^ 63 - 1 := hl
  unfold laws_szEndS
  try simp (disch := omega) only [w64', cbdec]
  refine Wp.ite (fun h => Wp.ret ⟨by omega, fun h => by omega⟩) (fun h => ?_)
  refine Wp.loop (n := xs.length) (f := fun k i (l : Int) => laws_szEndS_l5 k xs l (i : Int)) (Inv := fun i l => (0 ≤ l ∧ l ≤ 1048576) ∧ ∀ j (hj : j < xs.length), j < i → smEnd xs[j]) (Q := fun r => r ≤ 1048576 ∧ (0 ≤ r → smL smEnd xs)) ?_ ?_ xs.length 0 (a - xs.length) (by omega) ⟨by omega, fun j _ h => by omega⟩
  · rintro i l hi ⟨h1, h2⟩ ih
    refine Wp.step ?_
    simp only [laws_szEndS_l5]
    simp (disch := omega) only [cbdec, if_pos, idxN, Option.bind_some, w64', castS]
    refine Wp.bind (szEnd_ok _ (hp _ (List.getElem_mem hi)) l h1) (fun r hr => ?_)
    refine Wp.ite (fun h => Wp.ret ⟨by omega, fun h => by omega⟩) (fun h => ?_)
    refine ih _ ⟨by omega, fun j hj hji => ?_⟩
    by_cases e : j = i
    · subst e; exact hr.2 (by omega)
    · exact h2 j hj (by omega)
  · rintro l ⟨h1, h2⟩
    refine Wp.step ?_
    simp only [laws_szEndS_l5]
    simp (disch := omega) only [cbdec, if_neg]
    refine Wp.ret ⟨by omega, fun _ => ⟨by omega, fun y hy => ?_⟩⟩
    obtain ⟨j, hj, rfl⟩ := List.getElem_of_mem hy
    exact h2 j hj hj
theorem szParcelS_ok (xs : List DParcel) (hw : xs.length ≤ maxLen ∧ ∀ y ∈ xs, wf_parcel y) (a : Int) (ha : 0 ≤ a ∧ a ≤ 1048576) : Wp (fun k => laws_szParcelS k xs a) (fun r => r ≤ 1048576 ∧ (0 ≤ r → smL smParcel xs)) := by
  obtain ⟨hl, hp⟩ := hw
  have hl : xs.length ≤ 2 ^ 63 - 1 := hl
  unfold laws_szParcelS
  try simp (disch := omega) only [w64', cbdec]
  refine Wp.ite (fun h => Wp.ret ⟨by omega, fun h => by omega⟩) (fun h => ?_)
  refine Wp.loop (n := xs.length) (f := fun k i (l : Int) => laws_szParcelS_l5 k xs l (i : Int)) (Inv := fun i l => (0 ≤ l ∧ l ≤ 1048576) ∧ ∀ j (hj : j < xs.length), j < i → smParcel xs[j]) (Q := fun r => r ≤ 1048576 ∧ (0 ≤ r → smL smParcel xs)) ?_ ?_ xs.length 0 (a - xs.length) (by omega) ⟨by omega, fun j _ h => by omega⟩
  · rintro i l hi ⟨h1, h2⟩ ih
    refine Wp.step ?_
    simp only [laws_szParcelS_l5]
    simp (disch := omega) only [cbdec, if_pos, idxN, Option.bind_some, w64', castS]
    refine Wp.bind (szParcel_ok _ (hp _ (List.getElem_mem hi)) l h1) (fun r hr => ?_)
    refine Wp.ite (fun h => Wp.ret ⟨by omega, fun h => by omega⟩) (fun h => ?_)
    refine ih _ ⟨by omega, fun j hj hji => ?_⟩
    by_cases e : j = i
    · subst e; exact hr.2 (by omega)
    · exact h2 j hj (by omega)
  · rintro l ⟨h1, h2⟩
    refine Wp.step ?_
    simp only [laws_szParcelS_l5]
    simp (disch := omega) only [cbdec, if_neg]
    refine Wp.ret ⟨by omega, fun _ => ⟨by omega, fun y hy => ?_⟩⟩
    obtain ⟨j, hj, rfl⟩ := List.getElem_of_mem hy
    exact h2 j hj hj
theorem szRecordS_ok (xs : List DRecord) (hw : xs.length ≤ maxLen ∧ ∀ y ∈ xs, wf_record y) (a : Int) (ha : 0 ≤ a ∧ a ≤ 1048576) : Wp (fun k => laws_szRecordS k xs a) (fun r => r ≤ 1048576 ∧ (0 ≤ r → smL smRecord xs)) := by
  obtain ⟨hl, hp⟩ := hw
  have hl : xs.length ≤ 2 ^ 63 - 1 := hl
  unfold laws_szRecordS
  try simp (disch := omega) only [w64', cbdec]
  refine Wp.ite (fun h => Wp.ret ⟨by omega, fun h => by omega⟩) (fun h => ?_)
  refine Wp.loop (n := xs.length) (f := fun k i (l : Int) => laws_szRecordS_l5 k xs l (i : Int)) (Inv := fun i l => (0 ≤ l ∧ l ≤ 1048576) ∧ ∀ j (hj : j < xs.length), j < i → smRecord xs[j]) (Q := fun r => r ≤ 1048576 ∧ (0 ≤ r → smL smRecord xs)) ?_ ?_ xs.length 0 (a - xs.length) (by omega) ⟨by omega, fun j _ h => by omega⟩
  · rintro i l hi ⟨h1, h2⟩ ih
    refine Wp.step ?_
    simp only [laws_szRecordS_l5]
    simp (disch := omega) only [cbdec, if_pos, idxN, Option.bind_some, w64', castS]
    refine Wp.bind (szRecord_ok _ (hp _ (List.getElem_mem hi)) l h1) (fun r hr => ?_)
    refine Wp.ite (fun h => Wp.ret ⟨by omega, fun h => by omega⟩) (fun h => ?_)
    refine ih _ ⟨by omega, fun j hj hji => ?_⟩
    by_cases e : j = i
    · subst e; exact hr.2 (by omega)
    · exact h2 j hj (by omega)
  · rintro l ⟨h1, h2⟩
    refine Wp.step ?_
    simp only [laws_szRecordS_l5]
    simp (disch := omega) only [cbdec, if_neg]
    refine Wp.ret ⟨by omega, fun _ => ⟨by omega, fun y hy => ?_⟩⟩
    obtain ⟨j, hj, rfl⟩ := List.getElem_of_mem hy
    exact h2 j hj hj
theorem szWorld_ok (x : DWorld) (hw : wfDWorld x) (a : Int) (ha : 0 ≤ a ∧ a ≤ 1048576) : Wp (fun k => laws_szWorld k x a) (fun r => r ≤ 1048576 ∧ (0 ≤ r → smWorld x)) := by
  unfold smWorld
  obtain ⟨w0, w1, w2, w3, w4, w5, w6⟩ := hw
  unfold laws_szWorld
  have s0 : x.Key.size ≤ 2 ^ 63 - 1 := w0
  try simp (disch := omega) only [w64', cbdec]
  refine Wp.ite (fun h => Wp.ret ⟨by omega, fun h => by omega⟩) (fun h0 => ?_)
  refine Wp.bind (szEndS_ok _ w2 (a - (x.Key.size : Int)) (by omega)) (fun r1 e1 => ?_)
  first | refine Wp.dec (fun h => Wp.ret ⟨by omega, fun h => by omega⟩) (fun h1 => ?_) | refine Wp.ite (fun h => Wp.ret ⟨by omega, fun h => by omega⟩) (fun h1 => ?_)
  refine Wp.bind (szParcelS_ok _ w3 r1 (by omega)) (fun r2 e2 => ?_)
  first | refine Wp.dec (fun h => Wp.ret ⟨by omega, fun h => by omega⟩) (fun h2 => ?_) | refine Wp.ite (fun h => Wp.ret ⟨by omega, fun h => by omega⟩) (fun h2 => ?_)
  have s3 : x.Forged.size ≤ 2 ^ 63 - 1 := w4
  try simp (disch := omega) only [w64', cbdec]
  refine Wp.ite (fun h => Wp.ret ⟨by omega, fun h => by omega⟩) (fun h3 => ?_)
  refine Wp.bind (szRecordS_ok _ w5 (r2 - (x.Forged.size : Int)) (by omega)) (fun r4 e4 => ?_)
  first | refine Wp.dec (fun h => Wp.ret ⟨by omega, fun h => by omega⟩) (fun h4 => ?_) | refine Wp.ite (fun h => Wp.ret ⟨by omega, fun h => by omega⟩) (fun h4 => ?_)
  refine Wp.bind (szRecordS_ok _ w6 r4 (by omega)) (fun r5 e5 => ?_)
  first | refine Wp.dec (fun h => Wp.ret ⟨by omega, fun h => by omega⟩) (fun h5 => Wp.ret ⟨by omega, fun _ => ?_⟩) | refine Wp.ite (fun h => Wp.ret ⟨by omega, fun h => by omega⟩) (fun h5 => Wp.ret ⟨by omega, fun _ => ?_⟩)
  exact ⟨(by omega), e1.2 (by omega), e2.2 (by omega), (by omega), e4.2 (by omega), e5.2 (by omega)⟩
theorem eqParcel_ok (x : DParcel) (h : smParcel x) : Wp (fun k => laws_eqParcel k x x) (· = true) := by
  unfold laws_eqParcel
  unfold smParcel at h
  obtain ⟨h0, h1⟩ := h
  simp only [w64', cbdec, cbnot, cbeq, cbne, cbseq, cbbeq, cond_true, cond_false, Option.bind_some, Bool.not_true, Bool.not_false, if_true, if_false]
  exact Wp.ret rfl
theorem eqRecord_ok (x : DRecord) (h : smRecord x) : Wp (fun k => laws_eqRecord k x x) (· = true) := by
  unfold laws_eqRecord
  unfold smRecord at h
  have h0 := h
  simp only [w64', cbdec, cbnot, cbeq, cbne, cbseq, cbbeq, cond_true, cond_false, Option.bind_some, Bool.not_true, Bool.not_false, if_true, if_false]
  exact Wp.ret rfl
theorem eqEndS_ok (xs : List DEnd) (h : smL smEnd xs) : Wp (fun k => laws_eqEndS k xs xs) (· = true) := by
  unfold laws_eqEndS
  obtain ⟨hl, hp⟩ := h
  simp only [cbne, if_true]
  refine Wp.loop (n := xs.length) (f := fun k i (_ : Unit) => laws_eqEndS_l4 k xs xs (i : Int)) (Inv := fun _ _ => True) (Q := (· = true)) ?_ ?_ xs.length 0 () (by omega) trivial
  · rintro i _ hi _ ih
    refine Wp.step ?_
    simp only [laws_eqEndS_l4]
    simp (disch := omega) only [cbdec, if_pos, idxN, Option.bind_some, w64', castS]
    refine Wp.bind (eqEnd_ok _ (hp _ (List.getElem_mem hi))) (fun _ e => ?_); subst e
    simp only [w64', cbdec, cbnot, cbeq, cbne, cbseq, cbbeq, cond_true, cond_false, Option.bind_some, Bool.not_true, Bool.not_false, if_true, if_false]
    exact ih () trivial
  · rintro _ _
    refine Wp.step ?_
    simp only [laws_eqEndS_l4]
    simp (disch := omega) only [cbdec, if_neg]
    exact Wp.ret rfl
theorem eqParcelS_ok (xs : List DParcel) (h : smL smParcel xs) : Wp (fun k => laws_eqParcelS k xs xs) (· = true) := by
  unfold laws_eqParcelS
  obtain ⟨hl, hp⟩ := h
  simp only [cbne, if_true]
  refine Wp.loop (n := xs.length) (f := fun k i (_ : Unit) => laws_eqParcelS_l4 k xs xs (i : Int)) (Inv := fun _ _ => True) (Q := (· = true)) ?_ ?_ xs.length 0 () (by omega) trivial
  · rintro i _ hi _ ih
    refine Wp.step ?_
    simp only [laws_eqParcelS_l4]
    simp (disch := omega) only [cbdec, if_pos, idxN, Option.bind_some, w64', castS]
    refine Wp.bind (eqParcel_ok _ (hp _ (List.getElem_mem hi))) (fun _ e => ?_); subst e
    simp only [w64', cbdec, cbnot, cbeq, cbne, cbseq, cbbeq, cond_true, cond_false, Option.bind_some, Bool.not_true, Bool.not_false, if_true, if_false]
    exact ih () trivial
  · rintro _ _
    refine Wp.step ?_
    simp only [laws_eqParcelS_l4]
    simp (disch := omega) only [cbdec, if_neg]
    exact Wp.ret rfl
theorem eqRecordS_ok (xs : List DRecord) (h : smL smRecord xs) : Wp (fun k => laws_eqRecordS k xs xs) (· = true) := by
  unfold laws_eqRecordS
  obtain ⟨hl, hp⟩ := h
  simp only [cbne, if_true]
  refine Wp.loop (n := xs.length) (f := fun k i (_ : Unit) => laws_eqRecordS_l4 k xs xs (i : Int)) (Inv := fun _ _ => True) (Q := (· = true)) ?_ ?_ xs.length 0 () (by omega) trivial
  · rintro i _ hi _ ih
    refine Wp.step ?_
    simp only [laws_eqRecordS_l4]
    simp (disch := omega) only [cbdec, if_pos, idxN, Option.bind_some, w64', castS]
    refine Wp.bind (eqRecord_ok _ (hp _ (List.getElem_mem hi))) (fun _ e => ?_); subst e
    simp only [w64', cbdec, cbnot, cbeq, cbne, cbseq, cbbeq, cond_true, cond_false, Option.bind_some, Bool.not_true, Bool.not_false, if_true, if_false]
    exact ih () trivial
  · rintro _ _
    refine Wp.step ?_
    simp only [laws_eqRecordS_l4]
    simp (disch := omega) only [cbdec, if_neg]
    exact Wp.ret rfl
theorem eqWorld_ok (x : DWorld) (h : smWorld x) : Wp (fun k => laws_eqWorld k x x) (· = true) := by
  unfold laws_eqWorld
  unfold smWorld at h
  obtain ⟨h0, h1, h2, h3, h4, h5⟩ := h
  simp only [w64', cbdec, cbnot, cbeq, cbne, cbseq, cbbeq, cond_true, cond_false, Option.bind_some, Bool.not_true, Bool.not_false, if_true, if_false]
  refine Wp.bind (eqEndS_ok _ h1) (fun _ e => ?_); subst e
  simp only [w64', cbdec, cbnot, cbeq, cbne, cbseq, cbbeq, cond_true, cond_false, Option.bind_some, Bool.not_true, Bool.not_false, if_true, if_false]
  refine Wp.bind (eqParcelS_ok _ h2) (fun _ e => ?_); subst e
  simp only [w64', cbdec, cbnot, cbeq, cbne, cbseq, cbbeq, cond_true, cond_false, Option.bind_some, Bool.not_true, Bool.not_false, if_true, if_false]
  refine Wp.bind (eqRecordS_ok _ h4) (fun _ e => ?_); subst e
  simp only [w64', cbdec, cbnot, cbeq, cbne, cbseq, cbbeq, cond_true, cond_false, Option.bind_some, Bool.not_true, Bool.not_false, if_true, if_false]
  refine Wp.bind (eqRecordS_ok _ h5) (fun _ e => ?_); subst e
  simp only [w64', cbdec, cbnot, cbeq, cbne, cbseq, cbbeq, cond_true, cond_false, Option.bind_some, Bool.not_true, Bool.not_false, if_true, if_false]
  exact Wp.ret rfl
end Km.X
namespace Km.X
open Go Km
set_option linter.unusedVariables false
set_option linter.unusedSimpArgs false
/-! ### World -/
def VRec (r : DRecord) : Prop := (1 ≤ r.From ∧ r.From ≤ 2) ∧ (1 ≤ r.A ∧ r.A ≤ 1000) ∧ (1 ≤ r.B ∧ r.B ≤ 1000) ∧ r.Text.size ≤ 200
instance (r : DRecord) : Decidable (VRec r) := by unfold VRec; infer_instance
def VRecs (l : List DRecord) : Prop := ∀ r ∈ l, VRec r
instance (l : List DRecord) : Decidable (VRecs l) := by unfold VRecs; infer_instance
def VPar (p : DParcel) : Prop := (1 ≤ p.To ∧ p.To ≤ 2) ∧ p.Sent.size ≤ 100 ∧ p.Bytes.size ≤ 100
instance (p : DParcel) : Decidable (VPar p) := by unfold VPar; infer_instance
def VPars (l : List DParcel) : Prop := ∀ p ∈ l, VPar p
instance (l : List DParcel) : Decidable (VPars l) := by unfold VPars; infer_instance
def VEnds : List DEnd → Prop
  | [a, b] => (VEnd a ∧ a.Number = 1) ∧ (VEnd b ∧ b.Number = 2)
  | _ => False
instance : (l : List DEnd) → Decidable (VEnds l)
  | [a, b] => by unfold VEnds; infer_instance
  | [] => .isFalse id
  | [_] => .isFalse id
  | _ :: _ :: _ :: _ => .isFalse id
def VWorld (w : DWorld) : Prop := (1 ≤ w.Width ∧ w.Width ≤ 8) ∧ w.Key.size ≤ 30 ∧ w.Flight.length ≤ 1000 ∧ w.Given.length + w.Taken.length ≤ 400 ∧ VEnds w.Ends ∧ VPars w.Flight ∧ VRecs w.Given ∧ VRecs w.Taken
instance (w : DWorld) : Decidable (VWorld w) := by unfold VWorld; infer_instance
theorem vends_len : ∀ {l : List DEnd}, VEnds l → l.length = 2
  | [a, b], _ => rfl
theorem all_cons {α : Type} {P : α → Prop} {x : α} {t : List α} : (∀ y ∈ x :: t, P y) ↔ P x ∧ ∀ y ∈ t, P y := by simp
theorem recs_spec : ∀ (t pre : List DRecord), (pre ++ t).length ≤ 1000 → Wp (fun k => spec_l7RecordsOk_l2 k (pre ++ t) (pre.length : Int)) (· = decide (VRecs t))
  | [], pre, hl => by
    refine Wp.step ?_
    simp only [spec_l7RecordsOk_l2, List.append_nil]
    simp (disch := omega) only [cbdec, if_neg]
    exact Wp.ret (decide_eq_true fun x hx => by simp at hx).symm
  | x :: t, pre, hl => by
    refine Wp.step ?_
    have hl' := hl
    simp only [List.length_append, List.length_cons] at hl
    simp only [spec_l7RecordsOk_l2]
    simp only [cbdec, lt_mid, if_true, idx_mid, Option.bind_some, cbnot]
    have F : ¬ VRec x → Wp (fun _ => some false) (· = decide (VRecs (x :: t))) := fun h => Wp.ret (decide_eq_false fun g => h (g x (List.mem_cons_self ..))).symm
    refine Wp.bind (l1In_ok _ _ _) (fun _ q => ?_); subst q
    simp only [inB, cbdec]
    refine Wp.ite (fun h1 => ?_) (fun h1 => F fun g => h1 g.1)
    refine Wp.bind (l1In_ok _ _ _) (fun _ q => ?_); subst q
    simp only [inB, cbdec]
    refine Wp.ite (fun h2 => ?_) (fun h2 => F fun g => h2 g.2.1)
    refine Wp.bind (l1In_ok _ _ _) (fun _ q => ?_); subst q
    simp only [inB, cbdec]
    refine Wp.ite (fun h3 => ?_) (fun h3 => F fun g => h3 g.2.2.1)
    refine Wp.ite (fun h4 => F fun g => by have := g.2.2.2; omega) (fun h4 => ?_)
    simp (disch := omega) only [w64']
    have ih := recs_spec t (pre ++ [x]) (by simpa using hl')
    rw [← mid_succ, ← mid_len] at ih
    refine ih.mono fun v hv => ?_
    rw [hv, decide_eq_decide]
    exact ⟨fun g => all_cons.mpr ⟨⟨h1, h2, h3, by omega⟩, g⟩, fun g => (all_cons.mp g).2⟩
theorem specRecs_ok (l : List DRecord) (h : l.length ≤ 1000) : Wp (fun k => spec_l7RecordsOk k l) (· = decide (VRecs l)) := recs_spec l [] (by simpa using h)
theorem par_spec (kk : ByteArray) (wd : Int) (es : List DEnd) (fo : ByteArray) (gi ta : List DRecord) (hg : gi.length ≤ 1000) (ht : ta.length ≤ 1000) : ∀ (t pre : List DParcel), (pre ++ t).length ≤ 1000 →
    Wp (fun k => spec_ValidWorld_l9 k (pre.length : Int) kk wd es (pre ++ t) fo gi ta) (· = decide (VPars t ∧ VRecs gi ∧ VRecs ta))
  | [], pre, hl => by
    refine Wp.step ?_
    simp only [spec_ValidWorld_l9, List.append_nil]
    simp (disch := omega) only [cbdec, if_neg]
    refine Wp.bind (specRecs_ok gi hg) (fun _ q => ?_); subst q
    simp only [cbdec]
    refine Wp.ite (fun h1 => ?_) (fun h1 => Wp.ret (decide_eq_false fun g => h1 g.2.1).symm)
    refine Wp.bind (specRecs_ok ta ht) (fun _ q => ?_); subst q
    refine Wp.ret ?_
    rw [decide_eq_decide]
    exact ⟨fun g => ⟨fun x hx => by simp at hx, h1, g⟩, fun g => g.2.2⟩
  | x :: t, pre, hl => by
    refine Wp.step ?_
    have hl' := hl
    simp only [List.length_append, List.length_cons] at hl
    simp only [spec_ValidWorld_l9]
    simp only [cbdec, lt_mid, if_true, idx_mid, Option.bind_some, cbnot]
    have F : ¬ VPar x → Wp (fun _ => some false) (· = decide (VPars (x :: t) ∧ VRecs gi ∧ VRecs ta)) := fun h => Wp.ret (decide_eq_false fun g => h (g.1 x (List.mem_cons_self ..))).symm
    refine Wp.bind (l1In_ok _ _ _) (fun _ q => ?_); subst q
    simp only [inB, cbdec]
    refine Wp.ite (fun h1 => ?_) (fun h1 => F fun g => h1 g.1)
    refine Wp.ite (fun h2 => F fun g => by have := g.2.1; omega) (fun h2 => ?_)
    refine Wp.ite (fun h3 => F fun g => by have := g.2.2; omega) (fun h3 => ?_)
    simp (disch := omega) only [w64']
    have ih := par_spec kk wd es fo gi ta hg ht t (pre ++ [x]) (by simpa using hl')
    rw [← mid_succ, ← mid_len] at ih
    refine ih.mono fun v hv => ?_
    rw [hv, decide_eq_decide]
    exact ⟨fun g => ⟨all_cons.mpr ⟨⟨h1, by omega, by omega⟩, g.1⟩, g.2⟩, fun g => ⟨(all_cons.mp g.1).2, g.2⟩⟩
theorem specValidWorld_ok (w : DWorld) (hb : w.Given.length ≤ 1048576 ∧ w.Taken.length ≤ 1048576) : Wp (fun k => spec_ValidWorld k w) (· = decide (VWorld w)) := by
  unfold spec_ValidWorld
  have F : ¬ VWorld w → Wp (fun _ => some false) (· = decide (VWorld w)) := fun h => Wp.ret (decide_eq_false h).symm
  refine Wp.bind (l1In_ok _ _ _) (fun _ q => ?_); subst q
  simp only [inB, cbdec, cbnot, cbne]
  refine Wp.ite (fun h1 => ?_) (fun h1 => F fun g => h1 g.1)
  refine Wp.ite (fun h2 => F fun g => by have := g.2.1; omega) (fun h2 => ?_)
  refine Wp.ite (fun h3 => ?_) (fun h3 => F fun g => by have := vends_len g.2.2.2.2.1; omega)
  refine Wp.ite (fun h4 => F fun g => by have := g.2.2.1; omega) (fun h4 => ?_)
  simp (disch := omega) only [w64']
  refine Wp.ite (fun h5 => F fun g => by have := g.2.2.2.1; omega) (fun h5 => ?_)
  obtain ⟨ky, wd, es, fl, fo, gi, ta⟩ := w
  match es, h3 with
  | [a, b], _ =>
    refine Wp.step ?_
    have e0 : idx [a, b] 0 = some a := rfl
    have e1 : idx [a, b] 1 = some b := rfl
    have w1 : IntKind.wrap .i64 (0 + 1) = 1 := w64' (by omega) (by omega)
    have w2 : IntKind.wrap .i64 (1 + 1) = 2 := w64' (by omega) (by omega)
    have d0 : (0 : Int) < 2 := by omega
    have d1 : (1 : Int) < 2 := by omega
    have d2 : ¬ (2 : Int) < 2 := by omega
    simp only [spec_ValidWorld_l4, e0, w1, cbdec, Option.bind_some, if_pos d0, cbne]
    refine Wp.bind (specValidEnd_ok _) (fun _ q => ?_); subst q
    simp only [cbdec, cbnot]
    refine Wp.ite (fun h6 => ?_) (fun h6 => F fun g => h6 g.2.2.2.2.1.1.1)
    refine Wp.ite (fun h7 => ?_) (fun h7 => F fun g => h7 g.2.2.2.2.1.1.2)
    refine Wp.step ?_
    simp only [spec_ValidWorld_l4, e1, w2, cbdec, Option.bind_some, if_pos d1, cbne]
    refine Wp.bind (specValidEnd_ok _) (fun _ q => ?_); subst q
    simp only [cbdec, cbnot]
    refine Wp.ite (fun h8 => ?_) (fun h8 => F fun g => h8 g.2.2.2.2.1.2.1)
    refine Wp.ite (fun h9 => ?_) (fun h9 => F fun g => h9 g.2.2.2.2.1.2.2)
    refine Wp.step ?_
    simp only [spec_ValidWorld_l4, cbdec, if_neg d2]
    simp only at h2 h4 h5 hb
    refine Wp.mono (par_spec ky wd [a, b] fo gi ta (by omega) (by omega) fl [] (by show fl.length ≤ 1000; omega)) fun v hv => ?_
    rw [hv, decide_eq_decide]
    exact ⟨fun g => ⟨h1, by simp only; omega, by simp only; omega, by simp only; omega, ⟨⟨h6, h7⟩, ⟨h8, h9⟩⟩, g⟩, fun g => g.2.2.2.2.2⟩
theorem recs_impl (n j : Int) (xx : List (List DRecord)) (R : Prop) [Decidable R] (hR : Wp (fun k => impl_ValidWorld_l16 k n (IntKind.wrap .i64 (j + 1)) xx) (· = decide R)) : ∀ (t pre : List DRecord), (pre ++ t).length ≤ 1000 →
    Wp (fun k => impl_ValidWorld_l19 k n j (pre ++ t) ((pre ++ t).length : Int) (pre.length : Int) xx) (· = decide (VRecs t ∧ R))
  | [], pre, hl => by
    refine Wp.step ?_
    simp only [impl_ValidWorld_l19, List.append_nil]
    simp (disch := omega) only [cbdec, if_neg]
    refine hR.mono fun v hv => ?_
    rw [hv, decide_eq_decide]
    exact ⟨fun g => ⟨fun x hx => by simp at hx, g⟩, fun g => g.2⟩
  | x :: t, pre, hl => by
    refine Wp.step ?_
    have hl' := hl
    simp only [List.length_append, List.length_cons] at hl
    simp only [impl_ValidWorld_l19]
    simp only [cbdec, lt_mid, if_true, idx_mid, Option.bind_some, cbnot, cbne]
    simp (disch := omega) only [w64']
    have F : ¬ VRec x → Wp (fun _ => some false) (· = decide (VRecs (x :: t) ∧ R)) := fun h => Wp.ret (decide_eq_false fun g => h (g.1 x (List.mem_cons_self ..))).symm
    have ih := recs_impl n j xx R hR t (pre ++ [x]) (by simpa using hl')
    rw [← mid_succ, ← mid_len] at ih
    have M : (1 ≤ x.From ∧ x.From ≤ 2) → Wp (fun k => (impl_in k x.A 1 1000).bind fun r8 =>
        bif r8 then (impl_in k x.B 1 1000).bind fun r9 => bif r9 then (if (x.Text.size : Int) > 200 then some false else impl_ValidWorld_l19 k n j (pre ++ x :: t) ((pre ++ x :: t).length : Int) ((pre.length : Int) + 1) xx) else some false else some false) (· = decide (VRecs (x :: t) ∧ R)) := fun h1 => by
      refine Wp.bind (in_ok _ _ _) (fun _ q => ?_); subst q
      simp only [inB, cbdec]
      refine Wp.ite (fun h2 => ?_) (fun h2 => F fun g => h2 g.2.1)
      refine Wp.bind (in_ok _ _ _) (fun _ q => ?_); subst q
      simp only [inB, cbdec]
      refine Wp.ite (fun h3 => ?_) (fun h3 => F fun g => h3 g.2.2.1)
      refine Wp.ite (fun h4 => F fun g => by have := g.2.2.2; omega) (fun h4 => ?_)
      refine ih.mono fun v hv => ?_
      rw [hv, decide_eq_decide]
      exact ⟨fun g => ⟨all_cons.mpr ⟨⟨h1, h2, h3, by omega⟩, g.1⟩, g.2⟩, fun g => ⟨(all_cons.mp g.1).2, g.2⟩⟩
    refine Wp.ite (fun h => M (by omega)) (fun h => ?_)
    exact Wp.ite (fun h2 => M (by omega)) (fun h2 => F fun g => by have := g.1; omega)
theorem recs_impl2 (gi ta : List DRecord) (hg : gi.length ≤ 1000) (ht : ta.length ≤ 1000) : Wp (fun k => impl_ValidWorld_l16 k (([gi, ta] : List (List DRecord)).length : Int) 0 [gi, ta]) (· = decide (VRecs gi ∧ VRecs ta)) := by
  have e0 : idx [gi, ta] 0 = some gi := rfl
  have e1 : idx [gi, ta] 1 = some ta := rfl
  have w1 : IntKind.wrap .i64 (0 + 1) = 1 := w64' (by omega) (by omega)
  have w2 : IntKind.wrap .i64 (1 + 1) = 2 := w64' (by omega) (by omega)
  have d0 : (0 : Int) < 2 := by omega
  have d1 : (1 : Int) < 2 := by omega
  have d2 : ¬ (2 : Int) < 2 := by omega
  have l2 : (([gi, ta] : List (List DRecord)).length : Int) = 2 := rfl
  rw [l2]
  have g0 : [gi, ta][Int.toNat 0]? = some gi := rfl
  have g1 : [gi, ta][Int.toNat 1]? = some ta := rfl
  refine Wp.step ?_
  simp only [impl_ValidWorld_l16, e0, g0, cbdec, if_pos d0, Option.bind_some]
  refine recs_impl 2 0 [gi, ta] (VRecs ta) ?_ gi [] (by simpa using hg)
  rw [w1]
  refine Wp.step ?_
  simp only [impl_ValidWorld_l16, e1, g1, cbdec, if_pos d1, Option.bind_some]
  refine (recs_impl 2 1 [gi, ta] True ?_ ta [] (by simpa using ht)).mono fun v hv => ?_
  · rw [w2]
    refine Wp.step ?_
    simp only [impl_ValidWorld_l16, cbdec, if_neg d2]
    exact Wp.ret rfl
  · rw [hv, decide_eq_decide]; exact ⟨fun g => g.1, fun g => ⟨g, trivial⟩⟩
theorem par_impl (kk : ByteArray) (wd : Int) (es : List DEnd) (ff : List DParcel) (fo : ByteArray) (gi ta : List DRecord) (hg : gi.length ≤ 1000) (ht : ta.length ≤ 1000) : ∀ (t pre : List DParcel), (pre ++ t).length ≤ 1000 →
    Wp (fun k => impl_ValidWorld_l10 k (pre ++ t) ((pre ++ t).length : Int) (pre.length : Int) kk wd es ff fo gi ta) (· = decide (VPars t ∧ VRecs gi ∧ VRecs ta))
  | [], pre, hl => by
    refine Wp.step ?_
    simp only [impl_ValidWorld_l10, List.append_nil]
    have hn : ¬ (pre.length : Int) < (pre.length : Int) := by omega
    simp only [cbdec, if_neg hn]
    refine (recs_impl2 gi ta hg ht).mono fun v hv => ?_
    rw [hv, decide_eq_decide]
    exact ⟨fun g => ⟨fun x hx => by simp at hx, g⟩, fun g => g.2⟩
  | x :: t, pre, hl => by
    refine Wp.step ?_
    have hl' := hl
    simp only [List.length_append, List.length_cons] at hl
    simp only [impl_ValidWorld_l10]
    simp only [cbdec, lt_mid, if_true, idx_mid, Option.bind_some, cbnot, cbne]
    simp (disch := omega) only [w64']
    have F : ¬ VPar x → Wp (fun _ => some false) (· = decide (VPars (x :: t) ∧ VRecs gi ∧ VRecs ta)) := fun h => Wp.ret (decide_eq_false fun g => h (g.1 x (List.mem_cons_self ..))).symm
    have ih := par_impl kk wd es ff fo gi ta hg ht t (pre ++ [x]) (by simpa using hl')
    rw [← mid_succ, ← mid_len] at ih
    have M : (1 ≤ x.To ∧ x.To ≤ 2) → Wp (fun k => if (x.Sent.size : Int) > 100 then some false else if (x.Bytes.size : Int) > 100 then some false else impl_ValidWorld_l10 k (pre ++ x :: t) ((pre ++ x :: t).length : Int) ((pre.length : Int) + 1) kk wd es ff fo gi ta) (· = decide (VPars (x :: t) ∧ VRecs gi ∧ VRecs ta)) := fun h1 => by
      refine Wp.ite (fun h2 => F fun g => by have := g.2.1; omega) (fun h2 => ?_)
      refine Wp.ite (fun h3 => F fun g => by have := g.2.2; omega) (fun h3 => ?_)
      refine ih.mono fun v hv => ?_
      rw [hv, decide_eq_decide]
      exact ⟨fun g => ⟨all_cons.mpr ⟨⟨h1, by omega, by omega⟩, g.1⟩, g.2⟩, fun g => ⟨(all_cons.mp g.1).2, g.2⟩⟩
    refine Wp.ite (fun h => M (by omega)) (fun h => ?_)
    exact Wp.ite (fun h2 => M (by omega)) (fun h2 => F fun g => by have := g.1; omega)
theorem implValidWorld_ok (w : DWorld) (hb : w.Given.length ≤ 1048576 ∧ w.Taken.length ≤ 1048576) : Wp (fun k => impl_ValidWorld k w) (· = decide (VWorld w)) := by
  unfold impl_ValidWorld
  have F : ¬ VWorld w → Wp (fun _ => some false) (· = decide (VWorld w)) := fun h => Wp.ret (decide_eq_false h).symm
  simp only [cbdec, cbnot, cbne]
  refine Wp.ite (fun h1 => F fun g => by have := g.1; omega) (fun h1 => ?_)
  refine Wp.ite (fun h1' => F fun g => by have := g.1; omega) (fun h1' => ?_)
  refine Wp.ite (fun h2 => F fun g => by have := g.2.1; omega) (fun h2 => ?_)
  refine Wp.ite (fun h3 => ?_) (fun h3 => F fun g => by have := vends_len g.2.2.2.2.1; omega)
  refine Wp.ite (fun h4 => F fun g => by have := g.2.2.1; omega) (fun h4 => ?_)
  simp (disch := omega) only [w64']
  refine Wp.ite (fun h5 => F fun g => by have := g.2.2.2.1; omega) (fun h5 => ?_)
  obtain ⟨ky, wd, es, fl, fo, gi, ta⟩ := w
  match es, h3 with
  | [a, b], _ =>
    refine Wp.step ?_
    have e0 : idx [a, b] 0 = some a := rfl
    have e1 : idx [a, b] 1 = some b := rfl
    have w1 : IntKind.wrap .i64 (0 + 1) = 1 := w64' (by omega) (by omega)
    have w2 : IntKind.wrap .i64 (1 + 1) = 2 := w64' (by omega) (by omega)
    have d0 : (0 : Int) < 2 := by omega
    have d1 : (1 : Int) < 2 := by omega
    have d2 : ¬ (2 : Int) < 2 := by omega
    have l2 : (([a, b] : List DEnd).length : Int) = 2 := rfl
    simp only [impl_ValidWorld_l4, e0, w1, cbdec, Option.bind_some, l2, if_pos d0, cbne]
    refine Wp.bind (implValidEnd_ok _) (fun _ q => ?_); subst q
    simp only [cbdec, cbnot]
    refine Wp.ite (fun h6 => ?_) (fun h6 => F fun g => h6 g.2.2.2.2.1.1.1)
    refine Wp.ite (fun h7 => ?_) (fun h7 => F fun g => h7 g.2.2.2.2.1.1.2)
    refine Wp.step ?_
    simp only [impl_ValidWorld_l4, e1, w2, cbdec, Option.bind_some, if_pos d1, cbne]
    refine Wp.bind (implValidEnd_ok _) (fun _ q => ?_); subst q
    simp only [cbdec, cbnot]
    refine Wp.ite (fun h8 => ?_) (fun h8 => F fun g => h8 g.2.2.2.2.1.2.1)
    refine Wp.ite (fun h9 => ?_) (fun h9 => F fun g => h9 g.2.2.2.2.1.2.2)
    refine Wp.step ?_
    simp only [impl_ValidWorld_l4, cbdec, if_neg d2]
    simp only at h1 h1' h2 h4 h5 hb
    refine Wp.mono (par_impl ky wd [a, b] fl fo gi ta (by omega) (by omega) fl [] (by show fl.length ≤ 1000; omega)) fun v hv => ?_
    rw [hv, decide_eq_decide]
    exact ⟨fun g => ⟨⟨by simp only; omega, by simp only; omega⟩, by simp only; omega, by simp only; omega, by simp only; omega, ⟨⟨h6, h7⟩, ⟨h8, h9⟩⟩, g⟩, fun g => g.2.2.2.2.2⟩
/-! ### Idle -/
def idleP (e f : DEnd) : Prop := e.Up = true ∧ e.Peer = f.Life ∧ e.Send.Items.length = 0 ∧ e.Take.Held.length = 0 ∧ e.Take.Open = noB ∧ e.Take.Ready.length = 0
instance (e f : DEnd) : Decidable (idleP e f) := by unfold idleP; infer_instance
def idleL : List DEnd → Prop
  | [a, b] => idleP a b ∧ idleP b a
  | _ => False
instance : (l : List DEnd) → Decidable (idleL l)
  | [a, b] => by unfold idleL; infer_instance
  | [] => .isFalse id
  | [_] => .isFalse id
  | _ :: _ :: _ :: _ => .isFalse id
def Idles (w : DWorld) : Prop := VWorld w ∧ idleL w.Ends
instance (w : DWorld) : Decidable (Idles w) := by unfold Idles; infer_instance
end Km.X
namespace Km.X
open Go Km
set_option linter.unusedVariables false
set_option linter.unusedSimpArgs false
/-! ### TakePart -/
end Km.X
