/- A part of the proof of FnExactNewWorld: plain laws of these functions. There is no condition. -/
import Derived.Test.YthafpbpfnkncmaaKmAm3
import Derived.Test.YthafpbpfnkncmaaKxDef1
import Derived.Test.YthafpbpfnkncmaaKxDef2
namespace Km.X
open Go Km
set_option linter.unusedVariables false
set_option linter.unusedSimpArgs false
def smL {α : Type} (p : α → Prop) (l : List α) : Prop := l.length ≤ 1048576 ∧ ∀ y ∈ l, p y
def smPart (x : DPart) : Prop := x.Text.size ≤ 1048576
def smItem (x : DItem) : Prop := smPart x.Part
def smHeld (x : DHeld) : Prop := smPart x.Part
def smSend (x : DSend) : Prop := smL smItem x.Items
def smTake (x : DTake) : Prop := smL smHeld x.Held ∧ x.Open.size ≤ 1048576 ∧ smL (fun s : ByteArray => s.size ≤ 1048576) x.Ready
theorem eqPart_ok (x : DPart) (h : smPart x) : Wp (fun k => laws_eqPart k x x) (· = true) := by
  unfold laws_eqPart
  unfold smPart at h
  have h0 := h
  simp only [w64', cbdec, cbnot, cbeq, cbne, cbseq, cbbeq, cond_true, cond_false, Option.bind_some, Bool.not_true, Bool.not_false, if_true, if_false]
  exact Wp.ret rfl
theorem eqItem_ok (x : DItem) (h : smItem x) : Wp (fun k => laws_eqItem k x x) (· = true) := by
  unfold laws_eqItem
  unfold smItem at h
  have h0 := h
  simp only [w64', cbdec, cbnot, cbeq, cbne, cbseq, cbbeq, cond_true, cond_false, Option.bind_some, Bool.not_true, Bool.not_false, if_true, if_false]
  refine Wp.bind (eqPart_ok _ h0) (fun _ e => ?_); subst e
  simp only [w64', cbdec, cbnot, cbeq, cbne, cbseq, cbbeq, cond_true, cond_false, Option.bind_some, Bool.not_true, Bool.not_false, if_true, if_false]
  exact Wp.ret rfl
theorem eqHeld_ok (x : DHeld) (h : smHeld x) : Wp (fun k => laws_eqHeld k x x) (· = true) := by
  unfold laws_eqHeld
  unfold smHeld at h
  have h0 := h
  simp only [w64', cbdec, cbnot, cbeq, cbne, cbseq, cbbeq, cond_true, cond_false, Option.bind_some, Bool.not_true, Bool.not_false, if_true, if_false]
  refine Wp.bind (eqPart_ok _ h0) (fun _ e => ?_); subst e
  simp only [w64', cbdec, cbnot, cbeq, cbne, cbseq, cbbeq, cond_true, cond_false, Option.bind_some, Bool.not_true, Bool.not_false, if_true, if_false]
  exact Wp.ret rfl
theorem eqItemS_ok (xs : List DItem) (h : smL smItem xs) : Wp (fun k => laws_eqItemS k xs xs) (· = true) := by
  unfold laws_eqItemS
  obtain ⟨hl, hp⟩ := h
  simp only [cbne, if_true]
  refine Wp.loop (n := xs.length) (f := fun k i (_ : Unit) => laws_eqItemS_l4 k xs xs (i : Int)) (Inv := fun _ _ => True) (Q := (· = true)) ?_ ?_ xs.length 0 () (by omega) trivial
  · rintro i _ hi _ ih
    refine Wp.step ?_
    simp only [laws_eqItemS_l4]
    simp (disch := omega) only [cbdec, if_pos, idxN, Option.bind_some, w64', castS]
    refine Wp.bind (eqItem_ok _ (hp _ (List.getElem_mem hi))) (fun _ e => ?_); subst e
    simp only [w64', cbdec, cbnot, cbeq, cbne, cbseq, cbbeq, cond_true, cond_false, Option.bind_some, Bool.not_true, Bool.not_false, if_true, if_false]
    exact ih () trivial
  · rintro _ _
    refine Wp.step ?_
    simp only [laws_eqItemS_l4]
    simp (disch := omega) only [cbdec, if_neg]
    exact Wp.ret rfl
theorem eqHeldS_ok (xs : List DHeld) (h : smL smHeld xs) : Wp (fun k => laws_eqHeldS k xs xs) (· = true) := by
  unfold laws_eqHeldS
  obtain ⟨hl, hp⟩ := h
  simp only [cbne, if_true]
  refine Wp.loop (n := xs.length) (f := fun k i (_ : Unit) => laws_eqHeldS_l4 k xs xs (i : Int)) (Inv := fun _ _ => True) (Q := (· = true)) ?_ ?_ xs.length 0 () (by omega) trivial
  · rintro i _ hi _ ih
    refine Wp.step ?_
    simp only [laws_eqHeldS_l4]
    simp (disch := omega) only [cbdec, if_pos, idxN, Option.bind_some, w64', castS]
    refine Wp.bind (eqHeld_ok _ (hp _ (List.getElem_mem hi))) (fun _ e => ?_); subst e
    simp only [w64', cbdec, cbnot, cbeq, cbne, cbseq, cbbeq, cond_true, cond_false, Option.bind_some, Bool.not_true, Bool.not_false, if_true, if_false]
    exact ih () trivial
  · rintro _ _
    refine Wp.step ?_
    simp only [laws_eqHeldS_l4]
    simp (disch := omega) only [cbdec, if_neg]
    exact Wp.ret rfl
theorem eqStringS_ok (xs : List ByteArray) (h : smL (fun s : ByteArray => s.size ≤ 1048576) xs) : Wp (fun k => laws_eqStringS k xs xs) (· = true) := by
  unfold laws_eqStringS
  obtain ⟨hl, hp⟩ := h
  simp only [cbne, if_true]
  refine Wp.loop (n := xs.length) (f := fun k i (_ : Unit) => laws_eqStringS_l4 k xs xs (i : Int)) (Inv := fun _ _ => True) (Q := (· = true)) ?_ ?_ xs.length 0 () (by omega) trivial
  · rintro i _ hi _ ih
    refine Wp.step ?_
    simp only [laws_eqStringS_l4]
    simp (disch := omega) only [cbdec, if_pos, idxN, Option.bind_some, w64', castS]
    simp only [w64', cbdec, cbnot, cbeq, cbne, cbseq, cbbeq, cond_true, cond_false, Option.bind_some, Bool.not_true, Bool.not_false, if_true, if_false]
    exact ih () trivial
  · rintro _ _
    refine Wp.step ?_
    simp only [laws_eqStringS_l4]
    simp (disch := omega) only [cbdec, if_neg]
    exact Wp.ret rfl
theorem eqSend_ok (x : DSend) (h : smSend x) : Wp (fun k => laws_eqSend k x x) (· = true) := by
  unfold laws_eqSend
  unfold smSend at h
  have h0 := h
  simp only [w64', cbdec, cbnot, cbeq, cbne, cbseq, cbbeq, cond_true, cond_false, Option.bind_some, Bool.not_true, Bool.not_false, if_true, if_false]
  refine Wp.bind (eqItemS_ok _ h0) (fun _ e => ?_); subst e
  simp only [w64', cbdec, cbnot, cbeq, cbne, cbseq, cbbeq, cond_true, cond_false, Option.bind_some, Bool.not_true, Bool.not_false, if_true, if_false]
  exact Wp.ret rfl
theorem eqTake_ok (x : DTake) (h : smTake x) : Wp (fun k => laws_eqTake k x x) (· = true) := by
  unfold laws_eqTake
  unfold smTake at h
  obtain ⟨h0, h1, h2⟩ := h
  simp only [w64', cbdec, cbnot, cbeq, cbne, cbseq, cbbeq, cond_true, cond_false, Option.bind_some, Bool.not_true, Bool.not_false, if_true, if_false]
  refine Wp.bind (eqHeldS_ok _ h0) (fun _ e => ?_); subst e
  simp only [w64', cbdec, cbnot, cbeq, cbne, cbseq, cbbeq, cond_true, cond_false, Option.bind_some, Bool.not_true, Bool.not_false, if_true, if_false]
  refine Wp.bind (eqStringS_ok _ h2) (fun _ e => ?_); subst e
  simp only [w64', cbdec, cbnot, cbeq, cbne, cbseq, cbbeq, cond_true, cond_false, Option.bind_some, Bool.not_true, Bool.not_false, if_true, if_false]
  exact Wp.ret rfl
end Km.X
namespace Km.X
open Go Km
set_option linter.unusedVariables false
set_option linter.unusedSimpArgs false
end Km.X
namespace Km.X
open Go Km
set_option linter.unusedVariables false
set_option linter.unusedSimpArgs false
abbrev noB : ByteArray := ⟨#[]⟩
theorem noB_size : noB.size = 0 := rfl
/-- the w lowest bytes, the highest first -/
def bytesL : Nat → Nat → List Int
  | 0, _ => []
  | w + 1, n => bytesL w (n / 256) ++ [((n % 256 : Nat) : Int)]
theorem bytesL_length : ∀ (w n : Nat), (bytesL w n).length = w
  | 0, _ => rfl
  | w + 1, n => by simp [bytesL, bytesL_length w]
def hstep (v : Int) (c : UInt8) : Int := IntKind.wrap .u64 ((bitsXor .u64 v (IntKind.wrap .u64 (c.toNat : Int))) * 1099511628211)
def hashL (l : List UInt8) : Int := l.foldl hstep 14695981039346656037
theorem l1In_ok (a b c : Int) : Wp (fun k => spec_l1In k a b c) (· = (decide (b ≤ a) && decide (a ≤ c))) := by
  unfold spec_l1In
  refine Wp.dec (fun h => Wp.ret ?_) (fun h => Wp.ret ?_)
  · rw [decide_eq_true (show b ≤ a by omega)]; rfl
  · rw [decide_eq_false (show ¬ b ≤ a by omega)]; rfl
theorem inB {a b c : Int} : (decide (b ≤ a) && decide (a ≤ c)) = decide (b ≤ a ∧ a ≤ c) := by rw [Bool.decide_and]

/-- the tag -/
def tagM (a b : ByteArray) (w : Int) : ByteArray := if w < 1 ∨ 8 < w ∨ 30 < b.size then noB else bstr (bytesL w.toNat (hashL (b ++ ⟨#[0]⟩ ++ a).data.toList).toNat)
theorem tagM_size (a b : ByteArray) (w : Int) : (tagM a b w).size ≤ 8 := by
  unfold tagM
  split
  · simp [noB_size]
  · rw [bstr_size, bytesL_length]; omega
end Km.X
namespace Km.X
open Go Km
set_option linter.unusedVariables false
set_option linter.unusedSimpArgs false
/-! ### Send -/
def OkItem (i : Nat) (x : DItem) : Prop := x.Part.Text.size ≤ 20 ∧ (-1 ≤ x.Since ∧ x.Since ≤ 3) ∧ (8 ≤ i → x.Since = -1) ∧ (x.Has = true → 0 ≤ x.Since)
def OkItems : Nat → List DItem → Prop
  | _, [] => True
  | i, x :: t => OkItem i x ∧ OkItems (i + 1) t
instance (i : Nat) (x : DItem) : Decidable (OkItem i x) := by unfold OkItem; infer_instance
instance decOkItems : (i : Nat) → (l : List DItem) → Decidable (OkItems i l)
  | _, [] => .isTrue trivial
  | i, x :: t => by
    have := decOkItems (i + 1) t
    unfold OkItems; infer_instance
def VSend (s : DSend) : Prop := s.Items.length ≤ 60 ∧ (0 ≤ s.Base ∧ s.Base ≤ 1000000) ∧ s.Base + s.Items.length ≤ 1000000 ∧ OkItems 0 s.Items
instance (s : DSend) : Decidable (VSend s) := by unfold VSend; infer_instance
theorem validSend_loop (b : Int) : ∀ (t pre : List DItem), (pre ++ t).length ≤ 60 → Wp (fun k => spec_ValidSend_l4 k (pre.length : Int) b (pre ++ t)) (· = decide (OkItems pre.length t))
  | [], pre, hl => by
    refine Wp.step ?_
    simp only [spec_ValidSend_l4, List.append_nil]
    simp (disch := omega) only [cbdec, if_neg]
    exact Wp.ret rfl
  | x :: t, pre, hl => by
    refine Wp.step ?_
    have hl' := hl
    simp only [List.length_append, List.length_cons] at hl
    simp only [spec_ValidSend_l4, OkItems]
    simp (disch := omega) only [cbdec, lt_mid, if_true, idx_mid, Option.bind_some, w64', cbnot, cbne]
    have F : ¬ OkItem pre.length x → Wp (fun _ => some false) (· = decide (OkItem pre.length x ∧ OkItems (pre.length + 1) t)) := fun h => Wp.ret (decide_eq_false fun h' => h h'.1).symm
    have ih := validSend_loop b t (pre ++ [x]) (by simpa using hl')
    rw [← mid_succ, ← mid_len, List.length_append, List.length_singleton] at ih
    have G : OkItem pre.length x → Wp (fun k => spec_ValidSend_l4 k ((pre.length : Int) + 1) b (pre ++ x :: t)) (· = decide (OkItem pre.length x ∧ OkItems (pre.length + 1) t)) := fun h => by
      refine Wp.mono ih fun r hr => ?_
      rw [hr, decide_eq_decide]
      exact ⟨fun g => ⟨h, g⟩, fun g => g.2⟩
    refine Wp.ite (fun h => F fun h' => by have := h'.1; omega) (fun h1 => ?_)
    refine Wp.bind (l1In_ok _ _ _) (fun _ e => ?_); subst e
    simp only [inB, cbdec]
    refine Wp.ite (fun h2 => ?_) (fun h2 => F fun h' => h2 h'.2.1)
    refine Wp.ite (fun h3 => ?_) (fun h3 => ?_)
    · refine Wp.ite (fun h4 => ?_) (fun h4 => F fun h' => h4 (h'.2.2.1 (by omega)))
      refine Wp.bif (fun h5 => ?_) (fun h5 => ?_)
      · refine Wp.ite (fun h6 => F fun h' => by have := h'.2.2.2 h5; omega) (fun h6 => by omega)
      · exact G ⟨by omega, h2, fun _ => h4, fun h => by rw [h5] at h; cases h⟩
    · refine Wp.bif (fun h5 => ?_) (fun h5 => ?_)
      · refine Wp.ite (fun h6 => F fun h' => by have := h'.2.2.2 h5; omega) (fun h6 => ?_)
        exact G ⟨by omega, h2, fun h => by omega, fun _ => by omega⟩
      · exact G ⟨by omega, h2, fun h => by omega, fun h => by rw [h5] at h; cases h⟩
theorem specValidSend_ok (s : DSend) : Wp (fun k => spec_ValidSend k s) (· = decide (VSend s)) := by
  unfold spec_ValidSend
  simp only [cbdec, cbnot]
  have F : ¬ VSend s → Wp (fun _ => some false) (· = decide (VSend s)) := fun h => Wp.ret (decide_eq_false h).symm
  refine Wp.ite (fun h => F fun h' => by have := h'.1; omega) (fun h1 => ?_)
  refine Wp.bind (l1In_ok _ _ _) (fun _ e => ?_); subst e
  simp only [inB, cbdec]
  refine Wp.ite (fun h2 => ?_) (fun h2 => F fun h' => h2 h'.2.1)
  rw [w64' (by omega) (by omega)]
  refine Wp.ite (fun h3 => F fun h' => by have := h'.2.2.1; omega) (fun h3 => ?_)
  refine Wp.mono (validSend_loop s.Base s.Items [] (by simp; omega)) fun r hr => ?_
  rw [hr, decide_eq_decide]
  exact ⟨fun h => ⟨by omega, h2, by omega, h⟩, fun h => h.2.2.2⟩
theorem l4Copy_ok (s : DSend) (h : s.Items.length ≤ 1048576) : Wp (fun k => spec_l4Copy k s) (· = s) := by
  unfold spec_l4Copy
  refine Wp.opt (app_ok (by simp; omega)) ?_
  exact Wp.ret (by rw [List.nil_append])
abbrev noSend : DSend := ⟨0, []⟩

/-! ### SendTick -/
def tickI (x : DItem) : DItem := if x.Has = true then x else if x.Since = -1 then ⟨x.Part, x.Has, 0⟩ else if x.Since = 3 then ⟨x.Part, x.Has, 0⟩ else ⟨x.Part, x.Has, x.Since + 1⟩
def sendsI (x : DItem) : Prop := ¬ x.Has = true ∧ (x.Since = -1 ∨ x.Since = 3)
instance (x : DItem) : Decidable (sendsI x) := by unfold sendsI; infer_instance
def tickL : Nat → Int → List DItem → List DItem × List Int
  | _, _, [] => ([], [])
  | i, b, x :: t => if 8 ≤ i then (x :: t, []) else (tickI x :: (tickL (i + 1) b t).1, (if sendsI x then [b + i] else []) ++ (tickL (i + 1) b t).2)
def tickM (s : DSend) : DSend × List Int := if VSend s then (⟨s.Base, (tickL 0 s.Base s.Items).1⟩, (tickL 0 s.Base s.Items).2) else (noSend, [])
theorem tick_specL (b : Int) (xs ys : List DItem) (c d : Int) (hb : 0 ≤ b ∧ b ≤ 1000000) : ∀ (t pre : List DItem) (sent : List Int), (pre ++ t).length ≤ 60 → sent.length ≤ pre.length → OkItems pre.length t →
    Wp (fun k => spec_SendTick_l6 k (pre.length : Int) b xs c sent d ys (pre ++ t)) (· = (⟨d, pre ++ (tickL pre.length b t).1⟩, sent ++ (tickL pre.length b t).2))
  | [], pre, sent, hl, hs, hok => by
    refine Wp.step ?_
    simp only [spec_SendTick_l6, List.append_nil]
    simp (disch := omega) only [cbdec, if_neg]
    exact Wp.ret (by simp [tickL])
  | x :: t, pre, sent, hl, hs, hok => by
    refine Wp.step ?_
    have hl' := hl
    simp only [List.length_append, List.length_cons] at hl
    simp only [spec_SendTick_l6]
    simp only [cbdec, lt_mid, if_true, idx_mid, get_mid, Option.bind_some, cbeq, set_mid]
    simp (disch := omega) only [w64']
    refine Wp.ite (fun h8 => ?_) (fun h8 => ?_)
    · have ih := fun y sent' hs' => tick_specL b xs ys c d hb t (pre ++ [y]) sent' (by simpa using hl') hs' (by rw [List.length_append, List.length_singleton]; exact hok.2)
      have ih' : ∀ (y : DItem) (sent' : List Int), sent'.length ≤ pre.length + 1 → tickI x = y → sent' = sent ++ (if sendsI x then [b + (pre.length : Int)] else []) →
          Wp (fun k => spec_SendTick_l7 k (pre.length : Int) b xs c sent' d ys (pre ++ y :: t)) (· = (⟨d, pre ++ (tickL pre.length b (x :: t)).1⟩, sent ++ (tickL pre.length b (x :: t)).2)) := by
        intro y sent' hs' hy hs2
        refine Wp.step ?_
        simp only [spec_SendTick_l7]
        have := ih y sent' (by simpa using hs')
        rw [← mid_succ, ← mid_len, List.length_append, List.length_singleton] at this
        rw [w64' (by omega) (by omega)]
        refine this.mono fun r hr => ?_
        rw [hr]
        simp only [tickL]
        rw [if_neg (by omega), hs2, hy]
        simp
      refine Wp.bif (fun hh => ih' x sent (by omega) (by simp [tickI, hh]) (by simp [sendsI, hh])) (fun hh => ?_)
      have hx := hok.1
      refine Wp.ite (fun h1 => ?_) (fun h1 => ?_)
      · refine Wp.opt (app_ok (by simp; omega)) ?_
        exact ih' _ _ (by simp; omega) (by simp [tickI, hh, h1]) (by simp [sendsI, hh, h1])
      refine Wp.ite (fun h2 => ?_) (fun h2 => ?_)
      · refine Wp.opt (app_ok (by simp; omega)) ?_
        exact ih' _ _ (by simp; omega) (by simp [tickI, hh, h2]) (by simp [sendsI, hh, h2])
      · have := hx.2.1
        rw [w64' (by omega) (by omega)]
        exact ih' _ _ (by omega) (by simp [tickI, hh, h1, h2]) (by simp [sendsI, hh, h1, h2])
    · refine Wp.ret ?_
      simp only [tickL]
      rw [if_pos (by omega)]; simp
theorem specTick_ok (s : DSend) : Wp (fun k => spec_SendTick k s) (· = tickM s) := by
  unfold spec_SendTick tickM
  refine Wp.bind (specValidSend_ok s) (fun _ e => ?_); subst e
  simp only [cbnot, cbdec]
  refine Wp.ite (fun h => ?_) (fun h => Wp.ret (by rw [if_neg h]))
  rw [if_pos h]
  refine Wp.bind (l4Copy_ok s (by have := h.1; omega)) (fun _ e => ?_); subst e
  exact tick_specL _ _ _ _ _ h.2.1 _ [] [] (by simpa using h.1) (by simp) h.2.2.2
end Km.X
namespace Km.X
open Go Km
set_option linter.unusedVariables false
set_option linter.unusedSimpArgs false
/-! ### marks of composite values -/
/-! ### a tick keeps it valid -/
theorem noSend_V : VSend noSend := ⟨by simp, by simp, by simp, trivial⟩
theorem okItems_mem : ∀ {l : List DItem} {i : Nat}, OkItems i l → ∀ x ∈ l, x.Part.Text.size ≤ 20
  | [], _, _, x, h => by simp at h
  | y :: t, i, ⟨h1, h2⟩, x, h => by
    rcases List.mem_cons.mp h with rfl | h
    · exact h1.1
    · exact okItems_mem h2 x h
theorem VSend.sm {s : DSend} (h : VSend s) : smSend s := by
  unfold smSend smL
  refine ⟨by have := h.1; omega, fun x hx => ?_⟩
  have := okItems_mem h.2.2.2 x hx
  show x.Part.Text.size ≤ 1048576
  omega
theorem tickI_part (x : DItem) : (tickI x).Part = x.Part := by unfold tickI; repeat' split <;> try rfl
theorem tickL_ok : ∀ (t : List DItem) (i : Nat) (b : Int), OkItems i t → OkItems i (tickL i b t).1 ∧ (tickL i b t).1.length = t.length ∧ (tickL i b t).2.length ≤ t.length
  | [], i, b, h => ⟨trivial, rfl, by simp [tickL]⟩
  | x :: t, i, b, ⟨h1, h2⟩ => by
    simp only [tickL]
    split
    · exact ⟨⟨h1, h2⟩, rfl, by simp⟩
    · have := tickL_ok t (i + 1) b h2
      refine ⟨⟨?_, this.1⟩, by simp [this.2.1], ?_⟩
      · obtain ⟨a1, a2, a3, a4⟩ := h1
        refine ⟨by rw [tickI_part]; exact a1, ?_, fun _ => by omega, ?_⟩
        · unfold tickI; split
          · exact a2
          · split
            · simp
            · split
              · simp
              · simp only; omega
        · unfold tickI; split
          · exact a4
          · rename_i hh
            split
            · intro h; exact absurd h hh
            · split <;> (intro h; exact absurd h hh)
      · have h3 := this.2.2
        simp only [List.length_append, List.length_cons]
        split <;> simp <;> omega
theorem tickM_ok (s : DSend) : VSend (tickM s).1 ∧ (tickM s).2.length ≤ 60 := by
  unfold tickM
  split
  · rename_i h
    have := tickL_ok s.Items 0 s.Base h.2.2.2
    refine ⟨⟨by simp only; rw [this.2.1]; exact h.1, h.2.1, by simp only; rw [this.2.1]; exact h.2.2.1, this.1⟩, by have := h.1; simp only; omega⟩
  · exact ⟨noSend_V, by simp⟩
end Km.X
namespace Km.X
open Go Km
set_option linter.unusedVariables false
set_option linter.unusedSimpArgs false
/-! ### Cut -/
def cutL : Nat → ByteArray → List DPart
  | 0, _ => []
  | n + 1, s => if 20 < s.size then ⟨s.extract 0 20, false⟩ :: cutL n (s.extract 20 s.size) else [⟨s, true⟩]
theorem cut_spec : ∀ (n : Nat) (s : ByteArray) (acc : List DPart), s.size ≤ 20 * n → acc.length + n ≤ 100 → 0 < n → Wp (fun k => spec_Cut_l4 k s acc) (· = acc ++ cutL n s)
  | 0, s, acc, h, hl, h0 => by omega
  | n + 1, s, acc, h, hl, h0 => by
    refine Wp.step ?_
    simp only [spec_Cut_l4, cutL]
    simp only [cbdec]
    refine Wp.ite (fun h1 => ?_) (fun h1 => ?_)
    · have h1' : 20 < s.size := by omega
      rw [if_pos h1']
      refine Wp.opt (wnd_ok (by omega)) ?_
      refine Wp.opt (app_ok (by simp; omega)) ?_
      refine Wp.opt (wnd_ok (by omega)) ?_
      have := cut_spec n (s.extract 20 s.size) (acc ++ [⟨s.extract 0 20, false⟩]) (by rw [ByteArray.size_extract]; omega) (by simp; omega) (by omega)
      simp only [List.append_assoc, List.cons_append, List.nil_append] at this
      exact this
    · rw [if_neg (by omega)]
      refine Wp.opt (app_ok (by simp; omega)) ?_
      exact Wp.ret rfl
def cutM (s : ByteArray) : List DPart := if 200 < s.size then [] else cutL 10 s
theorem specCut_ok (s : ByteArray) : Wp (fun k => spec_Cut k s) (· = cutM s) := by
  unfold spec_Cut cutM
  simp only [cbdec]
  refine Wp.ite (fun h => ?_) (fun h => ?_)
  · rw [if_pos (by omega)]; exact Wp.ret rfl
  · rw [if_neg (by omega)]; exact cut_spec 10 s [] (by omega) (by simp) (by omega)
theorem cutL_ok : ∀ (n : Nat) (s : ByteArray), s.size ≤ 20 * n → (cutL n s).length ≤ n ∧ ∀ p ∈ cutL n s, p.Text.size ≤ 20
  | 0, s, h => ⟨by simp [cutL], fun p hp => by simp [cutL] at hp⟩
  | n + 1, s, h => by
    simp only [cutL]
    split
    · have := cutL_ok n (s.extract 20 s.size) (by rw [ByteArray.size_extract]; omega)
      refine ⟨by simp [this.1], fun p hp => ?_⟩
      rcases List.mem_cons.mp hp with rfl | hp
      · simp only [ByteArray.size_extract]; omega
      · exact this.2 p hp
    · refine ⟨by simp, fun p hp => ?_⟩
      simp only [List.mem_singleton] at hp
      subst hp; simp only; omega
theorem cutM_ok (s : ByteArray) : (cutM s).length ≤ 10 ∧ ∀ p ∈ cutM s, p.Text.size ≤ 20 := by
  unfold cutM
  split
  · exact ⟨by simp, fun p hp => by simp at hp⟩
  · exact cutL_ok 10 s (by omega)
/-! ### SendPush -/
def newI (p : DPart) : DItem := ⟨p, false, -1⟩
def pushM (s : DSend) (t : ByteArray) : DSend × Int :=
  if VSend s ∧ t.size ≤ 200 then
    if s.Items.length + (cutM t).length ≤ 60 ∧ s.Base + (s.Items.length + (cutM t).length : Nat) ≤ 1000000 then (⟨s.Base, s.Items ++ (cutM t).map newI⟩, 0) else (noSend, 3)
  else (noSend, 1)
theorem push_spec (c b : Int) (e : List DItem) : ∀ (t pre : List DPart) (acc : List DItem), (pre ++ t).length ≤ 100 → acc.length + t.length ≤ 1000 →
    Wp (fun k => spec_SendPush_l9 k (pre.length : Int) c (pre ++ t) b e acc) (· = (⟨b, acc ++ t.map newI⟩, 0))
  | [], pre, acc, hl, ha => by
    refine Wp.step ?_
    simp only [spec_SendPush_l9, List.append_nil]
    simp (disch := omega) only [cbdec, if_neg]
    exact Wp.ret (by simp)
  | x :: t, pre, acc, hl, ha => by
    refine Wp.step ?_
    have hl' := hl
    simp only [List.length_append, List.length_cons] at hl ha
    simp only [spec_SendPush_l9]
    simp only [cbdec, lt_mid, if_true, idx_mid, get_mid, Option.bind_some]
    refine Wp.opt (app_ok (by simp; omega)) ?_
    simp (disch := omega) only [w64']
    have ih := push_spec c b e t (pre ++ [x]) (acc ++ [newI x]) (by simpa using hl') (by simp; omega)
    rw [← mid_succ, ← mid_len] at ih
    simp only [List.append_assoc, List.cons_append, List.nil_append] at ih
    exact ih
theorem specPush_ok (s : DSend) (t : ByteArray) : Wp (fun k => spec_SendPush k s t) (· = pushM s t) := by
  unfold spec_SendPush pushM
  refine Wp.bind (specValidSend_ok s) (fun _ e => ?_); subst e
  simp only [cbnot, cbdec]
  refine Wp.ite (fun h => ?_) (fun h => Wp.ret (by rw [if_neg (fun g => h g.1)]))
  refine Wp.ite (fun h2 => Wp.ret (by rw [if_neg (fun g => by omega)])) (fun h2 => ?_)
  rw [if_pos ⟨h, by omega⟩]
  refine Wp.bind (specCut_ok t) (fun _ e => ?_); subst e
  have := h.1; have hb := h.2.1; have hc := (cutM_ok t).1
  simp (disch := omega) only [w64']
  refine Wp.ite (fun h3 => Wp.ret (by rw [if_neg (fun g => by omega)])) (fun h3 => ?_)
  refine Wp.ite (fun h4 => Wp.ret (by rw [if_neg (fun g => by omega)])) (fun h4 => ?_)
  rw [if_pos ⟨by omega, by omega⟩]
  refine Wp.bind (l4Copy_ok s (by omega)) (fun _ e => ?_); subst e
  exact push_spec _ _ _ (cutM t) [] _ (by simp; omega) (by omega)
theorem okItems_app : ∀ {l r : List DItem} {i : Nat}, OkItems i l → OkItems (i + l.length) r → OkItems i (l ++ r)
  | [], r, i, _, h => by simpa using h
  | x :: l, r, i, ⟨h1, h2⟩, h => ⟨h1, okItems_app h2 (by rwa [show i + 1 + l.length = i + (x :: l).length by simp; omega])⟩
theorem okItems_new : ∀ {l : List DPart} {i : Nat}, (∀ p ∈ l, p.Text.size ≤ 20) → OkItems i (l.map newI)
  | [], i, h => trivial
  | p :: l, i, h => ⟨⟨h p (List.mem_cons_self ..), by simp [newI], fun _ => rfl, fun h => by simp [newI] at h⟩, okItems_new fun q hq => h q (List.mem_cons_of_mem _ hq)⟩
theorem pushM_ok (s : DSend) (t : ByteArray) : VSend (pushM s t).1 := by
  unfold pushM
  split
  · rename_i h
    split
    · rename_i h2
      refine ⟨by simp only [List.length_append, List.length_map]; omega, h.1.2.1, ?_, okItems_app h.1.2.2.2 (okItems_new (cutM_ok t).2)⟩
      simp only [List.length_append, List.length_map]
      exact h2.2
    · exact noSend_V
  · exact noSend_V
/-! ### SendWord -/
def frontL : List DItem → Nat
  | [] => 0
  | x :: t => if 0 ≤ x.Since then frontL t + 1 else 0
theorem frontL_le : ∀ l : List DItem, frontL l ≤ l.length
  | [] => Nat.le_refl _
  | x :: t => by have := frontL_le t; simp only [frontL, List.length_cons]; split <;> omega
def hasL : Nat → Nat → List DItem → List DItem
  | _, _, [] => []
  | i, m, x :: t => (if i < 8 ∧ m % 2 = 1 ∧ 0 ≤ x.Since then ⟨x.Part, true, x.Since⟩ else x) :: hasL (i + 1) (m / 2) t
theorem hasL_ge : ∀ (i m : Nat) (l : List DItem), 8 ≤ i → hasL i m l = l
  | i, m, [], h => rfl
  | i, m, x :: t, h => by simp only [hasL]; rw [if_neg (by omega), hasL_ge (i + 1) _ t (by omega)]
def wordM (s : DSend) (n m : Int) : DSend :=
  if VSend s then
    if s.Base ≤ n ∧ n ≤ s.Base + frontL s.Items ∧ 0 ≤ m ∧ m ≤ 255 then ⟨n, hasL 0 m.toNat (s.Items.drop (n - s.Base).toNat)⟩ else s
  else noSend
theorem front_spec (b : Int) : ∀ (t pre : List DItem), (pre ++ t).length ≤ 1000 → Wp (fun k => spec_l4Front_l2 k (pre.length : Int) b (pre ++ t)) (· = ((pre.length + frontL t : Nat) : Int))
  | [], pre, hl => by
    refine Wp.step ?_
    simp only [spec_l4Front_l2, List.append_nil]
    simp (disch := omega) only [cbdec, if_neg]
    exact Wp.ret rfl
  | x :: t, pre, hl => by
    refine Wp.step ?_
    have hl' := hl
    simp only [List.length_append, List.length_cons] at hl
    simp only [spec_l4Front_l2]
    simp only [cbdec, lt_mid, if_true, idx_mid, get_mid, Option.bind_some]
    simp only [frontL]
    refine Wp.ite (fun h => ?_) (fun h => ?_)
    · rw [if_pos (by omega)]
      simp (disch := omega) only [w64']
      have ih := front_spec b t (pre ++ [x]) (by simpa using hl')
      rw [← mid_succ, ← mid_len] at ih
      refine ih.mono fun r hr => ?_
      rw [hr, List.length_append, List.length_singleton]; omega
    · rw [if_neg (by omega)]; exact Wp.ret rfl
theorem qrem2 (m : Nat) : qrem (m : Int) 2 = some ((m % 2 : Nat) : Int) := by rw [qrem_nn (by omega) (by omega)]; simp
theorem qdiv2 (m : Nat) : qdiv (m : Int) 2 = some ((m / 2 : Nat) : Int) := by rw [qdiv_nn (by omega) (by omega)]; simp
theorem word_spec_end (c b : Int) (e : List DItem) (xs : List DItem) (hx : xs.length ≤ 1000) : ∀ (d i m : Nat), i + d = 8 → xs.length ≤ i → m ≤ 255 →
    Wp (fun k => spec_SendWord_l9 k (m : Int) (i : Int) c b e xs) (· = ⟨b, xs⟩)
  | 0, i, m, h, hi, hm => by
    refine Wp.step ?_
    simp only [spec_SendWord_l9]
    simp (disch := omega) only [cbdec, if_neg]
    exact Wp.ret rfl
  | d + 1, i, m, h, hi, hm => by
    refine Wp.step ?_
    simp only [spec_SendWord_l9]
    simp (disch := omega) only [cbdec, if_pos, qrem2, Option.bind_some, cbeq]
    have ih := word_spec_end c b e xs hx d (i + 1) (m / 2) (by omega) (by omega) (by omega)
    have G : Wp (fun k => spec_SendWord_l13 k (m : Int) (i : Int) c b e xs) (· = ⟨b, xs⟩) := by
      refine Wp.step ?_
      simp only [spec_SendWord_l13]
      simp (disch := omega) only [qdiv2, Option.bind_some, w64', castS]
      exact ih
    refine Wp.ite (fun h1 => ?_) (fun h1 => G)
    simp (disch := omega) only [if_neg]
    exact G
theorem word_spec (c b : Int) (e : List DItem) : ∀ (t pre : List DItem) (m : Nat), (pre ++ t).length ≤ 1000 → m ≤ 255 →
    Wp (fun k => spec_SendWord_l9 k (m : Int) (pre.length : Int) c b e (pre ++ t)) (· = ⟨b, pre ++ hasL pre.length m t⟩)
  | [], pre, m, hl, hm => by
    rw [List.append_nil] at hl ⊢
    simp only [hasL, List.append_nil]
    by_cases h8 : pre.length ≤ 8
    · exact word_spec_end c b e pre hl (8 - pre.length) pre.length m (by omega) (Nat.le_refl _) hm
    · refine Wp.step ?_
      simp only [spec_SendWord_l9]
      simp (disch := omega) only [cbdec, if_neg]
      exact Wp.ret rfl
  | x :: t, pre, m, hl, hm => by
    refine Wp.step ?_
    have hl' := hl
    simp only [List.length_append, List.length_cons] at hl
    simp only [spec_SendWord_l9]
    simp only [cbdec, lt_mid, if_true, idx_mid, get_mid, Option.bind_some, set_mid, cbeq]
    refine Wp.ite (fun h8 => ?_) (fun h8 => Wp.ret (by rw [hasL_ge _ _ _ (by omega)]))
    have ih : ∀ y : DItem, (if pre.length < 8 ∧ m % 2 = 1 ∧ 0 ≤ x.Since then ⟨x.Part, true, x.Since⟩ else x) = y →
        Wp (fun k => spec_SendWord_l13 k (m : Int) (pre.length : Int) c b e (pre ++ y :: t)) (· = ⟨b, pre ++ hasL pre.length m (x :: t)⟩) := by
      intro y hy
      refine Wp.step ?_
      simp only [spec_SendWord_l13]
      simp (disch := omega) only [qdiv2, Option.bind_some, w64']
      have := word_spec c b e t (pre ++ [y]) (m / 2) (by simpa using hl') (by omega)
      rw [← mid_succ, ← mid_len, List.length_append, List.length_singleton] at this
      refine this.mono fun r hr => ?_
      rw [hr]
      simp only [hasL, List.append_assoc, List.cons_append, List.nil_append, hy]
    simp (disch := omega) only [qrem2, Option.bind_some]
    refine Wp.ite (fun h1 => ?_) (fun h1 => ih x (by rw [if_neg (by omega)]))
    refine Wp.ite (fun h2 => ih _ (by rw [if_pos (by omega)])) (fun h2 => ih x (by rw [if_neg (by omega)]))
theorem specWord_ok (s : DSend) (n m : Int) : Wp (fun k => spec_SendWord k s n m) (· = wordM s n m) := by
  unfold spec_SendWord wordM
  refine Wp.bind (specValidSend_ok s) (fun _ e => ?_); subst e
  simp only [cbnot, cbdec]
  refine Wp.ite (fun h => ?_) (fun h => Wp.ret (by rw [if_neg h]))
  rw [if_pos h]
  have := h.1; have hb := h.2.1
  refine Wp.bind (l4Copy_ok s (by omega)) (fun r2 e => ?_); rw [e]
  refine Wp.ite (fun h2 => Wp.ret (by rw [if_neg (by omega)])) (fun h2 => ?_)
  refine Wp.bind (P := fun r => r = ((0 + frontL s.Items : Nat) : Int)) (front_spec s.Base s.Items [] (by simp; omega)) (fun _ e => ?_); subst e
  have hf := frontL_le s.Items
  simp (disch := omega) only [w64']
  refine Wp.ite (fun h3 => Wp.ret (by rw [if_neg (by omega)])) (fun h3 => ?_)
  refine Wp.bind (l1In_ok _ _ _) (fun _ e => ?_); subst e
  simp only [inB, cbdec]
  refine Wp.ite (fun h4 => ?_) (fun h4 => Wp.ret (by rw [if_neg (by omega)]))
  rw [if_pos (by omega)]
  refine Wp.opt (wnd_ok (by omega)) ?_
  refine Wp.opt (app_ok (by simp [dcut]; omega)) ?_
  have e1 : ([] : List DItem) ++ dcut s.Items (n - s.Base).toNat (s.Items.length : Int).toNat = s.Items.drop (n - s.Base).toNat := by simp [dcut]
  rw [e1]
  have := word_spec 0 n [] (s.Items.drop (n - s.Base).toNat) [] m.toNat (by simp; omega) (by omega)
  simp only [List.nil_append, List.length_nil, Int.toNat_of_nonneg h4.1] at this
  exact this
theorem OkItem.mono {i j : Nat} {x : DItem} (h : OkItem j x) (hij : i ≤ j) : OkItem i x := ⟨h.1, h.2.1, fun h8 => h.2.2.1 (by omega), h.2.2.2⟩
theorem OkItems.mono : ∀ {l : List DItem} {i j : Nat}, OkItems j l → i ≤ j → OkItems i l
  | [], _, _, _, _ => trivial
  | x :: t, i, j, ⟨h1, h2⟩, hij => ⟨h1.mono hij, h2.mono (by omega)⟩
theorem OkItems.drop : ∀ {l : List DItem} {i : Nat} (d : Nat), OkItems i l → OkItems i (l.drop d)
  | l, i, 0, h => h
  | [], i, d + 1, h => trivial
  | x :: t, i, d + 1, ⟨_, h2⟩ => (OkItems.drop d h2).mono (by omega)
theorem okItems_has : ∀ {l : List DItem} {i m : Nat}, OkItems i l → OkItems i (hasL i m l)
  | [], _, _, _ => trivial
  | x :: t, i, m, ⟨h1, h2⟩ => by
    refine ⟨?_, okItems_has h2⟩
    split
    · rename_i h; exact ⟨h1.1, h1.2.1, h1.2.2.1, fun _ => h.2.2⟩
    · exact h1
theorem hasL_length : ∀ (i m : Nat) (l : List DItem), (hasL i m l).length = l.length
  | _, _, [] => rfl
  | i, m, x :: t => by simp [hasL, hasL_length (i + 1) (m / 2) t]
theorem wordM_ok (s : DSend) (n m : Int) : VSend (wordM s n m) := by
  unfold wordM
  split
  · rename_i h
    split
    · rename_i h2
      have hf := frontL_le s.Items
      obtain ⟨v1, v2, v3, v4⟩ := h
      refine ⟨?_, ?_, ?_, okItems_has (v4.drop _)⟩
      · simp only [hasL_length, List.length_drop]; omega
      · simp only; omega
      · simp only [hasL_length, List.length_drop]; omega
    · assumption
  · exact noSend_V
end Km.X
namespace Km.X
open Go Km
set_option linter.unusedVariables false
set_option linter.unusedSimpArgs false
/-! ### Take -/
def goes (o : ByteArray) (r : List ByteArray) (p : DPart) : Prop := o.size + p.Text.size ≤ 200 ∧ (p.Last = true → r.length < 4)
instance (o : ByteArray) (r : List ByteArray) (p : DPart) : Decidable (goes o r p) := by unfold goes; infer_instance
/-- what is held: above prev, in order, near n -/
def WHs (n : Int) : Int → List DHeld → Prop
  | _, [] => True
  | p, x :: t => (p < x.Seq ∧ x.Seq ≤ n + 7 ∧ x.Seq ≤ 999999 ∧ x.Part.Text.size ≤ 20) ∧ WHs n x.Seq t
instance decWHs (n : Int) : (p : Int) → (l : List DHeld) → Decidable (WHs n p l)
  | _, [] => .isTrue trivial
  | p, x :: t => by
    have := decWHs n x.Seq t
    unfold WHs; infer_instance
def NoGo (n : Int) (o : ByteArray) (r : List ByteArray) (l : List DHeld) : Prop := ∀ x ∈ l, x.Seq = n → ¬ goes o r x.Part
instance (n : Int) (o : ByteArray) (r : List ByteArray) (l : List DHeld) : Decidable (NoGo n o r l) := by unfold NoGo; infer_instance
def SmR (l : List ByteArray) : Prop := ∀ s ∈ l, s.size ≤ 200
instance (l : List ByteArray) : Decidable (SmR l) := by unfold SmR; infer_instance
def VTake (t : DTake) : Prop := (0 ≤ t.Next ∧ t.Next ≤ 1000000) ∧ t.Held.length ≤ 8 ∧ t.Open.size ≤ 200 ∧ t.Ready.length ≤ 4 ∧ SmR t.Ready ∧ WHs t.Next (t.Next - 1) t.Held ∧ NoGo t.Next t.Open t.Ready t.Held
instance (t : DTake) : Decidable (VTake t) := by unfold VTake; infer_instance
abbrev noTake : DTake := ⟨0, [], noB, []⟩
theorem noTake_V : VTake noTake := ⟨by simp, by simp, by simp [noB_size], by simp, fun s hs => by simp at hs, trivial, fun x hx => by simp at hx⟩
theorem whs_mem {n : Int} : ∀ {l : List DHeld} {p : Int}, WHs n p l → ∀ x ∈ l, x.Part.Text.size ≤ 20
  | [], _, _, x, h => by simp at h
  | y :: t, p, ⟨h1, h2⟩, x, h => by
    rcases List.mem_cons.mp h with rfl | h
    · exact h1.2.2.2
    · exact whs_mem h2 x h
theorem whs_lt {n : Int} : ∀ {l : List DHeld} {p : Int}, WHs n p l → ∀ x ∈ l, p < x.Seq
  | [], _, _, x, h => by simp at h
  | y :: t, p, ⟨h1, h2⟩, x, h => by
    rcases List.mem_cons.mp h with rfl | h
    · exact h1.1
    · have := whs_lt h2 x h; omega
theorem whs_mono {n n' : Int} (hn : n ≤ n') : ∀ {l : List DHeld} {p : Int}, WHs n p l → WHs n' p l
  | [], _, _ => trivial
  | y :: t, p, ⟨h1, h2⟩ => ⟨⟨h1.1, by omega, h1.2.2⟩, whs_mono hn h2⟩
theorem VTake.sm {t : DTake} (h : VTake t) : smTake t := by
  obtain ⟨h1, h2, h3, h4, h5, h6, h7⟩ := h
  unfold smTake smL
  refine ⟨⟨by omega, fun x hx => ?_⟩, by omega, ⟨by omega, fun s hs => by have := h5 s hs; omega⟩⟩
  have := whs_mem h6 x hx
  show x.Part.Text.size ≤ 1048576
  omega
/-! ### flow -/
def flowT : List DHeld → Int → ByteArray → List ByteArray → DTake
  | [], n, o, r => ⟨n, [], o, r⟩
  | x :: t, n, o, r => if x.Seq = n ∧ goes o r x.Part then (if x.Part.Last = true then flowT t (n + 1) noB (r ++ [o ++ x.Part.Text]) else flowT t (n + 1) (o ++ x.Part.Text) r) else ⟨n, x :: t, o, r⟩
theorem flowT_V (n0 : Int) : ∀ (h : List DHeld) (n : Int) (o : ByteArray) (r : List ByteArray), n0 ≤ n → WHs n0 (n - 1) h → h.length ≤ 8 → 0 ≤ n → n ≤ 1000000 → o.size ≤ 200 → r.length ≤ 4 → SmR r → VTake (flowT h n o r)
  | [], n, o, r, h0, hw, hl, hn, hn', ho, hr, hs => ⟨⟨hn, hn'⟩, by simp [flowT], ho, hr, hs, trivial, fun x hx => by simp [flowT] at hx⟩
  | x :: t, n, o, r, h0, ⟨hw1, hw2⟩, hl, hn, hn', ho, hr, hs => by
    simp only [List.length_cons] at hl
    simp only [flowT]
    split
    · rename_i hg
      have hw3 : WHs n0 (n + 1 - 1) t := by rw [show n + 1 - 1 = x.Seq by omega]; exact hw2
      split
      · rename_i hl3
        refine flowT_V n0 t (n + 1) noB _ (by omega) hw3 (by omega) (by omega) (by omega) (by simp [noB_size]) (by have := hg.2.2 hl3; simp; omega) (fun s h' => ?_)
        simp only [List.mem_append, List.mem_singleton] at h'
        rcases h' with h' | rfl
        · exact hs s h'
        · rw [ba_size_append]; exact hg.2.1
      · exact flowT_V n0 t (n + 1) _ r (by omega) hw3 (by omega) (by omega) (by omega) (by rw [ba_size_append]; exact hg.2.1) hr hs
    · rename_i hg
      refine ⟨⟨hn, hn'⟩, by simp only [List.length_cons]; omega, ho, hr, hs, whs_mono h0 ⟨hw1, hw2⟩, fun y hy => ?_⟩
      rcases List.mem_cons.mp hy with rfl | hy
      · exact fun e g => hg ⟨e, g⟩
      · have := whs_lt hw2 y hy
        exact fun e => by simp only at e; omega
/-! ### TakePull -/
def pullM (t : DTake) : DTake × ByteArray × Bool := if VTake t then (match t.Ready with | [] => (t, noB, false) | s :: rs => (flowT t.Held t.Next t.Open rs, s, true)) else (noTake, noB, false)
theorem VTake.small {t : DTake} (h : VTake t) : ∀ x ∈ t.Held, x.Seq ≤ 999999 ∧ x.Part.Text.size ≤ 1000 := by
  have hw := h.2.2.2.2.2.1
  have G : ∀ {l : List DHeld} {p : Int}, WHs t.Next p l → ∀ x ∈ l, x.Seq ≤ 999999 := by
    intro l
    induction l with
    | nil => intro p _ x hx; simp at hx
    | cons y l ih =>
      rintro p ⟨h1, h2⟩ x hx
      rcases List.mem_cons.mp hx with rfl | hx
      · exact h1.2.2.1
      · exact ih h2 x hx
  exact fun x hx => ⟨G hw x hx, by have := whs_mem hw x hx; omega⟩
theorem pullM_ok (t : DTake) : VTake (pullM t).1 ∧ (pullM t).2.1.size ≤ 200 := by
  unfold pullM
  split
  · rename_i h
    obtain ⟨n, hd, o, r⟩ := t
    cases r with
    | nil => exact ⟨h, by simp [noB_size]⟩
    | cons s rs =>
      obtain ⟨h1, h2, h3, h4, h5, h6, h7⟩ := h
      simp only [List.length_cons] at h4
      exact ⟨flowT_V n hd n o rs (Int.le_refl _) h6 h2 h1.1 h1.2 h3 (by omega) (fun s' hs => h5 s' (List.mem_cons_of_mem _ hs)), h5 s (List.mem_cons_self ..)⟩
  · exact ⟨noTake_V, by simp [noB_size]⟩
end Km.X
namespace Km.X
open Go Km
set_option linter.unusedVariables false
set_option linter.unusedSimpArgs false
/-! ### TakeWord -/
def maskL (n : Int) : Nat → List DHeld → Nat
  | m, [] => m
  | m, x :: t => maskL n (m + 2 ^ (x.Seq - n).toNat) t
def tkM (t : DTake) : Int × Int := if VTake t then (t.Next, ((maskL t.Next 0 t.Held : Nat) : Int)) else (0, 0)
end Km.X
namespace Km.X
open Go Km
set_option linter.unusedVariables false
set_option linter.unusedSimpArgs false

def smEnd (x : DEnd) : Prop := smSend x.Send ∧ smTake x.Take
theorem eqEnd_ok (x : DEnd) (h : smEnd x) : Wp (fun k => laws_eqEnd k x x) (· = true) := by
  unfold laws_eqEnd
  unfold smEnd at h
  obtain ⟨h0, h1⟩ := h
  simp only [w64', cbdec, cbnot, cbeq, cbne, cbseq, cbbeq, cond_true, cond_false, Option.bind_some, Bool.not_true, Bool.not_false, if_true, if_false]
  refine Wp.bind (eqSend_ok _ h0) (fun _ e => ?_); subst e
  simp only [w64', cbdec, cbnot, cbeq, cbne, cbseq, cbbeq, cond_true, cond_false, Option.bind_some, Bool.not_true, Bool.not_false, if_true, if_false]
  refine Wp.bind (eqTake_ok _ h1) (fun _ e => ?_); subst e
  simp only [w64', cbdec, cbnot, cbeq, cbne, cbseq, cbbeq, cond_true, cond_false, Option.bind_some, Bool.not_true, Bool.not_false, if_true, if_false]
  exact Wp.ret rfl
end Km.X
namespace Km.X
open Go Km
set_option linter.unusedVariables false
set_option linter.unusedSimpArgs false
/-! ### End -/
def PNoS (s : DSend) : Prop := s.Base = 0 ∧ s.Items.length = 0
instance (s : DSend) : Decidable (PNoS s) := by unfold PNoS; infer_instance
def PNoT (t : DTake) : Prop := t.Next = 0 ∧ t.Held.length = 0 ∧ t.Open = noB ∧ t.Ready.length = 0
instance (t : DTake) : Decidable (PNoT t) := by unfold PNoT; infer_instance
def VEnd (e : DEnd) : Prop := (1 ≤ e.Number ∧ e.Number ≤ 2) ∧ (1 ≤ e.Life ∧ e.Life ≤ 1000) ∧ (0 ≤ e.Peer ∧ e.Peer ≤ 1000) ∧ (0 ≤ e.Since ∧ e.Since ≤ 1000000) ∧ VSend e.Send ∧ VTake e.Take ∧ (e.Peer = 0 → PNoS e.Send ∧ PNoT e.Take) ∧ (e.Up = false → e.Peer = 0 ∧ e.Since = 0 ∧ e.Owes = false)
instance (e : DEnd) : Decidable (VEnd e) := by unfold VEnd; infer_instance
theorem VEnd.sm {e : DEnd} (h : VEnd e) : smEnd e := ⟨h.2.2.2.2.1.sm, h.2.2.2.2.2.1.sm⟩
abbrev noEnd : DEnd := ⟨0, false, 0, 0, 0, false, noSend, noTake⟩
theorem noSend_sm : smSend noSend := noSend_V.sm
theorem noTake_sm : smTake noTake := noTake_V.sm
theorem noEnd_sm : smEnd noEnd := ⟨noSend_sm, noTake_sm⟩
theorem pnoS : PNoS noSend := ⟨rfl, rfl⟩
theorem pnoT : PNoT noTake := ⟨rfl, rfl, rfl, rfl⟩
/-! ### NewEnd, EndFall, EndRise -/
def newM (n : Int) : DEnd := if 1 ≤ n ∧ n ≤ 2 then ⟨n, true, 1, 0, 0, false, noSend, noTake⟩ else noEnd
theorem specNew_ok (n : Int) : Wp (fun k => spec_NewEnd k n) (· = newM n) := by
  unfold spec_NewEnd newM
  refine Wp.bind (l1In_ok _ _ _) (fun _ q => ?_); subst q
  simp only [inB, cbdec, cbnot]
  exact Wp.ite (fun h1 => Wp.ret (by rw [if_pos h1])) (fun h1 => Wp.ret (by rw [if_neg h1]))
theorem implNew_ok (n : Int) : Wp (fun k => impl_NewEnd k n) (· = newM n) := by
  unfold impl_NewEnd newM
  simp only [cbne]
  refine Wp.ite (fun h => Wp.ret (by rw [if_pos (by omega)])) (fun h => ?_)
  exact Wp.ite (fun h2 => Wp.ret (by rw [if_pos (by omega)])) (fun h2 => Wp.ret (by rw [if_neg (by omega)]))
theorem newM_sm (n : Int) : smEnd (newM n) := by unfold newM; split <;> exact noEnd_sm
def fallM (e : DEnd) : DEnd := if VEnd e then ⟨e.Number, false, e.Life, 0, 0, false, noSend, noTake⟩ else noEnd
theorem fallM_V (e : DEnd) (h : VEnd e) : VEnd (fallM e) := by
  unfold fallM; rw [if_pos h]
  exact ⟨h.1, h.2.1, by simp, by simp, noSend_V, noTake_V, fun _ => ⟨pnoS, pnoT⟩, fun _ => ⟨rfl, rfl, rfl⟩⟩
def riseM (e : DEnd) : DEnd := if VEnd e then (if e.Up = true then e else if 1000 ≤ e.Life then e else ⟨e.Number, true, e.Life + 1, 0, 0, false, noSend, noTake⟩) else noEnd
theorem riseM_V (e : DEnd) (h : VEnd e) : VEnd (riseM e) := by
  unfold riseM; rw [if_pos h]
  split
  · exact h
  · split
    · exact h
    · have := h.2.1
      exact ⟨h.1, by simp only; omega, by simp, by simp, noSend_V, noTake_V, fun _ => ⟨pnoS, pnoT⟩, fun g => by cases g⟩
/-! ### EndPull, EndPush -/
def pullE (e : DEnd) : DActed := if VEnd e then (if e.Up = true then (if (pullM e.Take).2.2 = true then ⟨0, ⟨e.Number, e.Up, e.Life, e.Peer, e.Since, true, e.Send, (pullM e.Take).1⟩, [], (pullM e.Take).2.1⟩ else ⟨4, noEnd, [], noB⟩) else ⟨2, noEnd, [], noB⟩) else ⟨1, noEnd, [], noB⟩
def pushE (e : DEnd) (t : ByteArray) : DActed := if VEnd e then (if e.Up = true then (if e.Peer = 0 then ⟨2, noEnd, [], noB⟩ else if (pushM e.Send t).2 = 0 then ⟨0, ⟨e.Number, e.Up, e.Life, e.Peer, e.Since, e.Owes, (pushM e.Send t).1, e.Take⟩, [], noB⟩ else ⟨(pushM e.Send t).2, noEnd, [], noB⟩) else ⟨2, noEnd, [], noB⟩) else ⟨1, noEnd, [], noB⟩
end Km.X
namespace Km.X
open Go Km
set_option linter.unusedVariables false
set_option linter.unusedSimpArgs false
/-! ### EndTick -/
def partAt (l : List DItem) (i : Int) : DPart := match l[i.toNat]? with | some x => x.Part | none => ⟨noB, false⟩
def wordP (n li p b : Int) (l : List DItem) (q : Int) : DPacket := ⟨2, n, li, p, 0, 0, q, (partAt l (q - b)).Last, (partAt l (q - b)).Text⟩
def tickS (e : DEnd) : DSend × List Int := if e.Peer = 0 then (e.Send, []) else tickM e.Send
def upS (e : DEnd) : Int := if e.Since < 1000000 then e.Since + 1 else e.Since
def tickE (e : DEnd) : DActed := if VEnd e then
    (if e.Up = true then
      (if e.Owes = true ∨ 6 ≤ upS e then ⟨0, ⟨e.Number, e.Up, e.Life, e.Peer, 0, false, (tickS e).1, e.Take⟩, (tickS e).2.map (wordP e.Number e.Life e.Peer (tickS e).1.Base (tickS e).1.Items) ++ [⟨1, e.Number, e.Life, e.Peer, (tkM e.Take).1, (tkM e.Take).2, 0, false, noB⟩], noB⟩
      else ⟨0, ⟨e.Number, e.Up, e.Life, e.Peer, upS e, e.Owes, (tickS e).1, e.Take⟩, (tickS e).2.map (wordP e.Number e.Life e.Peer (tickS e).1.Base (tickS e).1.Items), noB⟩)
    else ⟨0, e, [], noB⟩) else ⟨1, noEnd, [], noB⟩
theorem tickS_V (e : DEnd) (h : VEnd e) : VSend (tickS e).1 ∧ (tickS e).2.length ≤ 60 := by
  unfold tickS; split
  · exact ⟨h.2.2.2.2.1, by simp⟩
  · exact tickM_ok _
end Km.X
namespace Km.X
open Go Km
set_option linter.unusedVariables false
set_option linter.unusedSimpArgs false
def smParcel (x : DParcel) : Prop := x.Sent.size ≤ 1048576 ∧ x.Bytes.size ≤ 1048576
def smRecord (x : DRecord) : Prop := x.Text.size ≤ 1048576
def smWorld (x : DWorld) : Prop := x.Key.size ≤ 1048576 ∧ smL smEnd x.Ends ∧ smL smParcel x.Flight ∧ x.Forged.size ≤ 1048576 ∧ smL smRecord x.Given ∧ smL smRecord x.Taken
end Km.X
namespace Km.X
open Go Km
set_option linter.unusedVariables false
set_option linter.unusedSimpArgs false
/-! ### World -/
def VRec (r : DRecord) : Prop := (1 ≤ r.From ∧ r.From ≤ 2) ∧ (1 ≤ r.A ∧ r.A ≤ 1000) ∧ (1 ≤ r.B ∧ r.B ≤ 1000) ∧ r.Text.size ≤ 200
instance (r : DRecord) : Decidable (VRec r) := by unfold VRec; infer_instance
def VRecs (l : List DRecord) : Prop := ∀ r ∈ l, VRec r
instance (l : List DRecord) : Decidable (VRecs l) := by unfold VRecs; infer_instance
def VPar (p : DParcel) : Prop := (1 ≤ p.To ∧ p.To ≤ 2) ∧ p.Sent.size ≤ 100 ∧ p.Bytes.size ≤ 100
instance (p : DParcel) : Decidable (VPar p) := by unfold VPar; infer_instance
def VPars (l : List DParcel) : Prop := ∀ p ∈ l, VPar p
instance (l : List DParcel) : Decidable (VPars l) := by unfold VPars; infer_instance
def VEnds : List DEnd → Prop
  | [a, b] => (VEnd a ∧ a.Number = 1) ∧ (VEnd b ∧ b.Number = 2)
  | _ => False
instance : (l : List DEnd) → Decidable (VEnds l)
  | [a, b] => by unfold VEnds; infer_instance
  | [] => .isFalse id
  | [_] => .isFalse id
  | _ :: _ :: _ :: _ => .isFalse id
def VWorld (w : DWorld) : Prop := (1 ≤ w.Width ∧ w.Width ≤ 8) ∧ w.Key.size ≤ 30 ∧ w.Flight.length ≤ 1000 ∧ w.Given.length + w.Taken.length ≤ 400 ∧ VEnds w.Ends ∧ VPars w.Flight ∧ VRecs w.Given ∧ VRecs w.Taken
instance (w : DWorld) : Decidable (VWorld w) := by unfold VWorld; infer_instance
theorem all_cons {α : Type} {P : α → Prop} {x : α} {t : List α} : (∀ y ∈ x :: t, P y) ↔ P x ∧ ∀ y ∈ t, P y := by simp
/-! ### Idle -/
def idleP (e f : DEnd) : Prop := e.Up = true ∧ e.Peer = f.Life ∧ e.Send.Items.length = 0 ∧ e.Take.Held.length = 0 ∧ e.Take.Open = noB ∧ e.Take.Ready.length = 0
instance (e f : DEnd) : Decidable (idleP e f) := by unfold idleP; infer_instance
def idleL : List DEnd → Prop
  | [a, b] => idleP a b ∧ idleP b a
  | _ => False
instance : (l : List DEnd) → Decidable (idleL l)
  | [a, b] => by unfold idleL; infer_instance
  | [] => .isFalse id
  | [_] => .isFalse id
  | _ :: _ :: _ :: _ => .isFalse id
def Idles (w : DWorld) : Prop := VWorld w ∧ idleL w.Ends
instance (w : DWorld) : Decidable (Idles w) := by unfold Idles; infer_instance
end Km.X
namespace Km.X
open Go Km
set_option linter.unusedVariables false
set_option linter.unusedSimpArgs false
/-! ### TakePart -/
def insT (q : Int) (p : DPart) : List DHeld → Option (List DHeld)
  | [] => some [⟨q, p⟩]
  | x :: t => if x.Seq = q then none else if q < x.Seq then some (⟨q, p⟩ :: x :: t) else (insT q p t).map (x :: ·)
def partM (t : DTake) (q : Int) (p : DPart) : DTake :=
  if VTake t then
    if (t.Next ≤ q ∧ q ≤ t.Next + 7 ∧ q ≤ 999999) ∧ p.Text.size ≤ 20 then (match insT q p t.Held with | none => t | some h => flowT h t.Next t.Open t.Ready)
    else t
  else noTake
theorem insT_W {n : Int} (q : Int) (p : DPart) (hq : q ≤ n + 7) (hq' : q ≤ 999999) (hp : p.Text.size ≤ 20) : ∀ {t h : List DHeld} {b : Int}, b < q → WHs n b t → insT q p t = some h → WHs n b h
  | [], h, b, hb, hw, e => by
    simp only [insT, Option.some.injEq] at e; subst e
    exact ⟨⟨hb, hq, hq', hp⟩, trivial⟩
  | x :: t, h, b, hb, ⟨hw1, hw2⟩, e => by
    simp only [insT] at e
    split at e
    · cases e
    · split at e
      · simp only [Option.some.injEq] at e; subst e
        exact ⟨⟨hb, hq, hq', hp⟩, ⟨by omega, hw1.2⟩, hw2⟩
      · cases ht : insT q p t with
        | none => rw [ht] at e; cases e
        | some h' =>
          rw [ht] at e
          simp only [Option.map_some, Option.some.injEq] at e; subst e
          exact ⟨hw1, insT_W q p hq hq' hp (by omega) hw2 ht⟩
/-- at most eight of them fit -/
theorem whs_len {n : Int} : ∀ {l : List DHeld} {b : Int}, WHs n b l → b ≤ n + 7 → (l.length : Int) ≤ n + 7 - b
  | [], b, _, h => by simp only [List.length_nil]; omega
  | x :: t, b, ⟨h1, h2⟩, h => by
    have := whs_len h2 h1.2.1
    simp only [List.length_cons]; omega
theorem partM_V (t : DTake) (q : Int) (p : DPart) : VTake (partM t q p) := by
  unfold partM
  split
  · rename_i h
    split
    · rename_i g
      cases ht : insT q p t.Held with
      | none => exact h
      | some hh =>
        obtain ⟨h1, h2, h3, h4, h5, h6, h7⟩ := h
        have hw := insT_W q p g.1.2.1 g.1.2.2 g.2 (by omega) h6 ht
        have hlen := whs_len hw (by omega)
        exact flowT_V t.Next hh t.Next t.Open t.Ready (Int.le_refl _) hw (by omega) h1.1 h1.2 h3 h4 h5
    · exact h
  · exact noTake_V
end Km.X
namespace Km.X
open Go Km
set_option linter.unusedVariables false
set_option linter.unusedSimpArgs false
/-- a packet that may be written -/
def Fits (p : DPacket) : Prop :=
  (1 ≤ p.From ∧ p.From ≤ 2) ∧ (1 ≤ p.Mine ∧ p.Mine ≤ 1000) ∧ (0 ≤ p.Yours ∧ p.Yours ≤ 1000) ∧
  ((p.Kind = 1 ∧ (0 ≤ p.Next ∧ p.Next ≤ 1000000) ∧ (0 ≤ p.Mask ∧ p.Mask ≤ 255) ∧ p.Seq = 0 ∧ p.Last = false ∧ p.Part = noB) ∨
   (p.Kind = 2 ∧ p.Next = 0 ∧ p.Mask = 0 ∧ (0 ≤ p.Seq ∧ p.Seq ≤ 999999) ∧ p.Part.size ≤ 20))
instance (p : DPacket) : Decidable (Fits p) := by unfold Fits; infer_instance

/-! ### numbers in bytes -/
def N (w : Nat) (x : Int) : ByteArray := bstr (bytesL w x.toNat)
theorem N_size (w : Nat) (x : Int) : (N w x).size = w := by simp [N, bstr_size, bytesL_length]
def headP (p : DPacket) : ByteArray := N 1 p.Kind ++ N 1 p.From ++ N 2 p.Mine ++ N 2 p.Yours
def lastI (b : Bool) : Int := bif b then 1 else 0
def bodyP (p : DPacket) : ByteArray :=
  if p.Kind = 1 then headP p ++ N 4 p.Next ++ N 1 p.Mask else headP p ++ N 4 p.Seq ++ N 1 (lastI p.Last) ++ p.Part
theorem headP_size (p : DPacket) : (headP p).size = 6 := by simp [headP, N_size]
theorem bodyP_size (p : DPacket) (h : Fits p) : (bodyP p).size ≤ 31 := by
  have hs := headP_size p
  unfold bodyP
  rcases h.2.2.2 with ⟨hk1, _⟩ | ⟨hk2, _, _, _, g4⟩
  · rw [if_pos hk1]; simp [N_size, hs]
  · rw [if_neg (by omega)]; simp [N_size, hs]; omega
/-- the form of a packet -/
def formM (p : DPacket) (b : ByteArray) (w : Int) : ByteArray := if Fits p ∧ (1 ≤ w ∧ w ≤ 8) ∧ b.size ≤ 30 then tagM (bodyP p) b w ++ bodyP p else noB
theorem formM_size (p : DPacket) (b : ByteArray) (w : Int) : (formM p b w).size ≤ 39 := by
  unfold formM
  split
  · rename_i h
    rw [ba_size_append]
    have := bodyP_size p h.1
    have := tagM_size (bodyP p) b w
    omega
  · simp [noB_size]
end Km.X
