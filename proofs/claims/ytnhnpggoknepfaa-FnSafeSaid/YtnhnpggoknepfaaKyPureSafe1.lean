/- A part of the proof of FnSafe: plain laws of these functions. There is no condition. -/
import Derived.Test.YtnhnpggoknepfaaKmAm3
import Derived.Test.YtnhnpggoknepfaaKxDef1
namespace Km.X
open Go Km
set_option linter.unusedVariables false
set_option linter.unusedSimpArgs false
def smL {α : Type} (p : α → Prop) (l : List α) : Prop := l.length ≤ 1048576 ∧ ∀ y ∈ l, p y
def smPart (x : DPart) : Prop := x.Text.size ≤ 1048576
def smItem (x : DItem) : Prop := smPart x.Part
def smHeld (x : DHeld) : Prop := smPart x.Part
def smSend (x : DSend) : Prop := smL smItem x.Items
def smTake (x : DTake) : Prop := smL smHeld x.Held ∧ x.Open.size ≤ 1048576 ∧ smL (fun s : ByteArray => s.size ≤ 1048576) x.Ready
end Km.X
namespace Km.X
open Go Km
set_option linter.unusedVariables false
set_option linter.unusedSimpArgs false
end Km.X
namespace Km.X
open Go Km
set_option linter.unusedVariables false
set_option linter.unusedSimpArgs false
abbrev noB : ByteArray := ⟨#[]⟩
theorem noB_size : noB.size = 0 := rfl
theorem bstr_fold (bs : List Int) : ∀ (s : ByteArray), bs.foldl (fun r n => r.push (UInt8.ofNat n.toNat)) s = s ++ bstr bs := by
  induction bs with
  | nil => intro s; simp [bstr]
  | cons b bs ih =>
    intro s
    simp only [List.foldl_cons, bstr]
    rw [ih, ih]
    apply ByteArray.ext; apply Array.ext'
    simp
theorem bstr_cons (b : Int) (bs : List Int) : bstr [b] ++ bstr bs = bstr (b :: bs) := by
  have := bstr_fold bs (bstr [b])
  rw [← this]; rfl
theorem bstr_nil : bstr [] = noB := rfl
/-- the w lowest bytes, the highest first -/
def bytesL : Nat → Nat → List Int
  | 0, _ => []
  | w + 1, n => bytesL w (n / 256) ++ [((n % 256 : Nat) : Int)]
theorem bytesL_length : ∀ (w n : Nat), (bytesL w n).length = w
  | 0, _ => rfl
  | w + 1, n => by simp [bytesL, bytesL_length w]
theorem bytesL_drop (d : Nat) : ∀ (w n : Nat), (bytesL (w + d) n).drop d = bytesL w n
  | 0, n => by
    rw [Nat.zero_add, List.drop_eq_nil_of_le (by rw [bytesL_length]; exact Nat.le_refl _)]; rfl
  | w + 1, n => by
    rw [show w + 1 + d = (w + d) + 1 by omega]
    simp only [bytesL]
    rw [List.drop_append_of_le_length (by rw [bytesL_length]; omega), bytesL_drop d w]
theorem wu8 (n : Nat) : IntKind.wrap .u8 (n : Int) = ((n % 256 : Nat) : Int) := by rw [IntKind.wrap_u8]; omega
theorem wu64 {n : Int} (h1 : 0 ≤ n) (h2 : n ≤ 18446744073709551615) : IntKind.wrap .u64 n = n := IntWalk.u64_in n ⟨h1, h2⟩
theorem wu64_range (n : Int) : 0 ≤ IntKind.wrap .u64 n ∧ IntKind.wrap .u64 n ≤ 18446744073709551615 := by
  simp only [IntKind.wrap, IntKind.signed, IntKind.bits, Bool.false_and]
  rw [if_neg (by simp)]; omega
theorem qrem_nat (n : Nat) : qrem (n : Int) 256 = some ((n % 256 : Nat) : Int) := by rw [qrem_nn (by omega) (by omega)]; simp
theorem qdiv_nat (n : Nat) : qdiv (n : Int) 256 = some ((n / 256 : Nat) : Int) := by rw [qdiv_nn (by omega) (by omega)]; simp
theorem wu8_mod (n : Nat) : IntKind.wrap .u8 ((n % 256 : Nat) : Int) = ((n % 256 : Nat) : Int) := by rw [wu8, Nat.mod_mod]
theorem shr8 {k : IntKind} (hk : 8 ≤ k.bits) (n : Nat) : shift .shr k (n : Int) 8 = some ((n / 256 : Nat) : Int) := by
  simp only [shift]
  rw [if_neg (by omega)]
  congr 1
  rw [show (Int.toNat 8) = 8 from rfl, Nat.min_eq_left hk, Int.fdiv_eq_ediv_of_nonneg _ (by simp)]
  simp
theorem sadd_bstr (b : Int) (bs : List Int) (h : bs.length ≤ 1000) : sadd (bstr [b]) (bstr bs) = some (bstr (b :: bs)) := by
  rw [sadd_ok (by rw [bstr_size, bstr_size]; simp; omega), bstr_cons]
theorem set_bytes {d n : Nat} {b : List Int} (hlt : d < b.length) : bytesL d (n / 256) ++ (b.set d ((n % 256 : Nat) : Int)).drop d = bytesL (d + 1) n ++ b.drop (d + 1) := by
  simp only [bytesL, List.append_assoc, List.cons_append, List.nil_append]
  congr 1
  rw [List.drop_eq_getElem_cons (by simpa using hlt), List.drop_set_of_lt (by omega)]
  simp

theorem specTag11 : ∀ (d w i n : Nat) (tail : List Int), i + d = w → w ≤ 8 → n ≤ 18446744073709551615 → tail.length + d ≤ 100 →
    Wp (fun k => spec_Tag_l11 k (w : Int) (n : Int) (bstr tail) (i : Int)) (· = bstr (bytesL d n ++ tail))
  | 0, w, i, n, tail, h, hw, hn, ht => by
    refine Wp.step ?_
    simp only [spec_Tag_l11]
    simp (disch := omega) only [cbdec, if_neg]
    exact Wp.ret rfl
  | d + 1, w, i, n, tail, h, hw, hn, ht => by
    refine Wp.step ?_
    simp only [spec_Tag_l11]
    simp (disch := omega) only [cbdec, if_pos, qrem_nat, qdiv_nat, Option.bind_some, wu8_mod, sadd_bstr, wu64, w64', castS]
    have ih := specTag11 d w (i + 1) (n / 256) (((n % 256 : Nat) : Int) :: tail) (by omega) hw (by omega) (by simp; omega)
    simpa [bytesL] using ih
theorem implTag11 : ∀ (d w n : Nat) (b : List Int), b.length = 8 → d ≤ 8 → 1 ≤ w → w ≤ 8 → n ≤ 18446744073709551615 →
    Wp (fun k => impl_Tag_l11 k (w : Int) (n : Int) ((d : Int) - 1) b) (· = bstr ((bytesL d n ++ b.drop d).drop (8 - w)))
  | 0, w, n, b, hb, hd, hw1, hw, hn => by
    refine Wp.step ?_
    simp only [impl_Tag_l11]
    simp (disch := omega) only [cbdec, if_neg, if_pos hb, w64', wnd_ok, Option.bind_some]
    refine Wp.ret ?_
    simp only [bytesL, List.nil_append, List.drop_zero, dcut]
    rw [show ((8 : Int) - (w : Int)).toNat = 8 - w by omega, show Int.toNat 8 = 8 from rfl, List.take_of_length_le (by omega)]
  | d + 1, w, n, b, hb, hd, hw1, hw, hn => by
    refine Wp.step ?_
    simp only [impl_Tag_l11]
    rw [show ((d + 1 : Nat) : Int) - 1 = (d : Int) by omega]
    have hlt : d < b.length := by omega
    simp (disch := first | omega | decide) only [cbdec, if_pos, if_pos hb, idxN, getN, Option.bind_some, shr8, w64', wu8]
    have ih := implTag11 d w (n / 256) (b.set d ((n % 256 : Nat) : Int)) (by simpa using hb) (by omega) hw1 hw (by omega)
    rw [set_bytes hlt] at ih
    rw [Int.toNat_natCast]
    exact ih

def hstep (v : Int) (c : UInt8) : Int := IntKind.wrap .u64 ((bitsXor .u64 v (IntKind.wrap .u64 (c.toNat : Int))) * 1099511628211)
def hashL (l : List UInt8) : Int := l.foldl hstep 14695981039346656037
theorem bidx_mid {pre t : List UInt8} {c : UInt8} {all : ByteArray} (h : all.data.toList = pre ++ c :: t) : bidx all (pre.length : Int) = some c := by
  have hl : pre.length < all.size := by
    have := congrArg List.length h
    simp at this
    have e : all.size = all.data.size := rfl
    omega
  have hg : all.data[pre.length]? = some c := by
    rw [← Array.getElem?_toList, h]; simp
  unfold bidx
  rw [if_neg (by omega), Int.toNat_natCast]
  have e : all[pre.length]? = some (all[pre.length]'hl) := by simp [hl]
  rw [e]
  rw [Array.getElem?_eq_getElem (by exact hl)] at hg
  exact hg
theorem size_mid {pre t : List UInt8} {all : ByteArray} (h : all.data.toList = pre ++ t) : all.size = pre.length + t.length := by
  have := congrArg List.length h
  simp at this
  exact this
theorem specTag6 (all : ByteArray) (w : Nat) (hw : w ≤ 8) (hs : all.size ≤ 10000000) : ∀ (t pre : List UInt8) (v : Int), all.data.toList = pre ++ t → 0 ≤ v ∧ v ≤ 18446744073709551615 →
    Wp (fun k => spec_Tag_l6 k (w : Int) all v (pre.length : Int)) (· = bstr (bytesL w (t.foldl hstep v).toNat))
  | [], pre, v, h, hv => by
    refine Wp.step ?_
    have := size_mid h
    simp only [List.length_nil] at this
    simp only [spec_Tag_l6]
    simp (disch := omega) only [cbdec, if_neg]
    have h11 := specTag11 w w 0 v.toNat [] (by omega) hw (by omega) (by simp; omega)
    rw [List.append_nil, show ((v.toNat : Nat) : Int) = v by omega, bstr_nil] at h11
    exact h11
  | c :: t, pre, v, h, hv => by
    refine Wp.step ?_
    have hl := size_mid h
    simp only [List.length_cons] at hl
    simp only [spec_Tag_l6]
    simp (disch := omega) only [cbdec, if_pos, bidx_mid h, Option.bind_some, w64']
    have ih := specTag6 all w hw hs t (pre ++ [c]) (hstep v c) (by simpa using h) (wu64_range _)
    rwa [← mid_len] at ih
theorem implTag6 (all : ByteArray) (w : Nat) (hw1 : 1 ≤ w) (hw : w ≤ 8) (hs : all.size ≤ 10000000) : ∀ (t pre : List UInt8) (v : Int), all.data.toList = pre ++ t → 0 ≤ v ∧ v ≤ 18446744073709551615 →
    Wp (fun k => impl_Tag_l6 k (w : Int) v all (pre.length : Int)) (· = bstr (bytesL w (t.foldl hstep v).toNat))
  | [], pre, v, h, hv => by
    refine Wp.step ?_
    have := size_mid h
    simp only [List.length_nil] at this
    simp only [impl_Tag_l6]
    simp (disch := omega) only [cbdec, if_neg]
    have h11 := implTag11 8 w v.toNat (List.replicate 8 0) (by simp) (by omega) hw1 hw (by omega)
    rw [show ((v.toNat : Nat) : Int) = v by omega] at h11
    have hd := bytesL_drop (8 - w) w v.toNat
    rw [show w + (8 - w) = 8 by omega] at hd
    refine Wp.mono h11 fun r hr => ?_
    rw [hr, show List.drop 8 (List.replicate 8 (0 : Int)) = [] from rfl, List.append_nil, hd]
    rfl
  | c :: t, pre, v, h, hv => by
    refine Wp.step ?_
    have hl := size_mid h
    simp only [List.length_cons] at hl
    simp only [impl_Tag_l6]
    simp (disch := omega) only [cbdec, if_pos, bidx_mid h, Option.bind_some, w64']
    have ih := implTag6 all w hw1 hw hs t (pre ++ [c]) (hstep v c) (by simpa using h) (wu64_range _)
    rwa [← mid_len] at ih

theorem l1In_ok (a b c : Int) : Wp (fun k => spec_l1In k a b c) (· = (decide (b ≤ a) && decide (a ≤ c))) := by
  unfold spec_l1In
  refine Wp.dec (fun h => Wp.ret ?_) (fun h => Wp.ret ?_)
  · rw [decide_eq_true (show b ≤ a by omega)]; rfl
  · rw [decide_eq_false (show ¬ b ≤ a by omega)]; rfl
theorem in_ok (a b c : Int) : Wp (fun k => impl_in k a b c) (· = (decide (b ≤ a) && decide (a ≤ c))) := l1In_ok a b c
theorem inB {a b c : Int} : (decide (b ≤ a) && decide (a ≤ c)) = decide (b ≤ a ∧ a ≤ c) := by rw [Bool.decide_and]

/-- the tag -/
def tagM (a b : ByteArray) (w : Int) : ByteArray := if w < 1 ∨ 8 < w ∨ 30 < b.size then noB else bstr (bytesL w.toNat (hashL (b ++ ⟨#[0]⟩ ++ a).data.toList).toNat)
theorem specTag_ok (a b : ByteArray) (w : Int) (ha : a.size ≤ 1048576) : Wp (fun k => spec_Tag k a b w) (· = tagM a b w) := by
  unfold spec_Tag tagM
  refine Wp.bind (l1In_ok _ _ _) (fun _ e => ?_); subst e
  simp only [inB, cbnot, cbdec]
  refine Wp.ite (fun h1 => ?_) (fun h1 => ?_)
  · refine Wp.ite (fun h2 => ?_) (fun h2 => ?_)
    · rw [if_pos (by omega)]; exact Wp.ret rfl
    · rw [if_neg (by omega)]
      have e0 : (⟨#[0]⟩ : ByteArray).size = 1 := rfl
      have hsz : (b ++ ⟨#[0]⟩ ++ a).size = b.size + 1 + a.size := by rw [ba_size_append, ba_size_append, e0]
      refine Wp.opt (sadd_ok (by rw [e0]; omega)) ?_
      refine Wp.opt (sadd_ok (by rw [ba_size_append, e0]; omega)) ?_
      obtain ⟨n, rfl⟩ : ∃ n : Nat, w = n := ⟨w.toNat, by omega⟩
      exact specTag6 _ n (by omega) (by omega) _ [] _ rfl (by omega)
  · rw [if_pos (by omega)]; exact Wp.ret rfl
theorem implTag_ok (a b : ByteArray) (w : Int) (ha : a.size ≤ 1048576) : Wp (fun k => impl_Tag k a b w) (· = tagM a b w) := by
  unfold impl_Tag tagM
  simp only [cbdec]
  refine Wp.ite (fun h1 => ?_) (fun h1 => ?_)
  · rw [if_pos (by omega)]; exact Wp.ret rfl
  refine Wp.ite (fun h2 => ?_) (fun h2 => ?_)
  · rw [if_pos (by omega)]; exact Wp.ret rfl
  refine Wp.ite (fun h3 => ?_) (fun h3 => ?_)
  · rw [if_pos (by omega)]; exact Wp.ret rfl
  rw [if_neg (by omega)]
  have e0 : (⟨#[0]⟩ : ByteArray).size = 1 := rfl
  have hsz : (b ++ ⟨#[0]⟩ ++ a).size = b.size + 1 + a.size := by rw [ba_size_append, ba_size_append, e0]
  refine Wp.opt (sadd_ok (by rw [e0]; omega)) ?_
  refine Wp.opt (sadd_ok (by rw [ba_size_append, e0]; omega)) ?_
  obtain ⟨n, rfl⟩ : ∃ n : Nat, w = n := ⟨w.toNat, by omega⟩
  exact implTag6 _ n (by omega) (by omega) (by omega) _ [] _ rfl (by omega)
theorem tagM_size (a b : ByteArray) (w : Int) : (tagM a b w).size ≤ 8 := by
  unfold tagM
  split
  · simp [noB_size]
  · rw [bstr_size, bytesL_length]; omega
end Km.X
namespace Km.X
open Go Km
set_option linter.unusedVariables false
set_option linter.unusedSimpArgs false
/-! ### Send -/
def OkItem (i : Nat) (x : DItem) : Prop := x.Part.Text.size ≤ 20 ∧ (-1 ≤ x.Since ∧ x.Since ≤ 3) ∧ (8 ≤ i → x.Since = -1) ∧ (x.Has = true → 0 ≤ x.Since)
def OkItems : Nat → List DItem → Prop
  | _, [] => True
  | i, x :: t => OkItem i x ∧ OkItems (i + 1) t
instance (i : Nat) (x : DItem) : Decidable (OkItem i x) := by unfold OkItem; infer_instance
instance decOkItems : (i : Nat) → (l : List DItem) → Decidable (OkItems i l)
  | _, [] => .isTrue trivial
  | i, x :: t => by
    have := decOkItems (i + 1) t
    unfold OkItems; infer_instance
def VSend (s : DSend) : Prop := s.Items.length ≤ 60 ∧ (0 ≤ s.Base ∧ s.Base ≤ 1000000) ∧ s.Base + s.Items.length ≤ 1000000 ∧ OkItems 0 s.Items
instance (s : DSend) : Decidable (VSend s) := by unfold VSend; infer_instance
theorem okItems_get : ∀ {l : List DItem} {i : Nat}, OkItems i l → ∀ (j : Nat) (x : DItem), l[j]? = some x → OkItem (i + j) x
  | [], _, _, j, x, h => by simp at h
  | y :: t, i, ⟨h1, h2⟩, j, x, h => by
    cases j with
    | zero => simp at h; subst h; exact h1
    | succ j => have := okItems_get h2 j x (by simpa using h); rwa [show i + 1 + j = i + (j + 1) by omega] at this
theorem validSend_loop (b : Int) : ∀ (t pre : List DItem), (pre ++ t).length ≤ 60 → Wp (fun k => spec_ValidSend_l4 k (pre.length : Int) b (pre ++ t)) (· = decide (OkItems pre.length t))
  | [], pre, hl => by
    refine Wp.step ?_
    simp only [spec_ValidSend_l4, List.append_nil]
    simp (disch := omega) only [cbdec, if_neg]
    exact Wp.ret rfl
  | x :: t, pre, hl => by
    refine Wp.step ?_
    have hl' := hl
    simp only [List.length_append, List.length_cons] at hl
    simp only [spec_ValidSend_l4, OkItems]
    simp (disch := omega) only [cbdec, lt_mid, if_true, idx_mid, Option.bind_some, w64', cbnot, cbne]
    have F : ¬ OkItem pre.length x → Wp (fun _ => some false) (· = decide (OkItem pre.length x ∧ OkItems (pre.length + 1) t)) := fun h => Wp.ret (decide_eq_false fun h' => h h'.1).symm
    have ih := validSend_loop b t (pre ++ [x]) (by simpa using hl')
    rw [← mid_succ, ← mid_len, List.length_append, List.length_singleton] at ih
    have G : OkItem pre.length x → Wp (fun k => spec_ValidSend_l4 k ((pre.length : Int) + 1) b (pre ++ x :: t)) (· = decide (OkItem pre.length x ∧ OkItems (pre.length + 1) t)) := fun h => by
      refine Wp.mono ih fun r hr => ?_
      rw [hr, decide_eq_decide]
      exact ⟨fun g => ⟨h, g⟩, fun g => g.2⟩
    refine Wp.ite (fun h => F fun h' => by have := h'.1; omega) (fun h1 => ?_)
    refine Wp.bind (l1In_ok _ _ _) (fun _ e => ?_); subst e
    simp only [inB, cbdec]
    refine Wp.ite (fun h2 => ?_) (fun h2 => F fun h' => h2 h'.2.1)
    refine Wp.ite (fun h3 => ?_) (fun h3 => ?_)
    · refine Wp.ite (fun h4 => ?_) (fun h4 => F fun h' => h4 (h'.2.2.1 (by omega)))
      refine Wp.bif (fun h5 => ?_) (fun h5 => ?_)
      · refine Wp.ite (fun h6 => F fun h' => by have := h'.2.2.2 h5; omega) (fun h6 => by omega)
      · exact G ⟨by omega, h2, fun _ => h4, fun h => by rw [h5] at h; cases h⟩
    · refine Wp.bif (fun h5 => ?_) (fun h5 => ?_)
      · refine Wp.ite (fun h6 => F fun h' => by have := h'.2.2.2 h5; omega) (fun h6 => ?_)
        exact G ⟨by omega, h2, fun h => by omega, fun _ => by omega⟩
      · exact G ⟨by omega, h2, fun h => by omega, fun h => by rw [h5] at h; cases h⟩
theorem specValidSend_ok (s : DSend) : Wp (fun k => spec_ValidSend k s) (· = decide (VSend s)) := by
  unfold spec_ValidSend
  simp only [cbdec, cbnot]
  have F : ¬ VSend s → Wp (fun _ => some false) (· = decide (VSend s)) := fun h => Wp.ret (decide_eq_false h).symm
  refine Wp.ite (fun h => F fun h' => by have := h'.1; omega) (fun h1 => ?_)
  refine Wp.bind (l1In_ok _ _ _) (fun _ e => ?_); subst e
  simp only [inB, cbdec]
  refine Wp.ite (fun h2 => ?_) (fun h2 => F fun h' => h2 h'.2.1)
  rw [w64' (by omega) (by omega)]
  refine Wp.ite (fun h3 => F fun h' => by have := h'.2.2.1; omega) (fun h3 => ?_)
  refine Wp.mono (validSend_loop s.Base s.Items [] (by simp; omega)) fun r hr => ?_
  rw [hr, decide_eq_decide]
  exact ⟨fun h => ⟨by omega, h2, by omega, h⟩, fun h => h.2.2.2⟩
theorem validSend_same_l (xs : List DItem) (b : Int) : ∀ (k : Nat) (j : Int), impl_ValidSend_l4 k xs (xs.length : Int) j = spec_ValidSend_l4 k j b xs
  | 0, _ => rfl
  | k + 1, j => by
    have hi : ∀ a b c, impl_in k a b c = spec_l1In k a b c := fun _ _ _ => rfl
    simp only [impl_ValidSend_l4, spec_ValidSend_l4, validSend_same_l xs b k, hi]
theorem validSend_same (k : Nat) (s : DSend) : impl_ValidSend k s = spec_ValidSend k s := by
  have hi : ∀ a b c, impl_in k a b c = spec_l1In k a b c := fun _ _ _ => rfl
  simp only [impl_ValidSend, spec_ValidSend, hi, validSend_same_l s.Items s.Base]
theorem implValidSend_ok (s : DSend) : Wp (fun k => impl_ValidSend k s) (· = decide (VSend s)) := by
  have : (fun k => impl_ValidSend k s) = fun k => spec_ValidSend k s := funext fun k => validSend_same k s
  rw [this]; exact specValidSend_ok s
theorem l4Copy_ok (s : DSend) (h : s.Items.length ≤ 1048576) : Wp (fun k => spec_l4Copy k s) (· = s) := by
  unfold spec_l4Copy
  refine Wp.opt (app_ok (by simp; omega)) ?_
  exact Wp.ret (by rw [List.nil_append])
theorem copySend_ok (s : DSend) (h : s.Items.length ≤ 1048576) : Wp (fun k => impl_copySend k s) (· = s) := l4Copy_ok s h
abbrev noSend : DSend := ⟨0, []⟩

/-! ### SendTick -/
def tickI (x : DItem) : DItem := if x.Has = true then x else if x.Since = -1 then ⟨x.Part, x.Has, 0⟩ else if x.Since = 3 then ⟨x.Part, x.Has, 0⟩ else ⟨x.Part, x.Has, x.Since + 1⟩
def sendsI (x : DItem) : Prop := ¬ x.Has = true ∧ (x.Since = -1 ∨ x.Since = 3)
instance (x : DItem) : Decidable (sendsI x) := by unfold sendsI; infer_instance
def tickL : Nat → Int → List DItem → List DItem × List Int
  | _, _, [] => ([], [])
  | i, b, x :: t => if 8 ≤ i then (x :: t, []) else (tickI x :: (tickL (i + 1) b t).1, (if sendsI x then [b + i] else []) ++ (tickL (i + 1) b t).2)
def tickM (s : DSend) : DSend × List Int := if VSend s then (⟨s.Base, (tickL 0 s.Base s.Items).1⟩, (tickL 0 s.Base s.Items).2) else (noSend, [])
theorem tick_specL (b : Int) (xs ys : List DItem) (c d : Int) (hb : 0 ≤ b ∧ b ≤ 1000000) : ∀ (t pre : List DItem) (sent : List Int), (pre ++ t).length ≤ 60 → sent.length ≤ pre.length → OkItems pre.length t →
    Wp (fun k => spec_SendTick_l6 k (pre.length : Int) b xs c sent d ys (pre ++ t)) (· = (⟨d, pre ++ (tickL pre.length b t).1⟩, sent ++ (tickL pre.length b t).2))
  | [], pre, sent, hl, hs, hok => by
    refine Wp.step ?_
    simp only [spec_SendTick_l6, List.append_nil]
    simp (disch := omega) only [cbdec, if_neg]
    exact Wp.ret (by simp [tickL])
  | x :: t, pre, sent, hl, hs, hok => by
    refine Wp.step ?_
    have hl' := hl
    simp only [List.length_append, List.length_cons] at hl
    simp only [spec_SendTick_l6]
    simp only [cbdec, lt_mid, if_true, idx_mid, get_mid, Option.bind_some, cbeq, set_mid]
    simp (disch := omega) only [w64']
    refine Wp.ite (fun h8 => ?_) (fun h8 => ?_)
    · have ih := fun y sent' hs' => tick_specL b xs ys c d hb t (pre ++ [y]) sent' (by simpa using hl') hs' (by rw [List.length_append, List.length_singleton]; exact hok.2)
      have ih' : ∀ (y : DItem) (sent' : List Int), sent'.length ≤ pre.length + 1 → tickI x = y → sent' = sent ++ (if sendsI x then [b + (pre.length : Int)] else []) →
          Wp (fun k => spec_SendTick_l7 k (pre.length : Int) b xs c sent' d ys (pre ++ y :: t)) (· = (⟨d, pre ++ (tickL pre.length b (x :: t)).1⟩, sent ++ (tickL pre.length b (x :: t)).2)) := by
        intro y sent' hs' hy hs2
        refine Wp.step ?_
        simp only [spec_SendTick_l7]
        have := ih y sent' (by simpa using hs')
        rw [← mid_succ, ← mid_len, List.length_append, List.length_singleton] at this
        rw [w64' (by omega) (by omega)]
        refine this.mono fun r hr => ?_
        rw [hr]
        simp only [tickL]
        rw [if_neg (by omega), hs2, hy]
        simp
      refine Wp.bif (fun hh => ih' x sent (by omega) (by simp [tickI, hh]) (by simp [sendsI, hh])) (fun hh => ?_)
      have hx := hok.1
      refine Wp.ite (fun h1 => ?_) (fun h1 => ?_)
      · refine Wp.opt (app_ok (by simp; omega)) ?_
        exact ih' _ _ (by simp; omega) (by simp [tickI, hh, h1]) (by simp [sendsI, hh, h1])
      refine Wp.ite (fun h2 => ?_) (fun h2 => ?_)
      · refine Wp.opt (app_ok (by simp; omega)) ?_
        exact ih' _ _ (by simp; omega) (by simp [tickI, hh, h2]) (by simp [sendsI, hh, h2])
      · have := hx.2.1
        rw [w64' (by omega) (by omega)]
        exact ih' _ _ (by omega) (by simp [tickI, hh, h1, h2]) (by simp [sendsI, hh, h1, h2])
    · refine Wp.ret ?_
      simp only [tickL]
      rw [if_pos (by omega)]; simp
theorem tick_implL (ys : List DItem) (c d : Int) (hb : 0 ≤ d ∧ d ≤ 1000000) : ∀ (t pre : List DItem) (sent : List Int), (pre ++ t).length ≤ 60 → sent.length ≤ pre.length → OkItems pre.length t →
    Wp (fun k => impl_SendTick_l6 k (pre.length : Int) c d sent ys (pre ++ t)) (· = (⟨d, pre ++ (tickL pre.length d t).1⟩, sent ++ (tickL pre.length d t).2))
  | [], pre, sent, hl, hs, hok => by
    refine Wp.step ?_
    simp only [impl_SendTick_l6, List.append_nil]
    simp (disch := omega) only [cbdec, if_neg]
    exact Wp.ret (by simp [tickL])
  | x :: t, pre, sent, hl, hs, hok => by
    refine Wp.step ?_
    have hl' := hl
    simp only [List.length_append, List.length_cons] at hl
    simp only [impl_SendTick_l6]
    simp only [cbdec, lt_mid, if_true, idx_mid, get_mid, Option.bind_some, cbeq, set_mid]
    simp (disch := omega) only [w64']
    refine Wp.ite (fun h8 => ?_) (fun h8 => ?_)
    · have ih := fun y sent' hs' => tick_implL ys c d hb t (pre ++ [y]) sent' (by simpa using hl') hs' (by rw [List.length_append, List.length_singleton]; exact hok.2)
      have ih' : ∀ (y : DItem) (sent' : List Int), sent'.length ≤ pre.length + 1 → tickI x = y → sent' = sent ++ (if sendsI x then [d + (pre.length : Int)] else []) →
          Wp (fun k => impl_SendTick_l7 k (pre.length : Int) c d sent' ys (pre ++ y :: t)) (· = (⟨d, pre ++ (tickL pre.length d (x :: t)).1⟩, sent ++ (tickL pre.length d (x :: t)).2)) := by
        intro y sent' hs' hy hs2
        refine Wp.step ?_
        simp only [impl_SendTick_l7]
        have := ih y sent' (by simpa using hs')
        rw [← mid_succ, ← mid_len, List.length_append, List.length_singleton] at this
        rw [w64' (by omega) (by omega)]
        refine this.mono fun r hr => ?_
        rw [hr]
        simp only [tickL]
        rw [if_neg (by omega), hs2, hy]
        simp
      refine Wp.bif (fun hh => ih' x sent (by omega) (by simp [tickI, hh]) (by simp [sendsI, hh])) (fun hh => ?_)
      have hx := hok.1
      refine Wp.ite (fun h1 => ?_) (fun h1 => ?_)
      · refine Wp.opt (app_ok (by simp; omega)) ?_
        exact ih' _ _ (by simp; omega) (by simp [tickI, hh, h1]) (by simp [sendsI, hh, h1])
      refine Wp.ite (fun h2 => ?_) (fun h2 => ?_)
      · refine Wp.opt (app_ok (by simp; omega)) ?_
        exact ih' _ _ (by simp; omega) (by simp [tickI, hh, h2]) (by simp [sendsI, hh, h2])
      · have := hx.2.1
        rw [w64' (by omega) (by omega)]
        exact ih' _ _ (by omega) (by simp [tickI, hh, h1, h2]) (by simp [sendsI, hh, h1, h2])
    · refine Wp.ret ?_
      simp only [tickL]
      rw [if_pos (by omega)]; simp
theorem specTick_ok (s : DSend) : Wp (fun k => spec_SendTick k s) (· = tickM s) := by
  unfold spec_SendTick tickM
  refine Wp.bind (specValidSend_ok s) (fun _ e => ?_); subst e
  simp only [cbnot, cbdec]
  refine Wp.ite (fun h => ?_) (fun h => Wp.ret (by rw [if_neg h]))
  rw [if_pos h]
  refine Wp.bind (l4Copy_ok s (by have := h.1; omega)) (fun _ e => ?_); subst e
  exact tick_specL _ _ _ _ _ h.2.1 _ [] [] (by simpa using h.1) (by simp) h.2.2.2
theorem implTick_ok (s : DSend) : Wp (fun k => impl_SendTick k s) (· = tickM s) := by
  unfold impl_SendTick tickM
  refine Wp.bind (implValidSend_ok s) (fun _ e => ?_); subst e
  simp only [cbnot, cbdec]
  refine Wp.ite (fun h => ?_) (fun h => Wp.ret (by rw [if_neg h]))
  rw [if_pos h]
  refine Wp.bind (copySend_ok s (by have := h.1; omega)) (fun _ e => ?_); subst e
  exact tick_implL _ _ _ h.2.1 _ [] [] (by simpa using h.1) (by simp) h.2.2.2
end Km.X
namespace Km.X
open Go Km
set_option linter.unusedVariables false
set_option linter.unusedSimpArgs false
/-! ### marks of composite values -/
/-! ### a tick keeps it valid -/
theorem noSend_V : VSend noSend := ⟨by simp, by simp, by simp, trivial⟩
theorem okItems_mem : ∀ {l : List DItem} {i : Nat}, OkItems i l → ∀ x ∈ l, x.Part.Text.size ≤ 20
  | [], _, _, x, h => by simp at h
  | y :: t, i, ⟨h1, h2⟩, x, h => by
    rcases List.mem_cons.mp h with rfl | h
    · exact h1.1
    · exact okItems_mem h2 x h
theorem VSend.sm {s : DSend} (h : VSend s) : smSend s := by
  unfold smSend smL
  refine ⟨by have := h.1; omega, fun x hx => ?_⟩
  have := okItems_mem h.2.2.2 x hx
  show x.Part.Text.size ≤ 1048576
  omega
theorem tickI_part (x : DItem) : (tickI x).Part = x.Part := by unfold tickI; repeat' split <;> try rfl
theorem tickL_ok : ∀ (t : List DItem) (i : Nat) (b : Int), OkItems i t → OkItems i (tickL i b t).1 ∧ (tickL i b t).1.length = t.length ∧ (tickL i b t).2.length ≤ t.length
  | [], i, b, h => ⟨trivial, rfl, by simp [tickL]⟩
  | x :: t, i, b, ⟨h1, h2⟩ => by
    simp only [tickL]
    split
    · exact ⟨⟨h1, h2⟩, rfl, by simp⟩
    · have := tickL_ok t (i + 1) b h2
      refine ⟨⟨?_, this.1⟩, by simp [this.2.1], ?_⟩
      · obtain ⟨a1, a2, a3, a4⟩ := h1
        refine ⟨by rw [tickI_part]; exact a1, ?_, fun _ => by omega, ?_⟩
        · unfold tickI; split
          · exact a2
          · split
            · simp
            · split
              · simp
              · simp only; omega
        · unfold tickI; split
          · exact a4
          · rename_i hh
            split
            · intro h; exact absurd h hh
            · split <;> (intro h; exact absurd h hh)
      · have h3 := this.2.2
        simp only [List.length_append, List.length_cons]
        split <;> simp <;> omega
theorem tickM_ok (s : DSend) : VSend (tickM s).1 ∧ (tickM s).2.length ≤ 60 := by
  unfold tickM
  split
  · rename_i h
    have := tickL_ok s.Items 0 s.Base h.2.2.2
    refine ⟨⟨by simp only; rw [this.2.1]; exact h.1, h.2.1, by simp only; rw [this.2.1]; exact h.2.2.1, this.1⟩, by have := h.1; simp only; omega⟩
  · exact ⟨noSend_V, by simp⟩
end Km.X
namespace Km.X
open Go Km
set_option linter.unusedVariables false
set_option linter.unusedSimpArgs false
/-! ### Cut -/
def cutL : Nat → ByteArray → List DPart
  | 0, _ => []
  | n + 1, s => if 20 < s.size then ⟨s.extract 0 20, false⟩ :: cutL n (s.extract 20 s.size) else [⟨s, true⟩]
theorem cut_spec : ∀ (n : Nat) (s : ByteArray) (acc : List DPart), s.size ≤ 20 * n → acc.length + n ≤ 100 → 0 < n → Wp (fun k => spec_Cut_l4 k s acc) (· = acc ++ cutL n s)
  | 0, s, acc, h, hl, h0 => by omega
  | n + 1, s, acc, h, hl, h0 => by
    refine Wp.step ?_
    simp only [spec_Cut_l4, cutL]
    simp only [cbdec]
    refine Wp.ite (fun h1 => ?_) (fun h1 => ?_)
    · have h1' : 20 < s.size := by omega
      rw [if_pos h1']
      refine Wp.opt (wnd_ok (by omega)) ?_
      refine Wp.opt (app_ok (by simp; omega)) ?_
      refine Wp.opt (wnd_ok (by omega)) ?_
      have := cut_spec n (s.extract 20 s.size) (acc ++ [⟨s.extract 0 20, false⟩]) (by rw [ByteArray.size_extract]; omega) (by simp; omega) (by omega)
      simp only [List.append_assoc, List.cons_append, List.nil_append] at this
      exact this
    · rw [if_neg (by omega)]
      refine Wp.opt (app_ok (by simp; omega)) ?_
      exact Wp.ret rfl
theorem cut_same : ∀ (k : Nat) (s : ByteArray) (acc : List DPart), impl_Cut_l4 k s acc = spec_Cut_l4 k s acc
  | 0, _, _ => rfl
  | k + 1, s, acc => by
    simp only [impl_Cut_l4, spec_Cut_l4, cut_same k]
def cutM (s : ByteArray) : List DPart := if 200 < s.size then [] else cutL 10 s
theorem specCut_ok (s : ByteArray) : Wp (fun k => spec_Cut k s) (· = cutM s) := by
  unfold spec_Cut cutM
  simp only [cbdec]
  refine Wp.ite (fun h => ?_) (fun h => ?_)
  · rw [if_pos (by omega)]; exact Wp.ret rfl
  · rw [if_neg (by omega)]; exact cut_spec 10 s [] (by omega) (by simp) (by omega)
theorem implCut_ok (s : ByteArray) : Wp (fun k => impl_Cut k s) (· = cutM s) := by
  have : (fun k => impl_Cut k s) = fun k => spec_Cut k s := funext fun k => by simp only [impl_Cut, spec_Cut, cut_same]
  rw [this]; exact specCut_ok s
theorem cutL_ok : ∀ (n : Nat) (s : ByteArray), s.size ≤ 20 * n → (cutL n s).length ≤ n ∧ ∀ p ∈ cutL n s, p.Text.size ≤ 20
  | 0, s, h => ⟨by simp [cutL], fun p hp => by simp [cutL] at hp⟩
  | n + 1, s, h => by
    simp only [cutL]
    split
    · have := cutL_ok n (s.extract 20 s.size) (by rw [ByteArray.size_extract]; omega)
      refine ⟨by simp [this.1], fun p hp => ?_⟩
      rcases List.mem_cons.mp hp with rfl | hp
      · simp only [ByteArray.size_extract]; omega
      · exact this.2 p hp
    · refine ⟨by simp, fun p hp => ?_⟩
      simp only [List.mem_singleton] at hp
      subst hp; simp only; omega
theorem cutM_ok (s : ByteArray) : (cutM s).length ≤ 10 ∧ ∀ p ∈ cutM s, p.Text.size ≤ 20 := by
  unfold cutM
  split
  · exact ⟨by simp, fun p hp => by simp at hp⟩
  · exact cutL_ok 10 s (by omega)
/-! ### SendPush -/
def newI (p : DPart) : DItem := ⟨p, false, -1⟩
def pushM (s : DSend) (t : ByteArray) : DSend × Int :=
  if VSend s ∧ t.size ≤ 200 then
    if s.Items.length + (cutM t).length ≤ 60 ∧ s.Base + (s.Items.length + (cutM t).length : Nat) ≤ 1000000 then (⟨s.Base, s.Items ++ (cutM t).map newI⟩, 0) else (noSend, 3)
  else (noSend, 1)
theorem push_spec (c b : Int) (e : List DItem) : ∀ (t pre : List DPart) (acc : List DItem), (pre ++ t).length ≤ 100 → acc.length + t.length ≤ 1000 →
    Wp (fun k => spec_SendPush_l9 k (pre.length : Int) c (pre ++ t) b e acc) (· = (⟨b, acc ++ t.map newI⟩, 0))
  | [], pre, acc, hl, ha => by
    refine Wp.step ?_
    simp only [spec_SendPush_l9, List.append_nil]
    simp (disch := omega) only [cbdec, if_neg]
    exact Wp.ret (by simp)
  | x :: t, pre, acc, hl, ha => by
    refine Wp.step ?_
    have hl' := hl
    simp only [List.length_append, List.length_cons] at hl ha
    simp only [spec_SendPush_l9]
    simp only [cbdec, lt_mid, if_true, idx_mid, get_mid, Option.bind_some]
    refine Wp.opt (app_ok (by simp; omega)) ?_
    simp (disch := omega) only [w64']
    have ih := push_spec c b e t (pre ++ [x]) (acc ++ [newI x]) (by simpa using hl') (by simp; omega)
    rw [← mid_succ, ← mid_len] at ih
    simp only [List.append_assoc, List.cons_append, List.nil_append] at ih
    exact ih
theorem push_impl (c b : Int) (e : List DItem) : ∀ (t pre : List DPart) (acc : List DItem), (pre ++ t).length ≤ 100 → acc.length + t.length ≤ 1000 →
    Wp (fun k => impl_SendPush_l9 k ((pre ++ t).length : Int) (pre.length : Int) c b (pre ++ t) e acc) (· = (⟨b, acc ++ t.map newI⟩, 0))
  | [], pre, acc, hl, ha => by
    refine Wp.step ?_
    simp only [impl_SendPush_l9, List.append_nil]
    simp (disch := omega) only [cbdec, if_neg]
    exact Wp.ret (by simp)
  | x :: t, pre, acc, hl, ha => by
    refine Wp.step ?_
    have hl' := hl
    simp only [List.length_append, List.length_cons] at hl ha
    simp only [impl_SendPush_l9]
    simp only [cbdec, lt_mid, if_true, idx_mid, get_mid, Option.bind_some]
    refine Wp.opt (app_ok (by simp; omega)) ?_
    simp (disch := omega) only [w64']
    have ih := push_impl c b e t (pre ++ [x]) (acc ++ [newI x]) (by simpa using hl') (by simp; omega)
    rw [← mid_succ, ← mid_len] at ih
    simp only [List.append_assoc, List.cons_append, List.nil_append] at ih
    exact ih
theorem specPush_ok (s : DSend) (t : ByteArray) : Wp (fun k => spec_SendPush k s t) (· = pushM s t) := by
  unfold spec_SendPush pushM
  refine Wp.bind (specValidSend_ok s) (fun _ e => ?_); subst e
  simp only [cbnot, cbdec]
  refine Wp.ite (fun h => ?_) (fun h => Wp.ret (by rw [if_neg (fun g => h g.1)]))
  refine Wp.ite (fun h2 => Wp.ret (by rw [if_neg (fun g => by omega)])) (fun h2 => ?_)
  rw [if_pos ⟨h, by omega⟩]
  refine Wp.bind (specCut_ok t) (fun _ e => ?_); subst e
  have := h.1; have hb := h.2.1; have hc := (cutM_ok t).1
  simp (disch := omega) only [w64']
  refine Wp.ite (fun h3 => Wp.ret (by rw [if_neg (fun g => by omega)])) (fun h3 => ?_)
  refine Wp.ite (fun h4 => Wp.ret (by rw [if_neg (fun g => by omega)])) (fun h4 => ?_)
  rw [if_pos ⟨by omega, by omega⟩]
  refine Wp.bind (l4Copy_ok s (by omega)) (fun _ e => ?_); subst e
  exact push_spec _ _ _ (cutM t) [] _ (by simp; omega) (by omega)
theorem implPush_ok (s : DSend) (t : ByteArray) : Wp (fun k => impl_SendPush k s t) (· = pushM s t) := by
  unfold impl_SendPush pushM
  refine Wp.bind (implValidSend_ok s) (fun _ e => ?_); subst e
  simp only [cbnot, cbdec]
  refine Wp.ite (fun h => ?_) (fun h => Wp.ret (by rw [if_neg (fun g => h g.1)]))
  refine Wp.ite (fun h2 => Wp.ret (by rw [if_neg (fun g => by omega)])) (fun h2 => ?_)
  rw [if_pos ⟨h, by omega⟩]
  refine Wp.bind (implCut_ok t) (fun _ e => ?_); subst e
  have := h.1; have hb := h.2.1; have hc := (cutM_ok t).1
  simp (disch := omega) only [w64']
  refine Wp.ite (fun h3 => Wp.ret (by rw [if_neg (fun g => by omega)])) (fun h3 => ?_)
  refine Wp.ite (fun h4 => Wp.ret (by rw [if_neg (fun g => by omega)])) (fun h4 => ?_)
  rw [if_pos ⟨by omega, by omega⟩]
  refine Wp.bind (copySend_ok s (by omega)) (fun _ e => ?_); subst e
  exact push_impl _ _ _ (cutM t) [] _ (by simp; omega) (by omega)
theorem okItems_app : ∀ {l r : List DItem} {i : Nat}, OkItems i l → OkItems (i + l.length) r → OkItems i (l ++ r)
  | [], r, i, _, h => by simpa using h
  | x :: l, r, i, ⟨h1, h2⟩, h => ⟨h1, okItems_app h2 (by rwa [show i + 1 + l.length = i + (x :: l).length by simp; omega])⟩
theorem okItems_new : ∀ {l : List DPart} {i : Nat}, (∀ p ∈ l, p.Text.size ≤ 20) → OkItems i (l.map newI)
  | [], i, h => trivial
  | p :: l, i, h => ⟨⟨h p (List.mem_cons_self ..), by simp [newI], fun _ => rfl, fun h => by simp [newI] at h⟩, okItems_new fun q hq => h q (List.mem_cons_of_mem _ hq)⟩
theorem pushM_ok (s : DSend) (t : ByteArray) : VSend (pushM s t).1 := by
  unfold pushM
  split
  · rename_i h
    split
    · rename_i h2
      refine ⟨by simp only [List.length_append, List.length_map]; omega, h.1.2.1, ?_, okItems_app h.1.2.2.2 (okItems_new (cutM_ok t).2)⟩
      simp only [List.length_append, List.length_map]
      exact h2.2
    · exact noSend_V
  · exact noSend_V
/-! ### SendWord -/
def frontL : List DItem → Nat
  | [] => 0
  | x :: t => if 0 ≤ x.Since then frontL t + 1 else 0
theorem frontL_le : ∀ l : List DItem, frontL l ≤ l.length
  | [] => Nat.le_refl _
  | x :: t => by have := frontL_le t; simp only [frontL, List.length_cons]; split <;> omega
def hasL : Nat → Nat → List DItem → List DItem
  | _, _, [] => []
  | i, m, x :: t => (if i < 8 ∧ m % 2 = 1 ∧ 0 ≤ x.Since then ⟨x.Part, true, x.Since⟩ else x) :: hasL (i + 1) (m / 2) t
theorem hasL_ge : ∀ (i m : Nat) (l : List DItem), 8 ≤ i → hasL i m l = l
  | i, m, [], h => rfl
  | i, m, x :: t, h => by simp only [hasL]; rw [if_neg (by omega), hasL_ge (i + 1) _ t (by omega)]
def wordM (s : DSend) (n m : Int) : DSend :=
  if VSend s then
    if s.Base ≤ n ∧ n ≤ s.Base + frontL s.Items ∧ 0 ≤ m ∧ m ≤ 255 then ⟨n, hasL 0 m.toNat (s.Items.drop (n - s.Base).toNat)⟩ else s
  else noSend
theorem front_spec (b : Int) : ∀ (t pre : List DItem), (pre ++ t).length ≤ 1000 → Wp (fun k => spec_l4Front_l2 k (pre.length : Int) b (pre ++ t)) (· = ((pre.length + frontL t : Nat) : Int))
  | [], pre, hl => by
    refine Wp.step ?_
    simp only [spec_l4Front_l2, List.append_nil]
    simp (disch := omega) only [cbdec, if_neg]
    exact Wp.ret rfl
  | x :: t, pre, hl => by
    refine Wp.step ?_
    have hl' := hl
    simp only [List.length_append, List.length_cons] at hl
    simp only [spec_l4Front_l2]
    simp only [cbdec, lt_mid, if_true, idx_mid, get_mid, Option.bind_some]
    simp only [frontL]
    refine Wp.ite (fun h => ?_) (fun h => ?_)
    · rw [if_pos (by omega)]
      simp (disch := omega) only [w64']
      have ih := front_spec b t (pre ++ [x]) (by simpa using hl')
      rw [← mid_succ, ← mid_len] at ih
      refine ih.mono fun r hr => ?_
      rw [hr, List.length_append, List.length_singleton]; omega
    · rw [if_neg (by omega)]; exact Wp.ret rfl
theorem qrem2 (m : Nat) : qrem (m : Int) 2 = some ((m % 2 : Nat) : Int) := by rw [qrem_nn (by omega) (by omega)]; simp
theorem qdiv2 (m : Nat) : qdiv (m : Int) 2 = some ((m / 2 : Nat) : Int) := by rw [qdiv_nn (by omega) (by omega)]; simp
theorem word_spec_end (c b : Int) (e : List DItem) (xs : List DItem) (hx : xs.length ≤ 1000) : ∀ (d i m : Nat), i + d = 8 → xs.length ≤ i → m ≤ 255 →
    Wp (fun k => spec_SendWord_l9 k (m : Int) (i : Int) c b e xs) (· = ⟨b, xs⟩)
  | 0, i, m, h, hi, hm => by
    refine Wp.step ?_
    simp only [spec_SendWord_l9]
    simp (disch := omega) only [cbdec, if_neg]
    exact Wp.ret rfl
  | d + 1, i, m, h, hi, hm => by
    refine Wp.step ?_
    simp only [spec_SendWord_l9]
    simp (disch := omega) only [cbdec, if_pos, qrem2, Option.bind_some, cbeq]
    have ih := word_spec_end c b e xs hx d (i + 1) (m / 2) (by omega) (by omega) (by omega)
    have G : Wp (fun k => spec_SendWord_l13 k (m : Int) (i : Int) c b e xs) (· = ⟨b, xs⟩) := by
      refine Wp.step ?_
      simp only [spec_SendWord_l13]
      simp (disch := omega) only [qdiv2, Option.bind_some, w64', castS]
      exact ih
    refine Wp.ite (fun h1 => ?_) (fun h1 => G)
    simp (disch := omega) only [if_neg]
    exact G
theorem word_spec (c b : Int) (e : List DItem) : ∀ (t pre : List DItem) (m : Nat), (pre ++ t).length ≤ 1000 → m ≤ 255 →
    Wp (fun k => spec_SendWord_l9 k (m : Int) (pre.length : Int) c b e (pre ++ t)) (· = ⟨b, pre ++ hasL pre.length m t⟩)
  | [], pre, m, hl, hm => by
    rw [List.append_nil] at hl ⊢
    simp only [hasL, List.append_nil]
    by_cases h8 : pre.length ≤ 8
    · exact word_spec_end c b e pre hl (8 - pre.length) pre.length m (by omega) (Nat.le_refl _) hm
    · refine Wp.step ?_
      simp only [spec_SendWord_l9]
      simp (disch := omega) only [cbdec, if_neg]
      exact Wp.ret rfl
  | x :: t, pre, m, hl, hm => by
    refine Wp.step ?_
    have hl' := hl
    simp only [List.length_append, List.length_cons] at hl
    simp only [spec_SendWord_l9]
    simp only [cbdec, lt_mid, if_true, idx_mid, get_mid, Option.bind_some, set_mid, cbeq]
    refine Wp.ite (fun h8 => ?_) (fun h8 => Wp.ret (by rw [hasL_ge _ _ _ (by omega)]))
    have ih : ∀ y : DItem, (if pre.length < 8 ∧ m % 2 = 1 ∧ 0 ≤ x.Since then ⟨x.Part, true, x.Since⟩ else x) = y →
        Wp (fun k => spec_SendWord_l13 k (m : Int) (pre.length : Int) c b e (pre ++ y :: t)) (· = ⟨b, pre ++ hasL pre.length m (x :: t)⟩) := by
      intro y hy
      refine Wp.step ?_
      simp only [spec_SendWord_l13]
      simp (disch := omega) only [qdiv2, Option.bind_some, w64']
      have := word_spec c b e t (pre ++ [y]) (m / 2) (by simpa using hl') (by omega)
      rw [← mid_succ, ← mid_len, List.length_append, List.length_singleton] at this
      refine this.mono fun r hr => ?_
      rw [hr]
      simp only [hasL, List.append_assoc, List.cons_append, List.nil_append, hy]
    simp (disch := omega) only [qrem2, Option.bind_some]
    refine Wp.ite (fun h1 => ?_) (fun h1 => ih x (by rw [if_neg (by omega)]))
    refine Wp.ite (fun h2 => ih _ (by rw [if_pos (by omega)])) (fun h2 => ih x (by rw [if_neg (by omega)]))
theorem specWord_ok (s : DSend) (n m : Int) : Wp (fun k => spec_SendWord k s n m) (· = wordM s n m) := by
  unfold spec_SendWord wordM
  refine Wp.bind (specValidSend_ok s) (fun _ e => ?_); subst e
  simp only [cbnot, cbdec]
  refine Wp.ite (fun h => ?_) (fun h => Wp.ret (by rw [if_neg h]))
  rw [if_pos h]
  have := h.1; have hb := h.2.1
  refine Wp.bind (l4Copy_ok s (by omega)) (fun r2 e => ?_); rw [e]
  refine Wp.ite (fun h2 => Wp.ret (by rw [if_neg (by omega)])) (fun h2 => ?_)
  refine Wp.bind (P := fun r => r = ((0 + frontL s.Items : Nat) : Int)) (front_spec s.Base s.Items [] (by simp; omega)) (fun _ e => ?_); subst e
  have hf := frontL_le s.Items
  simp (disch := omega) only [w64']
  refine Wp.ite (fun h3 => Wp.ret (by rw [if_neg (by omega)])) (fun h3 => ?_)
  refine Wp.bind (l1In_ok _ _ _) (fun _ e => ?_); subst e
  simp only [inB, cbdec]
  refine Wp.ite (fun h4 => ?_) (fun h4 => Wp.ret (by rw [if_neg (by omega)]))
  rw [if_pos (by omega)]
  refine Wp.opt (wnd_ok (by omega)) ?_
  refine Wp.opt (app_ok (by simp [dcut]; omega)) ?_
  have e1 : ([] : List DItem) ++ dcut s.Items (n - s.Base).toNat (s.Items.length : Int).toNat = s.Items.drop (n - s.Base).toNat := by simp [dcut]
  rw [e1]
  have := word_spec 0 n [] (s.Items.drop (n - s.Base).toNat) [] m.toNat (by simp; omega) (by omega)
  simp only [List.nil_append, List.length_nil, Int.toNat_of_nonneg h4.1] at this
  exact this
theorem bitsAnd1 (n : Nat) (hn : n < 281474976710656) : bitsAnd .i64 (n : Int) 1 = ((n % 2 : Nat) : Int) := by
  have e : ∀ m : Nat, BitVec.ofInt 64 (m : Int) = BitVec.ofNat 64 m := fun m => by
    apply BitVec.eq_of_toNat_eq
    simp [BitVec.toNat_ofInt]
  show IntKind.wrap .i64 ((BitVec.ofInt 64 (n : Int) &&& BitVec.ofInt 64 ((1 : Nat) : Int)).toNat : Int) = _
  rw [e, e, BitVec.toNat_and, BitVec.toNat_ofNat, BitVec.toNat_ofNat, Nat.mod_eq_of_lt (by omega), Nat.mod_eq_of_lt (by omega), Nat.and_one_is_mod]
  exact w64' (by omega) (by omega)
theorem shr_at (n i : Nat) (h : i ≤ 64) : shift .shr .i64 (n : Int) (i : Int) = some ((n / 2 ^ i : Nat) : Int) := by
  simp only [shift]
  rw [if_neg (by omega)]
  congr 1
  rw [Int.toNat_natCast, show IntKind.i64.bits = 64 from rfl, Nat.min_eq_left h, Int.fdiv_eq_ediv_of_nonneg _ (by exact Int.le_of_lt (Int.pow_pos (by decide)))]
  simp
theorem word_impl12 (c b d : Int) (e : List DItem) (M : Nat) (hM : M ≤ 255) : ∀ (t pre : List DItem), (pre ++ t).length ≤ 1000 →
    Wp (fun k => impl_SendWord_l12 k (M : Int) (pre.length : Int) c b e (pre ++ t)) (· = ⟨b, pre ++ hasL pre.length (M / 2 ^ pre.length) t⟩)
  | [], pre, hl => by
    refine Wp.step ?_
    rw [List.append_nil] at hl ⊢
    simp only [impl_SendWord_l12, hasL, List.append_nil]
    simp (disch := omega) only [cbdec, if_neg]
    exact Wp.ite (fun h => Wp.ret rfl) (fun h => Wp.ret rfl)
  | x :: t, pre, hl => by
    refine Wp.step ?_
    have hl' := hl
    simp only [List.length_append, List.length_cons] at hl
    simp only [impl_SendWord_l12]
    simp only [cbdec, lt_mid, if_true, idx_mid, get_mid, Option.bind_some, set_mid, cbeq]
    refine Wp.ite (fun h8 => ?_) (fun h8 => Wp.ret (by rw [hasL_ge _ _ _ (by omega)]))
    have ih : ∀ y : DItem, (if pre.length < 8 ∧ M / 2 ^ pre.length % 2 = 1 ∧ 0 ≤ x.Since then ⟨x.Part, true, x.Since⟩ else x) = y →
        Wp (fun k => impl_SendWord_l13 k (M : Int) (pre.length : Int) c b e (pre ++ y :: t)) (· = ⟨b, pre ++ hasL pre.length (M / 2 ^ pre.length) (x :: t)⟩) := by
      intro y hy
      refine Wp.step ?_
      simp only [impl_SendWord_l13]
      simp (disch := omega) only [w64']
      have := word_impl12 c b d e M hM t (pre ++ [y]) (by simpa using hl')
      rw [← mid_succ, ← mid_len, List.length_append, List.length_singleton] at this
      refine this.mono fun r hr => ?_
      rw [hr]
      simp only [hasL, List.append_assoc, List.cons_append, List.nil_append, hy, Nat.div_div_eq_div_mul, Nat.pow_succ]
    have hlt : M / 2 ^ pre.length < 281474976710656 := Nat.lt_of_le_of_lt (Nat.div_le_self _ _) (by omega)
    rw [shr_at _ _ (by omega)]
    simp only [Option.bind_some]
    rw [bitsAnd1 _ hlt]
    refine Wp.ite (fun h1 => ?_) (fun h1 => ih x (by rw [if_neg (by omega)]))
    refine Wp.ite (fun h2 => ih _ (by rw [if_pos (by omega)])) (fun h2 => ih x (by rw [if_neg (by omega)]))
theorem word_impl5 (n m c b : Int) (e : List DItem) (hb : 0 ≤ b ∧ b ≤ 1000000) : ∀ (t pre : List DItem), (pre ++ t).length ≤ 1000 →
    Wp (fun k => impl_SendWord_l5 k n m (pre.length : Int) c b e (pre ++ t)) (· = if b ≤ n ∧ n ≤ b + (pre.length + frontL t : Nat) ∧ 0 ≤ m ∧ m ≤ 255 then ⟨n, hasL 0 m.toNat ((pre ++ t).drop (n - b).toNat)⟩ else ⟨b, pre ++ t⟩) := by
  have F : ∀ (xs : List DItem) (j : Nat), xs.length ≤ 1000 → j ≤ xs.length → Wp (fun k => if n < b then some (⟨b, xs⟩ : DSend) else if n > IntKind.wrap .i64 (b + (j : Int)) then some ⟨b, xs⟩ else
      (impl_in k m 0 255).bind fun r4 => bif !r4 then some ⟨b, xs⟩ else
        (wnd xs.length (IntKind.wrap .i64 (n - b)) (xs.length : Int)).bind fun p5 =>
        (app 40 ([] : List DItem) (dcut xs p5.1 p5.2)).bind fun l6 => impl_SendWord_l12 k m 0 c n e l6)
      (· = if b ≤ n ∧ n ≤ b + (j : Nat) ∧ 0 ≤ m ∧ m ≤ 255 then ⟨n, hasL 0 m.toNat (xs.drop (n - b).toNat)⟩ else ⟨b, xs⟩) := by
    intro xs j hx hj
    refine Wp.ite (fun h2 => Wp.ret (by rw [if_neg (by omega)])) (fun h2 => ?_)
    simp (disch := omega) only [w64']
    refine Wp.ite (fun h3 => Wp.ret (by rw [if_neg (by omega)])) (fun h3 => ?_)
    refine Wp.bind (in_ok _ _ _) (fun _ e => ?_); subst e
    simp only [inB, cbdec, cbnot]
    refine Wp.ite (fun h4 => ?_) (fun h4 => Wp.ret (by rw [if_neg (by omega)]))
    rw [if_pos (by omega)]
    refine Wp.opt (wnd_ok (by omega)) ?_
    refine Wp.opt (app_ok (by simp [dcut]; omega)) ?_
    have e1 : ([] : List DItem) ++ dcut xs (n - b).toNat (xs.length : Int).toNat = xs.drop (n - b).toNat := by simp [dcut]
    rw [e1]
    have := word_impl12 c n 0 e m.toNat (by omega) (xs.drop (n - b).toNat) [] (by simp; omega)
    simp only [List.nil_append, List.length_nil, Int.toNat_of_nonneg h4.1, Nat.pow_zero, Nat.div_one] at this
    exact this
  intro t
  induction t with
  | nil =>
    intro pre hl
    refine Wp.step ?_
    simp only [impl_SendWord_l5]
    rw [List.append_nil] at hl ⊢
    simp (disch := omega) only [cbdec, if_neg]
    exact F pre pre.length hl (Nat.le_refl _)
  | cons x t ih =>
    intro pre hl
    refine Wp.step ?_
    simp only [impl_SendWord_l5]
    simp only [cbdec, lt_mid, if_true, idx_mid, get_mid, Option.bind_some]
    have hl' := hl
    simp only [List.length_append, List.length_cons] at hl
    refine Wp.ite (fun h => ?_) (fun h => ?_)
    · rw [w64' (by omega) (by omega)]
      have := ih (pre ++ [x]) (by simpa using hl')
      rw [← mid_succ, ← mid_len, List.length_append, List.length_singleton] at this
      have e : pre.length + frontL (x :: t) = pre.length + 1 + frontL t := by simp only [frontL]; rw [if_pos h]; omega
      simp only [e]
      exact this
    · have e : frontL (x :: t) = 0 := by simp only [frontL]; rw [if_neg h]
      simp only [e]
      exact F (pre ++ x :: t) pre.length (by simpa using hl') (by simp)
theorem implWord_ok (s : DSend) (n m : Int) : Wp (fun k => impl_SendWord k s n m) (· = wordM s n m) := by
  unfold impl_SendWord wordM
  refine Wp.bind (implValidSend_ok s) (fun _ e => ?_); subst e
  simp only [cbnot, cbdec]
  refine Wp.ite (fun h => ?_) (fun h => Wp.ret (by rw [if_neg h]))
  rw [if_pos h]
  have := h.1; have hb := h.2.1
  refine Wp.bind (copySend_ok s (by omega)) (fun r2 e => ?_); rw [e]
  have := word_impl5 n m 0 s.Base [] hb s.Items [] (by simp; omega)
  simp only [List.nil_append, List.length_nil, Nat.zero_add] at this
  exact this
theorem OkItem.mono {i j : Nat} {x : DItem} (h : OkItem j x) (hij : i ≤ j) : OkItem i x := ⟨h.1, h.2.1, fun h8 => h.2.2.1 (by omega), h.2.2.2⟩
theorem OkItems.mono : ∀ {l : List DItem} {i j : Nat}, OkItems j l → i ≤ j → OkItems i l
  | [], _, _, _, _ => trivial
  | x :: t, i, j, ⟨h1, h2⟩, hij => ⟨h1.mono hij, h2.mono (by omega)⟩
theorem OkItems.drop : ∀ {l : List DItem} {i : Nat} (d : Nat), OkItems i l → OkItems i (l.drop d)
  | l, i, 0, h => h
  | [], i, d + 1, h => trivial
  | x :: t, i, d + 1, ⟨_, h2⟩ => (OkItems.drop d h2).mono (by omega)
theorem okItems_has : ∀ {l : List DItem} {i m : Nat}, OkItems i l → OkItems i (hasL i m l)
  | [], _, _, _ => trivial
  | x :: t, i, m, ⟨h1, h2⟩ => by
    refine ⟨?_, okItems_has h2⟩
    split
    · rename_i h; exact ⟨h1.1, h1.2.1, h1.2.2.1, fun _ => h.2.2⟩
    · exact h1
theorem hasL_length : ∀ (i m : Nat) (l : List DItem), (hasL i m l).length = l.length
  | _, _, [] => rfl
  | i, m, x :: t => by simp [hasL, hasL_length (i + 1) (m / 2) t]
theorem wordM_ok (s : DSend) (n m : Int) : VSend (wordM s n m) := by
  unfold wordM
  split
  · rename_i h
    split
    · rename_i h2
      have hf := frontL_le s.Items
      obtain ⟨v1, v2, v3, v4⟩ := h
      refine ⟨?_, ?_, ?_, okItems_has (v4.drop _)⟩
      · simp only [hasL_length, List.length_drop]; omega
      · simp only; omega
      · simp only [hasL_length, List.length_drop]; omega
    · assumption
  · exact noSend_V
end Km.X
namespace Km.X
open Go Km
set_option linter.unusedVariables false
set_option linter.unusedSimpArgs false
/-! ### Take -/
def goes (o : ByteArray) (r : List ByteArray) (p : DPart) : Prop := o.size + p.Text.size ≤ 200 ∧ (p.Last = true → r.length < 4)
instance (o : ByteArray) (r : List ByteArray) (p : DPart) : Decidable (goes o r p) := by unfold goes; infer_instance
theorem can_ok (n : Int) (h : List DHeld) (o : ByteArray) (r : List ByteArray) (p : DPart) (ho : o.size ≤ 1048576) (hp : p.Text.size ≤ 1048576) : Wp (fun k => spec_l5Can k ⟨n, h, o, r⟩ p) (· = decide (goes o r p)) := by
  unfold spec_l5Can
  simp (disch := omega) only [w64', cbdec, cbnot]
  refine Wp.ite (fun h1 => ?_) (fun h1 => Wp.ret (decide_eq_false fun h => by have := h.1; omega).symm)
  refine Wp.bif (fun h2 => ?_) (fun h2 => ?_)
  · refine Wp.ret ?_
    rw [decide_eq_decide]
    exact ⟨fun h => ⟨by omega, fun _ => by omega⟩, fun h => by have := h.2 h2; omega⟩
  · exact Wp.ret (decide_eq_true ⟨by omega, fun h => by rw [h2] at h; cases h⟩).symm
theorem goes_ok (n : Int) (h : List DHeld) (o : ByteArray) (r : List ByteArray) (p : DPart) (ho : o.size ≤ 1048576) (hp : p.Text.size ≤ 1048576) : Wp (fun k => impl_goes k ⟨n, h, o, r⟩ p) (· = decide (goes o r p)) := can_ok n h o r p ho hp
/-- what is held: above prev, in order, near n -/
def WHs (n : Int) : Int → List DHeld → Prop
  | _, [] => True
  | p, x :: t => (p < x.Seq ∧ x.Seq ≤ n + 7 ∧ x.Seq ≤ 999999 ∧ x.Part.Text.size ≤ 20) ∧ WHs n x.Seq t
instance decWHs (n : Int) : (p : Int) → (l : List DHeld) → Decidable (WHs n p l)
  | _, [] => .isTrue trivial
  | p, x :: t => by
    have := decWHs n x.Seq t
    unfold WHs; infer_instance
def NoGo (n : Int) (o : ByteArray) (r : List ByteArray) (l : List DHeld) : Prop := ∀ x ∈ l, x.Seq = n → ¬ goes o r x.Part
instance (n : Int) (o : ByteArray) (r : List ByteArray) (l : List DHeld) : Decidable (NoGo n o r l) := by unfold NoGo; infer_instance
def SmR (l : List ByteArray) : Prop := ∀ s ∈ l, s.size ≤ 200
instance (l : List ByteArray) : Decidable (SmR l) := by unfold SmR; infer_instance
def VTake (t : DTake) : Prop := (0 ≤ t.Next ∧ t.Next ≤ 1000000) ∧ t.Held.length ≤ 8 ∧ t.Open.size ≤ 200 ∧ t.Ready.length ≤ 4 ∧ SmR t.Ready ∧ WHs t.Next (t.Next - 1) t.Held ∧ NoGo t.Next t.Open t.Ready t.Held
instance (t : DTake) : Decidable (VTake t) := by unfold VTake; infer_instance
def prevOf (n : Int) (pre : List DHeld) : Int := match pre.getLast? with | none => n - 1 | some y => y.Seq
theorem prevOf_snoc (n : Int) (pre : List DHeld) (x : DHeld) : prevOf n (pre ++ [x]) = x.Seq := by simp [prevOf]
theorem prevOf_idx (n : Int) (pre t : List DHeld) (h : 0 < pre.length) : ∃ y, idx (pre ++ t) ((pre.length : Int) - 1) = some y ∧ prevOf n pre = y.Seq := by
  rcases List.eq_nil_or_concat pre with rfl | ⟨l, y, rfl⟩
  · simp at h
  · refine ⟨y, ?_, by simp [prevOf]⟩
    simp only [List.concat_eq_append, List.length_append, List.length_singleton]
    rw [show ((l.length + 1 : Nat) : Int) - 1 = (l.length : Int) by omega, idx_nat]
    simp
theorem near_ok (n s : Int) (h : List DHeld) (o : ByteArray) (r : List ByteArray) (hn : 0 ≤ n ∧ n ≤ 1000000) : Wp (fun k => spec_l5Near k ⟨n, h, o, r⟩ s) (· = decide (n ≤ s ∧ s ≤ n + 7 ∧ s ≤ 999999)) := by
  unfold spec_l5Near
  simp (disch := omega) only [w64']
  refine Wp.bind (l1In_ok _ _ _) (fun _ e => ?_); subst e
  simp only [inB, cbdec]
  refine Wp.ite (fun h1 => Wp.ret ?_) (fun h1 => Wp.ret (decide_eq_false (by omega)).symm)
  rw [decide_eq_decide]; omega
theorem validTake_held (n : Int) (o : ByteArray) (r : List ByteArray) (hn : 0 ≤ n ∧ n ≤ 1000000) (ho : o.size ≤ 200) : ∀ (t pre : List DHeld), (pre ++ t).length ≤ 1000 → n - 1 ≤ prevOf n pre →
    Wp (fun k => spec_ValidTake_l9 k (pre.length : Int) n (pre ++ t) o r) (· = decide (WHs n (prevOf n pre) t ∧ NoGo n o r t))
  | [], pre, hl, hp => by
    refine Wp.step ?_
    simp only [spec_ValidTake_l9, List.append_nil]
    simp (disch := omega) only [cbdec, if_neg]
    exact Wp.ret (decide_eq_true ⟨trivial, fun x hx => by simp at hx⟩).symm
  | x :: t, pre, hl, hp => by
    refine Wp.step ?_
    have hl' := hl
    simp only [List.length_append, List.length_cons] at hl
    simp only [spec_ValidTake_l9]
    simp only [cbdec, lt_mid, if_true, idx_mid, Option.bind_some]
    have F : ¬ (WHs n (prevOf n pre) (x :: t) ∧ NoGo n o r (x :: t)) → Wp (fun _ => some false) (· = decide (WHs n (prevOf n pre) (x :: t) ∧ NoGo n o r (x :: t))) := fun h => Wp.ret (decide_eq_false h).symm
    refine Wp.bind (near_ok n x.Seq _ o r hn) (fun _ e => ?_); subst e
    simp only [cbdec, cbnot]
    refine Wp.ite (fun h1 => ?_) (fun h1 => F fun h' => by have := h'.1.1; omega)
    refine Wp.ite (fun h2 => F fun h' => by have := h'.1.1; omega) (fun h2 => ?_)
    have ih := validTake_held n o r hn ho t (pre ++ [x]) (by simpa using hl') (by rw [prevOf_snoc]; omega)
    rw [← mid_succ, ← mid_len, prevOf_snoc] at ih
    have G : (x.Seq = n → ¬ goes o r x.Part) → prevOf n pre < x.Seq → Wp (fun k => spec_ValidTake_l9 k ((pre.length : Int) + 1) n (pre ++ x :: t) o r) (· = decide (WHs n (prevOf n pre) (x :: t) ∧ NoGo n o r (x :: t))) := fun h h' => by
      refine Wp.mono ih fun v hv => ?_
      rw [hv, decide_eq_decide]
      constructor
      · rintro ⟨g1, g2⟩
        refine ⟨⟨⟨h', by omega, by omega, by omega⟩, g1⟩, fun y hy => ?_⟩
        rcases List.mem_cons.mp hy with rfl | hy
        · exact h
        · exact g2 y hy
      · rintro ⟨g1, g2⟩
        exact ⟨g1.2, fun y hy => g2 y (List.mem_cons_of_mem _ hy)⟩
    have C : prevOf n pre < x.Seq → Wp (fun k => bif x.Seq == n then (spec_l5Can k ⟨n, pre ++ x :: t, o, r⟩ x.Part).bind fun r6 => bif r6 then some false else spec_ValidTake_l9 k (IntKind.wrap .i64 ((pre.length : Int) + 1)) n (pre ++ x :: t) o r
        else spec_ValidTake_l9 k (IntKind.wrap .i64 ((pre.length : Int) + 1)) n (pre ++ x :: t) o r) (· = decide (WHs n (prevOf n pre) (x :: t) ∧ NoGo n o r (x :: t))) := fun h' => by
      simp (disch := omega) only [w64', cbeq]
      refine Wp.ite (fun h3 => ?_) (fun h3 => G (fun g => absurd g h3) h')
      refine Wp.bind (can_ok n _ o r x.Part (by omega) (by omega)) (fun _ e => ?_); subst e
      simp only [cbdec]
      exact Wp.ite (fun h4 => F fun g => g.2 x (List.mem_cons_self ..) h3 h4) (fun h4 => G (fun _ => h4) h')
    refine Wp.ite (fun h3 => ?_) (fun h3 => ?_)
    · obtain ⟨y, hy, hy'⟩ := prevOf_idx n pre (x :: t) (by omega)
      rw [w64' (by omega) (by omega), hy]
      simp only [Option.bind_some]
      refine Wp.ite (fun h4 => F fun h' => by have := h'.1.1; omega) (fun h4 => ?_)
      exact C (by omega)
    · have : pre = [] := List.length_eq_zero_iff.mp (by omega)
      exact C (by subst this; simp [prevOf]; omega)
theorem validTake_ready (n : Int) (o : ByteArray) (h : List DHeld) (hn : 0 ≤ n ∧ n ≤ 1000000) (ho : o.size ≤ 200) (hh : h.length ≤ 8) (rr : List ByteArray) : ∀ (t pre : List ByteArray), pre ++ t = rr → (pre ++ t).length ≤ 1000 →
    Wp (fun k => spec_ValidTake_l4 k (pre.length : Int) n h o (pre ++ t)) (· = decide (SmR t ∧ WHs n (n - 1) h ∧ NoGo n o rr h))
  | [], pre, hr, hl => by
    refine Wp.step ?_
    simp only [spec_ValidTake_l4]
    rw [hr] at hl ⊢
    rw [List.append_nil] at hr
    subst hr
    simp (disch := omega) only [cbdec, if_neg]
    have := validTake_held n o pre hn ho h [] (by simp; omega) (by simp [prevOf])
    refine this.mono fun v hv => ?_
    rw [hv, decide_eq_decide]
    exact ⟨fun g => ⟨fun s hs => by simp at hs, g⟩, fun g => g.2⟩
  | x :: t, pre, hr, hl => by
    refine Wp.step ?_
    have hl' := hl
    simp only [List.length_append, List.length_cons] at hl
    simp only [spec_ValidTake_l4]
    simp only [cbdec, lt_mid, if_true, idx_mid, Option.bind_some]
    refine Wp.ite (fun h1 => Wp.ret (decide_eq_false fun h' => by have := h'.1 x (List.mem_cons_self ..); omega).symm) (fun h1 => ?_)
    simp (disch := omega) only [w64']
    have ih := validTake_ready n o h hn ho hh rr t (pre ++ [x]) (by simpa using hr) (by simpa using hl')
    rw [← mid_succ, ← mid_len] at ih
    refine ih.mono fun v hv => ?_
    rw [hv, decide_eq_decide]
    constructor
    · rintro ⟨g1, g2⟩
      refine ⟨fun y hy => ?_, g2⟩
      rcases List.mem_cons.mp hy with rfl | hy
      · omega
      · exact g1 y hy
    · rintro ⟨g1, g2⟩
      exact ⟨fun y hy => g1 y (List.mem_cons_of_mem _ hy), g2⟩
theorem specValidTake_ok (t : DTake) : Wp (fun k => spec_ValidTake k t) (· = decide (VTake t)) := by
  unfold spec_ValidTake
  simp only [cbdec, cbnot]
  have F : ¬ VTake t → Wp (fun _ => some false) (· = decide (VTake t)) := fun h => Wp.ret (decide_eq_false h).symm
  refine Wp.bind (l1In_ok _ _ _) (fun _ e => ?_); subst e
  simp only [inB, cbdec]
  refine Wp.ite (fun h1 => ?_) (fun h1 => F fun h' => h1 h'.1)
  refine Wp.ite (fun h2 => F fun h' => by have := h'.2.1; omega) (fun h2 => ?_)
  refine Wp.ite (fun h3 => F fun h' => by have := h'.2.2.1; omega) (fun h3 => ?_)
  refine Wp.ite (fun h4 => F fun h' => by have := h'.2.2.2.1; omega) (fun h4 => ?_)
  refine Wp.mono (validTake_ready t.Next t.Open t.Held h1 (by omega) (by omega) t.Ready t.Ready [] rfl (by simp; omega)) fun v hv => ?_
  rw [hv, decide_eq_decide]
  exact ⟨fun g => ⟨h1, by omega, by omega, by omega, g⟩, fun g => g.2.2.2.2⟩
theorem implTake_ready : ∀ (t pre : List ByteArray), (pre ++ t).length ≤ 1000 →
    Wp (fun k => impl_ValidTake_l12 k (pre ++ t) ((pre ++ t).length : Int) (pre.length : Int)) (· = decide (SmR t))
  | [], pre, hl => by
    refine Wp.step ?_
    simp only [impl_ValidTake_l12, List.append_nil]
    simp (disch := omega) only [cbdec, if_neg]
    exact Wp.ret (decide_eq_true fun s hs => by simp at hs).symm
  | x :: t, pre, hl => by
    refine Wp.step ?_
    have hl' := hl
    simp only [List.length_append, List.length_cons] at hl
    simp only [impl_ValidTake_l12]
    simp only [cbdec, lt_mid, if_true, idx_mid, Option.bind_some]
    refine Wp.ite (fun h1 => Wp.ret (decide_eq_false fun h' => by have := h' x (List.mem_cons_self ..); omega).symm) (fun h1 => ?_)
    simp (disch := omega) only [w64']
    have ih := implTake_ready t (pre ++ [x]) (by simpa using hl')
    rw [← mid_succ, ← mid_len] at ih
    refine ih.mono fun v hv => ?_
    rw [hv, decide_eq_decide]
    constructor
    · intro g1 y hy
      rcases List.mem_cons.mp hy with rfl | hy
      · omega
      · exact g1 y hy
    · exact fun g1 y hy => g1 y (List.mem_cons_of_mem _ hy)
theorem implTake_held (n : Int) (o : ByteArray) (r : List ByteArray) (hn : 0 ≤ n ∧ n ≤ 1000000) (ho : o.size ≤ 200) (hr : r.length ≤ 4) : ∀ (t pre : List DHeld), (pre ++ t).length ≤ 1000 → n - 1 ≤ prevOf n pre →
    Wp (fun k => impl_ValidTake_l4 k (pre ++ t) ((pre ++ t).length : Int) (pre.length : Int) n (pre ++ t) o r) (· = decide ((WHs n (prevOf n pre) t ∧ NoGo n o r t) ∧ SmR r))
  | [], pre, hl, hp => by
    refine Wp.step ?_
    simp only [impl_ValidTake_l4, List.append_nil]
    simp (disch := omega) only [cbdec, if_neg]
    refine Wp.mono (implTake_ready r [] (by simp; omega)) fun v hv => ?_
    rw [hv, decide_eq_decide]
    exact ⟨fun g => ⟨⟨trivial, fun x hx => by simp at hx⟩, g⟩, fun g => g.2⟩
  | x :: t, pre, hl, hp => by
    refine Wp.step ?_
    have hl' := hl
    simp only [List.length_append, List.length_cons] at hl
    simp only [impl_ValidTake_l4]
    simp only [cbdec, lt_mid, if_true, idx_mid, Option.bind_some]
    have F : ¬ (WHs n (prevOf n pre) (x :: t) ∧ NoGo n o r (x :: t)) → Wp (fun _ => some false) (· = decide ((WHs n (prevOf n pre) (x :: t) ∧ NoGo n o r (x :: t)) ∧ SmR r)) := fun h => Wp.ret (decide_eq_false fun g => h g.1).symm
    simp (disch := omega) only [w64']
    refine Wp.bind (in_ok _ _ _) (fun _ e => ?_); subst e
    simp only [inB, cbdec, cbnot]
    refine Wp.ite (fun h1 => ?_) (fun h1 => F fun h' => by have := h'.1.1; omega)
    refine Wp.ite (fun h1' => F fun h' => by have := h'.1.1; omega) (fun h1' => ?_)
    refine Wp.ite (fun h2 => F fun h' => by have := h'.1.1; omega) (fun h2 => ?_)
    have ih := implTake_held n o r hn ho hr t (pre ++ [x]) (by simpa using hl') (by rw [prevOf_snoc]; omega)
    rw [← mid_succ, ← mid_len, prevOf_snoc] at ih
    have G : (x.Seq = n → ¬ goes o r x.Part) → prevOf n pre < x.Seq → Wp (fun k => impl_ValidTake_l4 k (pre ++ x :: t) ((pre ++ x :: t).length : Int) ((pre.length : Int) + 1) n (pre ++ x :: t) o r) (· = decide ((WHs n (prevOf n pre) (x :: t) ∧ NoGo n o r (x :: t)) ∧ SmR r)) := fun h h' => by
      refine Wp.mono ih fun v hv => ?_
      rw [hv, decide_eq_decide]
      constructor
      · rintro ⟨⟨g1, g2⟩, g3⟩
        refine ⟨⟨⟨⟨h', by omega, by omega, by omega⟩, g1⟩, fun y hy => ?_⟩, g3⟩
        rcases List.mem_cons.mp hy with rfl | hy
        · exact h
        · exact g2 y hy
      · rintro ⟨⟨g1, g2⟩, g3⟩
        exact ⟨⟨g1.2, fun y hy => g2 y (List.mem_cons_of_mem _ hy)⟩, g3⟩
    have C : prevOf n pre < x.Seq → Wp (fun k => if x.Seq = n then (impl_goes k ⟨n, pre ++ x :: t, o, r⟩ x.Part).bind fun r6 => bif r6 then some false else impl_ValidTake_l4 k (pre ++ x :: t) ((pre ++ x :: t).length : Int) ((pre.length : Int) + 1) n (pre ++ x :: t) o r
        else impl_ValidTake_l4 k (pre ++ x :: t) ((pre ++ x :: t).length : Int) ((pre.length : Int) + 1) n (pre ++ x :: t) o r) (· = decide ((WHs n (prevOf n pre) (x :: t) ∧ NoGo n o r (x :: t)) ∧ SmR r)) := fun h' => by
      refine Wp.ite (fun h3 => ?_) (fun h3 => G (fun g => absurd g h3) h')
      refine Wp.bind (goes_ok n _ o r x.Part (by omega) (by omega)) (fun _ e => ?_); subst e
      simp only [cbdec]
      exact Wp.ite (fun h4 => F fun g => g.2 x (List.mem_cons_self ..) h3 h4) (fun h4 => G (fun _ => h4) h')
    simp only [cbeq]
    refine Wp.ite (fun h3 => ?_) (fun h3 => ?_)
    · obtain ⟨y, hy, hy'⟩ := prevOf_idx n pre (x :: t) (by omega)
      rw [hy]
      simp only [Option.bind_some]
      refine Wp.ite (fun h4 => F fun h' => by have := h'.1.1; omega) (fun h4 => ?_)
      exact C (by omega)
    · have : pre = [] := List.length_eq_zero_iff.mp (by omega)
      exact C (by subst this; simp [prevOf]; omega)
theorem implValidTake_ok (t : DTake) : Wp (fun k => impl_ValidTake k t) (· = decide (VTake t)) := by
  unfold impl_ValidTake
  simp only [cbdec, cbnot]
  have F : ¬ VTake t → Wp (fun _ => some false) (· = decide (VTake t)) := fun h => Wp.ret (decide_eq_false h).symm
  refine Wp.bind (in_ok _ _ _) (fun _ e => ?_); subst e
  simp only [inB, cbdec]
  refine Wp.ite (fun h1 => ?_) (fun h1 => F fun h' => h1 h'.1)
  refine Wp.ite (fun h2 => F fun h' => by have := h'.2.1; omega) (fun h2 => ?_)
  refine Wp.ite (fun h3 => F fun h' => by have := h'.2.2.1; omega) (fun h3 => ?_)
  refine Wp.ite (fun h4 => F fun h' => by have := h'.2.2.2.1; omega) (fun h4 => ?_)
  refine Wp.mono (implTake_held t.Next t.Open t.Ready h1 (by omega) (by omega) t.Held [] (by simp; omega) (by simp [prevOf])) fun v hv => ?_
  rw [hv, decide_eq_decide]
  exact ⟨fun g => ⟨h1, by omega, by omega, by omega, g.2, g.1⟩, fun g => ⟨g.2.2.2.2.2, g.2.2.2.2.1⟩⟩
theorem l5Copy_ok (t : DTake) (h : t.Held.length ≤ 1048576) (h' : t.Ready.length ≤ 1048576) : Wp (fun k => spec_l5Copy k t) (· = t) := by
  unfold spec_l5Copy
  refine Wp.opt (app_ok (by simp; omega)) ?_
  refine Wp.opt (app_ok (by simp; omega)) ?_
  exact Wp.ret (by rw [List.nil_append, List.nil_append])
theorem copyTake_ok (t : DTake) (h : t.Held.length ≤ 1048576) (h' : t.Ready.length ≤ 1048576) : Wp (fun k => impl_copyTake k t) (· = t) := l5Copy_ok t h h'
abbrev noTake : DTake := ⟨0, [], noB, []⟩
theorem noTake_V : VTake noTake := ⟨by simp, by simp, by simp [noB_size], by simp, fun s hs => by simp at hs, trivial, fun x hx => by simp at hx⟩
theorem whs_mem {n : Int} : ∀ {l : List DHeld} {p : Int}, WHs n p l → ∀ x ∈ l, x.Part.Text.size ≤ 20
  | [], _, _, x, h => by simp at h
  | y :: t, p, ⟨h1, h2⟩, x, h => by
    rcases List.mem_cons.mp h with rfl | h
    · exact h1.2.2.2
    · exact whs_mem h2 x h
theorem whs_lt {n : Int} : ∀ {l : List DHeld} {p : Int}, WHs n p l → ∀ x ∈ l, p < x.Seq
  | [], _, _, x, h => by simp at h
  | y :: t, p, ⟨h1, h2⟩, x, h => by
    rcases List.mem_cons.mp h with rfl | h
    · exact h1.1
    · have := whs_lt h2 x h; omega
theorem whs_mono {n n' : Int} (hn : n ≤ n') : ∀ {l : List DHeld} {p : Int}, WHs n p l → WHs n' p l
  | [], _, _ => trivial
  | y :: t, p, ⟨h1, h2⟩ => ⟨⟨h1.1, by omega, h1.2.2⟩, whs_mono hn h2⟩
theorem VTake.sm {t : DTake} (h : VTake t) : smTake t := by
  obtain ⟨h1, h2, h3, h4, h5, h6, h7⟩ := h
  unfold smTake smL
  refine ⟨⟨by omega, fun x hx => ?_⟩, by omega, ⟨by omega, fun s hs => by have := h5 s hs; omega⟩⟩
  have := whs_mem h6 x hx
  show x.Part.Text.size ≤ 1048576
  omega
/-! ### flow -/
def flowT : List DHeld → Int → ByteArray → List ByteArray → DTake
  | [], n, o, r => ⟨n, [], o, r⟩
  | x :: t, n, o, r => if x.Seq = n ∧ goes o r x.Part then (if x.Part.Last = true then flowT t (n + 1) noB (r ++ [o ++ x.Part.Text]) else flowT t (n + 1) (o ++ x.Part.Text) r) else ⟨n, x :: t, o, r⟩
theorem flow_spec (c : Int) (e : ByteArray) (z : List DHeld) (w : List ByteArray) : ∀ (h : List DHeld) (n : Int) (o : ByteArray) (r : List ByteArray), h.length ≤ 100 → (∀ x ∈ h, x.Seq ≤ 999999 ∧ x.Part.Text.size ≤ 1000) → 0 ≤ n → o.size ≤ 200 → r.length ≤ 4 →
    Wp (fun k => spec_l5In_l1 k n o c e h r z w) (· = flowT h n o r)
  | [], n, o, r, hl, hx, hn, ho, hr => by
    refine Wp.step ?_
    simp only [spec_l5In_l1]
    simp (disch := simp) only [cbdec, if_neg]
    exact Wp.ret rfl
  | x :: t, n, o, r, hl, hx, hn, ho, hr => by
    refine Wp.step ?_
    obtain ⟨x1, x2⟩ := hx x (List.mem_cons_self ..)
    simp only [List.length_cons] at hl
    simp only [spec_l5In_l1, flowT]
    have e0 : idx (x :: t) 0 = some x := rfl
    have e1 : (x :: t)[Int.toNat 0]? = some x := rfl
    have e2 : wnd (x :: t).length 1 ((x :: t).length : Int) = some (1, (x :: t).length) := by rw [wnd_ok (by simp only [List.length_cons]; omega)]; simp
    have e3 : app 32 ([] : List DHeld) (dcut (x :: t) 1 (x :: t).length) = some t := by rw [app_ok (by simp [dcut]; omega)]; simp [dcut]
    simp only [e0, e1, e2, e3, cbdec, Option.bind_some, cbeq]
    have hpos : ((x :: t).length : Int) > 0 := by simp only [List.length_cons]; omega
    simp only [if_pos hpos]
    refine Wp.ite (fun h1 => ?_) (fun h1 => Wp.ret (by rw [if_neg (fun g => h1 g.1)]))
    refine Wp.bind (can_ok n _ o r x.Part (by omega) (by omega)) (fun _ e => ?_); subst e
    simp only [cbdec]
    refine Wp.ite (fun h2 => ?_) (fun h2 => Wp.ret (by rw [if_neg (fun g => h2 g.2)]))
    rw [if_pos ⟨h1, h2⟩, sadd_ok (by omega)]
    simp only [Option.bind_some]
    have hx' : ∀ y ∈ t, y.Seq ≤ 999999 ∧ y.Part.Text.size ≤ 1000 := fun y hy => hx y (List.mem_cons_of_mem _ hy)
    refine Wp.bif (fun h3 => ?_) (fun h3 => ?_)
    · rw [if_pos h3, app_ok (by simp; omega)]
      simp (disch := omega) only [Option.bind_some, w64']
      exact flow_spec c e z w t (n + 1) noB _ (by omega) hx' (by omega) (by simp [noB_size]) (by have := h2.2 h3; simp; omega)
    · rw [if_neg (by simp [h3])]
      simp (disch := omega) only [w64']
      exact flow_spec c e z w t (n + 1) _ _ (by omega) hx' (by omega) (by rw [ba_size_append]; exact h2.1) hr
theorem flow_same : ∀ (k : Nat) n o c e h r z w, impl_flow_l1 k n o c e h r z w = spec_l5In_l1 k n o c e h r z w
  | 0, _, _, _, _, _, _, _, _ => rfl
  | k + 1, n, o, c, e, h, r, z, w => by
    have hi : ∀ a b, impl_goes k a b = spec_l5Can k a b := fun _ _ => rfl
    simp only [impl_flow_l1, spec_l5In_l1, flow_same k, hi]
theorem specIn_ok (t : DTake) (hl : t.Held.length ≤ 100) (hx : ∀ x ∈ t.Held, x.Seq ≤ 999999 ∧ x.Part.Text.size ≤ 1000) (hn : 0 ≤ t.Next) (ho : t.Open.size ≤ 200) (hr : t.Ready.length ≤ 4) : Wp (fun k => spec_l5In k t) (· = flowT t.Held t.Next t.Open t.Ready) :=
  flow_spec _ _ _ _ t.Held t.Next t.Open t.Ready hl hx hn ho hr
theorem implFlow_ok (t : DTake) (hl : t.Held.length ≤ 100) (hx : ∀ x ∈ t.Held, x.Seq ≤ 999999 ∧ x.Part.Text.size ≤ 1000) (hn : 0 ≤ t.Next) (ho : t.Open.size ≤ 200) (hr : t.Ready.length ≤ 4) : Wp (fun k => impl_flow k t) (· = flowT t.Held t.Next t.Open t.Ready) := by
  have : (fun k => impl_flow k t) = fun k => spec_l5In k t := funext fun k => flow_same k _ _ _ _ _ _ _ _
  rw [this]; exact specIn_ok t hl hx hn ho hr
theorem flowT_V (n0 : Int) : ∀ (h : List DHeld) (n : Int) (o : ByteArray) (r : List ByteArray), n0 ≤ n → WHs n0 (n - 1) h → h.length ≤ 8 → 0 ≤ n → n ≤ 1000000 → o.size ≤ 200 → r.length ≤ 4 → SmR r → VTake (flowT h n o r)
  | [], n, o, r, h0, hw, hl, hn, hn', ho, hr, hs => ⟨⟨hn, hn'⟩, by simp [flowT], ho, hr, hs, trivial, fun x hx => by simp [flowT] at hx⟩
  | x :: t, n, o, r, h0, ⟨hw1, hw2⟩, hl, hn, hn', ho, hr, hs => by
    simp only [List.length_cons] at hl
    simp only [flowT]
    split
    · rename_i hg
      have hw3 : WHs n0 (n + 1 - 1) t := by rw [show n + 1 - 1 = x.Seq by omega]; exact hw2
      split
      · rename_i hl3
        refine flowT_V n0 t (n + 1) noB _ (by omega) hw3 (by omega) (by omega) (by omega) (by simp [noB_size]) (by have := hg.2.2 hl3; simp; omega) (fun s h' => ?_)
        simp only [List.mem_append, List.mem_singleton] at h'
        rcases h' with h' | rfl
        · exact hs s h'
        · rw [ba_size_append]; exact hg.2.1
      · exact flowT_V n0 t (n + 1) _ r (by omega) hw3 (by omega) (by omega) (by omega) (by rw [ba_size_append]; exact hg.2.1) hr hs
    · rename_i hg
      refine ⟨⟨hn, hn'⟩, by simp only [List.length_cons]; omega, ho, hr, hs, whs_mono h0 ⟨hw1, hw2⟩, fun y hy => ?_⟩
      rcases List.mem_cons.mp hy with rfl | hy
      · exact fun e g => hg ⟨e, g⟩
      · have := whs_lt hw2 y hy
        exact fun e => by simp only at e; omega
/-! ### TakePull -/
def pullM (t : DTake) : DTake × ByteArray × Bool := if VTake t then (match t.Ready with | [] => (t, noB, false) | s :: rs => (flowT t.Held t.Next t.Open rs, s, true)) else (noTake, noB, false)
theorem VTake.small {t : DTake} (h : VTake t) : ∀ x ∈ t.Held, x.Seq ≤ 999999 ∧ x.Part.Text.size ≤ 1000 := by
  have hw := h.2.2.2.2.2.1
  have G : ∀ {l : List DHeld} {p : Int}, WHs t.Next p l → ∀ x ∈ l, x.Seq ≤ 999999 := by
    intro l
    induction l with
    | nil => intro p _ x hx; simp at hx
    | cons y l ih =>
      rintro p ⟨h1, h2⟩ x hx
      rcases List.mem_cons.mp hx with rfl | hx
      · exact h1.2.2.1
      · exact ih h2 x hx
  exact fun x hx => ⟨G hw x hx, by have := whs_mem hw x hx; omega⟩
theorem specPull_ok (t : DTake) : Wp (fun k => spec_TakePull k t) (· = pullM t) := by
  unfold spec_TakePull pullM
  refine Wp.bind (specValidTake_ok t) (fun _ e => ?_); subst e
  simp only [cbnot, cbdec]
  refine Wp.ite (fun h => ?_) (fun h => Wp.ret (by rw [if_neg h]))
  rw [if_pos h]
  refine Wp.bind (l5Copy_ok t (by have := h.2.1; omega) (by have := h.2.2.2.1; omega)) (fun r2 e => ?_); rw [e]
  simp only [cbeq]
  obtain ⟨n, hd, o, r⟩ := t
  cases r with
  | nil => exact Wp.ret rfl
  | cons s rs =>
    have hr := h.2.2.2.1
    simp only [List.length_cons] at hr
    have e0 : idx (s :: rs) 0 = some s := rfl
    have e1 : (s :: rs)[Int.toNat 0]? = some s := rfl
    have e2 : wnd (s :: rs).length 1 ((s :: rs).length : Int) = some (1, (s :: rs).length) := by rw [wnd_ok (by simp only [List.length_cons]; omega)]; simp
    have e3 : app 16 ([] : List ByteArray) (dcut (s :: rs) 1 (s :: rs).length) = some rs := by rw [app_ok (by simp [dcut]; omega)]; simp [dcut]
    simp only [e0, e1, e2, e3, Option.bind_some]
    have hpos : ¬ ((s :: rs).length : Int) = 0 := by simp only [List.length_cons]; omega
    simp only [if_neg hpos]
    refine Wp.bind (specIn_ok _ (by have := h.2.1; simp only at this ⊢; omega) h.small h.1.1 h.2.2.1 (by simp only; omega)) (fun _ e => ?_); subst e
    exact Wp.ret rfl
theorem implPull_ok (t : DTake) : Wp (fun k => impl_TakePull k t) (· = pullM t) := by
  unfold impl_TakePull pullM
  refine Wp.bind (implValidTake_ok t) (fun _ e => ?_); subst e
  simp only [cbnot, cbdec]
  refine Wp.ite (fun h => ?_) (fun h => Wp.ret (by rw [if_neg h]))
  rw [if_pos h]
  refine Wp.bind (copyTake_ok t (by have := h.2.1; omega) (by have := h.2.2.2.1; omega)) (fun r2 e => ?_); rw [e]
  simp only [cbeq]
  obtain ⟨n, hd, o, r⟩ := t
  cases r with
  | nil => exact Wp.ret rfl
  | cons s rs =>
    have hr := h.2.2.2.1
    simp only [List.length_cons] at hr
    have e0 : idx (s :: rs) 0 = some s := rfl
    have e1 : (s :: rs)[Int.toNat 0]? = some s := rfl
    have e2 : wnd (s :: rs).length 1 ((s :: rs).length : Int) = some (1, (s :: rs).length) := by rw [wnd_ok (by simp only [List.length_cons]; omega)]; simp
    have e3 : app 16 ([] : List ByteArray) (dcut (s :: rs) 1 (s :: rs).length) = some rs := by rw [app_ok (by simp [dcut]; omega)]; simp [dcut]
    simp only [e0, e1, e2, e3, Option.bind_some]
    have hpos : ¬ ((s :: rs).length : Int) = 0 := by simp only [List.length_cons]; omega
    simp only [if_neg hpos]
    refine Wp.bind (implFlow_ok _ (by have := h.2.1; simp only at this ⊢; omega) h.small h.1.1 h.2.2.1 (by simp only; omega)) (fun _ e => ?_); subst e
    exact Wp.ret rfl
theorem pullM_ok (t : DTake) : VTake (pullM t).1 ∧ (pullM t).2.1.size ≤ 200 := by
  unfold pullM
  split
  · rename_i h
    obtain ⟨n, hd, o, r⟩ := t
    cases r with
    | nil => exact ⟨h, by simp [noB_size]⟩
    | cons s rs =>
      obtain ⟨h1, h2, h3, h4, h5, h6, h7⟩ := h
      simp only [List.length_cons] at h4
      exact ⟨flowT_V n hd n o rs (Int.le_refl _) h6 h2 h1.1 h1.2 h3 (by omega) (fun s' hs => h5 s' (List.mem_cons_of_mem _ hs)), h5 s (List.mem_cons_self ..)⟩
  · exact ⟨noTake_V, by simp [noB_size]⟩
end Km.X
namespace Km.X
open Go Km
set_option linter.unusedVariables false
set_option linter.unusedSimpArgs false
/-! ### TakeWord -/
def maskL (n : Int) : Nat → List DHeld → Nat
  | m, [] => m
  | m, x :: t => maskL n (m + 2 ^ (x.Seq - n).toNat) t
def tkM (t : DTake) : Int × Int := if VTake t then (t.Next, ((maskL t.Next 0 t.Held : Nat) : Int)) else (0, 0)
theorem pow_small {d : Nat} (h : d ≤ 8) : (2 ^ d : Nat) ≤ 256 := Nat.pow_le_pow_right (by decide) h
theorem tw_in (n : Int) (m : Nat) (i : Int) (xs : List DHeld) (o : ByteArray) (r : List ByteArray) (x : DHeld) (hi : idx xs i = some x) (hn : 0 ≤ n ∧ n ≤ 1000000) (hx : n ≤ x.Seq ∧ x.Seq ≤ n + 7) (hm : m ≤ 256) (Q : Int × Int → Prop)
    (hq : Wp (fun k => spec_TakeWord_l5 k ((m + 2 ^ (x.Seq - n).toNat : Nat) : Int) (IntKind.wrap .i64 (i + 1)) n xs o r) Q) : ∀ (d : Nat) (y : Int), n ≤ y → y ≤ x.Seq → d = (x.Seq - y).toNat → Wp (fun k => spec_TakeWord_l9 k (m : Int) i ((2 ^ (y - n).toNat : Nat) : Int) y n xs o r) Q
  | 0, y, h1, h2, h3 => by
    have hy : y = x.Seq := by omega
    subst hy
    have hp := pow_small (d := (x.Seq - n).toNat) (by omega)
    refine Wp.step ?_
    simp only [spec_TakeWord_l9, hi, Option.bind_some]
    simp (disch := omega) only [cbdec, if_neg]
    generalize 2 ^ (x.Seq - n).toNat = P at *
    rw [w64' (n := (m : Int) + _) (by omega) (by omega), show (m : Int) + (P : Int) = ((m + P : Nat) : Int) by omega]
    exact hq
  | d + 1, y, h1, h2, h3 => by
    have hp := pow_small (d := (y - n).toNat) (by omega)
    refine Wp.step ?_
    simp only [spec_TakeWord_l9, hi, Option.bind_some]
    simp (disch := omega) only [cbdec, if_pos]
    have := tw_in n m i xs o r x hi hn hx hm Q hq d (y + 1) (by omega) (by omega) (by omega)
    have e : 2 ^ (y + 1 - n).toNat = 2 ^ (y - n).toNat * 2 := by rw [show (y + 1 - n).toNat = (y - n).toNat + 1 by omega, Nat.pow_succ]
    rw [e] at this
    generalize 2 ^ (y - n).toNat = P at *
    rw [w64' (n := (P : Int) * 2) (by omega) (by omega), w64' (n := y + 1) (by omega) (by omega)]
    rwa [show ((P * 2 : Nat) : Int) = (P : Int) * 2 by omega] at this
theorem tw_spec (n : Int) (o : ByteArray) (r : List ByteArray) (hn : 0 ≤ n ∧ n ≤ 1000000) : ∀ (t pre : List DHeld) (p : Int) (m : Nat), (pre ++ t).length ≤ 1000 → n - 1 ≤ p → p ≤ n + 7 → WHs n p t → m < 2 ^ (p - n + 1).toNat →
    Wp (fun k => spec_TakeWord_l5 k (m : Int) (pre.length : Int) n (pre ++ t) o r) (· = (n, ((maskL n m t : Nat) : Int)))
  | [], pre, p, m, hl, h1, h2, hw, hm => by
    refine Wp.step ?_
    simp only [spec_TakeWord_l5, List.append_nil]
    simp (disch := omega) only [cbdec, if_neg]
    exact Wp.ret rfl
  | x :: t, pre, p, m, hl, h1, h2, ⟨hw1, hw2⟩, hm => by
    refine Wp.step ?_
    have hl' := hl
    simp only [List.length_append, List.length_cons] at hl
    simp only [spec_TakeWord_l5, maskL]
    simp only [cbdec, lt_mid, if_true]
    have hp := pow_small (d := (p - n + 1).toNat) (by omega)
    have hlt : m + 2 ^ (x.Seq - n).toNat < 2 ^ (x.Seq - n + 1).toNat := by
      have : 2 ^ (p - n + 1).toNat ≤ 2 ^ (x.Seq - n).toNat := Nat.pow_le_pow_right (by decide) (by omega)
      rw [show (x.Seq - n + 1).toNat = (x.Seq - n).toNat + 1 by omega, Nat.pow_succ]; omega
    have ih := tw_spec n o r hn t (pre ++ [x]) x.Seq (m + 2 ^ (x.Seq - n).toNat) (by simpa using hl') (by omega) (by omega) hw2 hlt
    rw [← mid_succ, ← mid_len] at ih
    have := tw_in n m (pre.length : Int) (pre ++ x :: t) o r x idx_mid hn (by omega) (by omega) (· = (n, ((maskL n (m + 2 ^ (x.Seq - n).toNat) t : Nat) : Int))) (by rw [w64' (by omega) (by omega)]; exact ih) (x.Seq - n).toNat n (by omega) (by omega) rfl
    rwa [show ((2 ^ (n - n).toNat : Nat) : Int) = 1 by simp] at this
theorem specTakeWord_ok (t : DTake) : Wp (fun k => spec_TakeWord k t) (· = tkM t) := by
  unfold spec_TakeWord tkM
  refine Wp.bind (specValidTake_ok t) (fun _ e => ?_); subst e
  simp only [cbnot, cbdec]
  refine Wp.ite (fun h => ?_) (fun h => Wp.ret (by rw [if_neg h]))
  rw [if_pos h]
  exact tw_spec t.Next t.Open t.Ready h.1 t.Held [] (t.Next - 1) 0 (by have := h.2.1; show t.Held.length ≤ 1000; omega) (by omega) (by omega) h.2.2.2.2.2.1 (Nat.two_pow_pos _)
theorem bitsOr_pow (m d : Nat) (h : m < 2 ^ d) (hd : d ≤ 8) : bitsOr .i64 (m : Int) ((2 ^ d : Nat) : Int) = ((m + 2 ^ d : Nat) : Int) := by
  have e : ∀ m : Nat, BitVec.ofInt 64 (m : Int) = BitVec.ofNat 64 m := fun m => by
    apply BitVec.eq_of_toNat_eq
    simp [BitVec.toNat_ofInt]
  have hp := pow_small hd
  show IntKind.wrap .i64 ((BitVec.ofInt 64 ((m : Nat) : Int) ||| BitVec.ofInt 64 ((2 ^ d : Nat) : Int)).toNat : Int) = _
  rw [e, e, BitVec.toNat_or, BitVec.toNat_ofNat, BitVec.toNat_ofNat, Nat.mod_eq_of_lt (by omega), Nat.mod_eq_of_lt (by omega)]
  have := Nat.shiftLeft_add_eq_or_of_lt (a := 1) (i := d) (b := m) h
  rw [Nat.shiftLeft_eq, Nat.one_mul] at this
  rw [Nat.or_comm, ← this, Nat.add_comm]
  generalize 2 ^ d = P at *
  exact w64' (by omega) (by omega)
theorem shl1 (d : Nat) (h : d ≤ 8) : shift .shl .i64 1 (d : Int) = some ((2 ^ d : Nat) : Int) := by
  have hp := pow_small h
  simp only [shift]
  rw [if_neg (by omega)]
  congr 1
  rw [Int.toNat_natCast, show IntKind.i64.bits = 64 from rfl, Nat.min_eq_left (by omega)]
  rw [show (1 : Int) * (2 : Int) ^ d = ((2 ^ d : Nat) : Int) by simp]
  generalize 2 ^ d = P at *
  exact w64' (by omega) (by omega)
theorem tw_impl (n : Int) (o : ByteArray) (r : List ByteArray) (hn : 0 ≤ n ∧ n ≤ 1000000) : ∀ (t pre : List DHeld) (p : Int) (m : Nat), (pre ++ t).length ≤ 1000 → n - 1 ≤ p → p ≤ n + 7 → WHs n p t → m < 2 ^ (p - n + 1).toNat →
    Wp (fun k => impl_TakeWord_l5 k (m : Int) (pre ++ t) ((pre ++ t).length : Int) (pre.length : Int) n (pre ++ t) o r) (· = (n, ((maskL n m t : Nat) : Int)))
  | [], pre, p, m, hl, h1, h2, hw, hm => by
    refine Wp.step ?_
    simp only [impl_TakeWord_l5, List.append_nil]
    simp (disch := omega) only [cbdec, if_neg]
    exact Wp.ret rfl
  | x :: t, pre, p, m, hl, h1, h2, ⟨hw1, hw2⟩, hm => by
    refine Wp.step ?_
    have hl' := hl
    simp only [List.length_append, List.length_cons] at hl
    simp only [impl_TakeWord_l5, maskL]
    simp only [cbdec, lt_mid, if_true, idx_mid, Option.bind_some]
    have hp := pow_small (d := (p - n + 1).toNat) (by omega)
    have hle : 2 ^ (p - n + 1).toNat ≤ 2 ^ (x.Seq - n).toNat := Nat.pow_le_pow_right (by decide) (by omega)
    have hlt : m + 2 ^ (x.Seq - n).toNat < 2 ^ (x.Seq - n + 1).toNat := by
      rw [show (x.Seq - n + 1).toNat = (x.Seq - n).toNat + 1 by omega, Nat.pow_succ]; omega
    have ih := tw_impl n o r hn t (pre ++ [x]) x.Seq (m + 2 ^ (x.Seq - n).toNat) (by simpa using hl') (by omega) (by omega) hw2 hlt
    rw [← mid_succ, ← mid_len] at ih
    simp (disch := omega) only [w64']
    have e : x.Seq - n = ((x.Seq - n).toNat : Int) := by omega
    have e2 := shl1 (x.Seq - n).toNat (by omega)
    rw [← e] at e2
    simp only [e2, Option.bind_some]
    rw [bitsOr_pow m _ (by omega) (by omega)]
    exact ih
theorem implTakeWord_ok (t : DTake) : Wp (fun k => impl_TakeWord k t) (· = tkM t) := by
  unfold impl_TakeWord tkM
  refine Wp.bind (implValidTake_ok t) (fun _ e => ?_); subst e
  simp only [cbnot, cbdec]
  refine Wp.ite (fun h => ?_) (fun h => Wp.ret (by rw [if_neg h]))
  rw [if_pos h]
  exact tw_impl t.Next t.Open t.Ready h.1 t.Held [] (t.Next - 1) 0 (by have := h.2.1; show t.Held.length ≤ 1000; omega) (by omega) (by omega) h.2.2.2.2.2.1 (Nat.two_pow_pos _)
end Km.X
namespace Km.X
open Go Km
set_option linter.unusedVariables false
set_option linter.unusedSimpArgs false

def smEnd (x : DEnd) : Prop := smSend x.Send ∧ smTake x.Take
end Km.X
namespace Km.X
open Go Km
set_option linter.unusedVariables false
set_option linter.unusedSimpArgs false
/-! ### End -/
def PNoS (s : DSend) : Prop := s.Base = 0 ∧ s.Items.length = 0
instance (s : DSend) : Decidable (PNoS s) := by unfold PNoS; infer_instance
def PNoT (t : DTake) : Prop := t.Next = 0 ∧ t.Held.length = 0 ∧ t.Open = noB ∧ t.Ready.length = 0
instance (t : DTake) : Decidable (PNoT t) := by unfold PNoT; infer_instance
theorem eqInt_dec (a b : Int) : (a == b) = decide (a = b) := by by_cases h : a = b <;> simp [h]
theorem noSend_ok (s : DSend) : Wp (fun k => spec_l6NoSend k s) (· = decide (PNoS s)) := by
  unfold spec_l6NoSend
  simp only [eqInt_dec, cbdec]
  refine Wp.ite (fun h => Wp.ret ?_) (fun h => Wp.ret (decide_eq_false fun g => h g.1).symm)
  rw [decide_eq_decide]; exact ⟨fun g => ⟨h, by omega⟩, fun g => by have := g.2; omega⟩
theorem noTake_ok (t : DTake) : Wp (fun k => spec_l6NoTake k t) (· = decide (PNoT t)) := by
  unfold spec_l6NoTake
  simp only [eqInt_dec, cbseq, cbdec]
  have F : ¬ PNoT t → Wp (fun _ => some false) (· = decide (PNoT t)) := fun h => Wp.ret (decide_eq_false h).symm
  refine Wp.ite (fun h => ?_) (fun h => F fun g => h g.1)
  refine Wp.ite (fun h2 => ?_) (fun h2 => F fun g => by have := g.2.1; omega)
  refine Wp.ite (fun h3 => Wp.ret ?_) (fun h3 => F fun g => h3 g.2.2.1)
  rw [decide_eq_decide]; exact ⟨fun g => ⟨h, by omega, h3, by omega⟩, fun g => by have := g.2.2.2; omega⟩
def VEnd (e : DEnd) : Prop := (1 ≤ e.Number ∧ e.Number ≤ 2) ∧ (1 ≤ e.Life ∧ e.Life ≤ 1000) ∧ (0 ≤ e.Peer ∧ e.Peer ≤ 1000) ∧ (0 ≤ e.Since ∧ e.Since ≤ 1000000) ∧ VSend e.Send ∧ VTake e.Take ∧ (e.Peer = 0 → PNoS e.Send ∧ PNoT e.Take) ∧ (e.Up = false → e.Peer = 0 ∧ e.Since = 0 ∧ e.Owes = false)
instance (e : DEnd) : Decidable (VEnd e) := by unfold VEnd; infer_instance
theorem VEnd.sm {e : DEnd} (h : VEnd e) : smEnd e := ⟨h.2.2.2.2.1.sm, h.2.2.2.2.2.1.sm⟩
theorem endTail (e : DEnd) (h : (1 ≤ e.Number ∧ e.Number ≤ 2) ∧ (1 ≤ e.Life ∧ e.Life ≤ 1000) ∧ (0 ≤ e.Peer ∧ e.Peer ≤ 1000) ∧ (0 ≤ e.Since ∧ e.Since ≤ 1000000) ∧ VSend e.Send ∧ VTake e.Take) (h' : e.Peer = 0 → PNoS e.Send ∧ PNoT e.Take) :
    Wp (fun _ => bif e.Up then some true else bif e.Peer == 0 then bif e.Since == 0 then some (!e.Owes) else some false else some false) (· = decide (VEnd e)) := by
  obtain ⟨h1, h2, h3, h4, h5, h6⟩ := h
  simp only [cbeq]
  refine Wp.bif (fun u => Wp.ret (decide_eq_true ⟨h1, h2, h3, h4, h5, h6, h', fun g => by rw [u] at g; cases g⟩).symm) (fun u => ?_)
  refine Wp.ite (fun h7 => ?_) (fun h7 => Wp.ret (decide_eq_false fun g => h7 (g.2.2.2.2.2.2.2 u).1).symm)
  refine Wp.ite (fun h8 => Wp.ret ?_) (fun h8 => Wp.ret (decide_eq_false fun g => h8 (g.2.2.2.2.2.2.2 u).2.1).symm)
  by_cases ho : e.Owes = true
  · rw [ho]; exact (decide_eq_false fun g => by have := (g.2.2.2.2.2.2.2 u).2.2; rw [ho] at this; cases this).symm
  · have ho : e.Owes = false := by simpa using ho
    rw [ho]; exact (decide_eq_true ⟨h1, h2, h3, h4, h5, h6, h', fun _ => ⟨h7, h8, ho⟩⟩).symm
theorem specValidEnd_ok (e : DEnd) : Wp (fun k => spec_ValidEnd k e) (· = decide (VEnd e)) := by
  unfold spec_ValidEnd
  have F : ¬ VEnd e → Wp (fun _ => some false) (· = decide (VEnd e)) := fun h => Wp.ret (decide_eq_false h).symm
  refine Wp.bind (l1In_ok _ _ _) (fun _ q => ?_); subst q
  simp only [inB, cbdec, cbnot]
  refine Wp.ite (fun h1 => ?_) (fun h1 => F fun g => h1 g.1)
  refine Wp.bind (l1In_ok _ _ _) (fun _ q => ?_); subst q
  simp only [inB, cbdec]
  refine Wp.ite (fun h2 => ?_) (fun h2 => F fun g => h2 g.2.1)
  refine Wp.bind (l1In_ok _ _ _) (fun _ q => ?_); subst q
  simp only [inB, cbdec]
  refine Wp.ite (fun h3 => ?_) (fun h3 => F fun g => h3 g.2.2.1)
  refine Wp.bind (l1In_ok _ _ _) (fun _ q => ?_); subst q
  simp only [inB, cbdec]
  refine Wp.ite (fun h4 => ?_) (fun h4 => F fun g => h4 g.2.2.2.1)
  refine Wp.bind (specValidSend_ok _) (fun _ q => ?_); subst q
  simp only [cbdec]
  refine Wp.ite (fun h5 => ?_) (fun h5 => F fun g => h5 g.2.2.2.2.1)
  refine Wp.bind (specValidTake_ok _) (fun _ q => ?_); subst q
  simp only [cbdec]
  refine Wp.ite (fun h6 => ?_) (fun h6 => F fun g => h6 g.2.2.2.2.2.1)
  have T := endTail e ⟨h1, h2, h3, h4, h5, h6⟩
  simp only [cbeq] at T ⊢
  refine Wp.ite (fun h7 => ?_) (fun h7 => T fun g => absurd g h7)
  refine Wp.bind (noSend_ok _) (fun _ q => ?_); subst q
  simp only [cbdec]
  refine Wp.ite (fun h8 => ?_) (fun h8 => F fun g => h8 (g.2.2.2.2.2.2.1 h7).1)
  refine Wp.bind (noTake_ok _) (fun _ q => ?_); subst q
  simp only [cbdec]
  exact Wp.ite (fun h9 => T fun _ => ⟨h8, h9⟩) (fun h9 => F fun g => h9 (g.2.2.2.2.2.2.1 h7).2)
theorem implValidEnd_ok (e : DEnd) : Wp (fun k => impl_ValidEnd k e) (· = decide (VEnd e)) := by
  unfold impl_ValidEnd
  have F : ¬ VEnd e → Wp (fun _ => some false) (· = decide (VEnd e)) := fun h => Wp.ret (decide_eq_false h).symm
  have M : (1 ≤ e.Number ∧ e.Number ≤ 2) → Wp (fun k => (impl_in k e.Life 1 1000).bind fun r8 =>
    bif (!r8) then
      some false
    else
      (impl_in k e.Peer 0 1000).bind fun r9 =>
      bif (!r9) then
        some false
      else
        (impl_in k e.Since 0 1000000).bind fun r10 =>
        bif (!r10) then
          some false
        else
          (impl_ValidSend k e.Send).bind fun r11 =>
          bif (!r11) then
            some false
          else
            (impl_ValidTake k e.Take).bind fun r12 =>
            bif (!r12) then
              some false
            else
              bif (e.Peer == 0) then
                (impl_noSend k e.Send).bind fun r13 =>
                bif r13 then
                  (impl_noTake k e.Take).bind fun r14 =>
                  bif (!r14) then
                    some false
                  else
                    bif e.Up then
                      some true
                    else
                      bif (e.Peer == 0) then
                        bif (e.Since == 0) then
                          some (!e.Owes)
                        else
                          some false
                      else
                        some false
                else
                  some false
              else
                bif e.Up then
                  some true
                else
                  bif (e.Peer == 0) then
                    bif (e.Since == 0) then
                      some (!e.Owes)
                    else
                      some false
                  else
                    some false) (· = decide (VEnd e)) := fun h1 => by
    refine Wp.bind (in_ok _ _ _) (fun _ q => ?_); subst q
    simp only [inB, cbdec, cbnot]
    refine Wp.ite (fun h2 => ?_) (fun h2 => F fun g => h2 g.2.1)
    refine Wp.bind (in_ok _ _ _) (fun _ q => ?_); subst q
    simp only [inB, cbdec]
    refine Wp.ite (fun h3 => ?_) (fun h3 => F fun g => h3 g.2.2.1)
    refine Wp.bind (in_ok _ _ _) (fun _ q => ?_); subst q
    simp only [inB, cbdec]
    refine Wp.ite (fun h4 => ?_) (fun h4 => F fun g => h4 g.2.2.2.1)
    refine Wp.bind (implValidSend_ok _) (fun _ q => ?_); subst q
    simp only [cbdec]
    refine Wp.ite (fun h5 => ?_) (fun h5 => F fun g => h5 g.2.2.2.2.1)
    refine Wp.bind (implValidTake_ok _) (fun _ q => ?_); subst q
    simp only [cbdec]
    refine Wp.ite (fun h6 => ?_) (fun h6 => F fun g => h6 g.2.2.2.2.2.1)
    have T := endTail e ⟨h1, h2, h3, h4, h5, h6⟩
    simp only [cbeq] at T ⊢
    refine Wp.ite (fun h7 => ?_) (fun h7 => T fun g => absurd g h7)
    refine Wp.bind (P := fun r => r = decide (PNoS e.Send)) (noSend_ok _) (fun _ q => ?_); subst q
    simp only [cbdec]
    refine Wp.ite (fun h8 => ?_) (fun h8 => F fun g => h8 (g.2.2.2.2.2.2.1 h7).1)
    refine Wp.bind (P := fun r => r = decide (PNoT e.Take)) (noTake_ok _) (fun _ q => ?_); subst q
    simp only [cbdec]
    exact Wp.ite (fun h9 => T fun _ => ⟨h8, h9⟩) (fun h9 => F fun g => h9 (g.2.2.2.2.2.2.1 h7).2)
  simp only [cbne]
  refine Wp.ite (fun h => M (by omega)) (fun h => ?_)
  exact Wp.ite (fun h2 => M (by omega)) (fun h2 => F fun g => by have := g.1; omega)
theorem l6Copy_ok (e : DEnd) (h : VEnd e) : Wp (fun k => spec_l6Copy k e) (· = e) := by
  unfold spec_l6Copy
  obtain ⟨h1, h2⟩ := h.sm
  refine Wp.bind (l4Copy_ok _ h1.1) (fun r q => ?_); subst q
  refine Wp.bind (l5Copy_ok _ h2.1.1 h2.2.2.1) (fun r q => ?_); subst q
  exact Wp.ret rfl
theorem copyEnd_ok (e : DEnd) (h : VEnd e) : Wp (fun k => impl_copyEnd k e) (· = e) := l6Copy_ok e h
abbrev noEnd : DEnd := ⟨0, false, 0, 0, 0, false, noSend, noTake⟩
theorem pnoS : PNoS noSend := ⟨rfl, rfl⟩
theorem pnoT : PNoT noTake := ⟨rfl, rfl, rfl, rfl⟩
/-! ### NewEnd, EndFall, EndRise -/
def newM (n : Int) : DEnd := if 1 ≤ n ∧ n ≤ 2 then ⟨n, true, 1, 0, 0, false, noSend, noTake⟩ else noEnd
theorem specNew_ok (n : Int) : Wp (fun k => spec_NewEnd k n) (· = newM n) := by
  unfold spec_NewEnd newM
  refine Wp.bind (l1In_ok _ _ _) (fun _ q => ?_); subst q
  simp only [inB, cbdec, cbnot]
  exact Wp.ite (fun h1 => Wp.ret (by rw [if_pos h1])) (fun h1 => Wp.ret (by rw [if_neg h1]))
def fallM (e : DEnd) : DEnd := if VEnd e then ⟨e.Number, false, e.Life, 0, 0, false, noSend, noTake⟩ else noEnd
theorem specFall_ok (e : DEnd) : Wp (fun k => spec_EndFall k e) (· = fallM e) := by
  unfold spec_EndFall fallM
  refine Wp.bind (specValidEnd_ok _) (fun _ q => ?_); subst q
  simp only [cbdec, cbnot]
  exact Wp.ite (fun h1 => Wp.ret (by rw [if_pos h1])) (fun h1 => Wp.ret (by rw [if_neg h1]))
theorem implFall_ok (e : DEnd) : Wp (fun k => impl_EndFall k e) (· = fallM e) := by
  unfold impl_EndFall fallM
  refine Wp.bind (implValidEnd_ok _) (fun _ q => ?_); subst q
  simp only [cbdec, cbnot]
  exact Wp.ite (fun h1 => Wp.ret (by rw [if_pos h1])) (fun h1 => Wp.ret (by rw [if_neg h1]))
theorem fallM_V (e : DEnd) (h : VEnd e) : VEnd (fallM e) := by
  unfold fallM; rw [if_pos h]
  exact ⟨h.1, h.2.1, by simp, by simp, noSend_V, noTake_V, fun _ => ⟨pnoS, pnoT⟩, fun _ => ⟨rfl, rfl, rfl⟩⟩
def riseM (e : DEnd) : DEnd := if VEnd e then (if e.Up = true then e else if 1000 ≤ e.Life then e else ⟨e.Number, true, e.Life + 1, 0, 0, false, noSend, noTake⟩) else noEnd
theorem specRise_ok (e : DEnd) : Wp (fun k => spec_EndRise k e) (· = riseM e) := by
  unfold spec_EndRise riseM
  refine Wp.bind (specValidEnd_ok _) (fun _ q => ?_); subst q
  simp only [cbdec, cbnot]
  refine Wp.ite (fun h1 => ?_) (fun h1 => Wp.ret (by rw [if_neg h1]))
  rw [if_pos h1]
  refine Wp.bif (fun u => ?_) (fun u => ?_)
  · rw [if_pos u]; refine Wp.bind (l6Copy_ok e h1) (fun r q => ?_); rw [q]; exact Wp.ret rfl
  · rw [if_neg (by simp [u])]
    refine Wp.ite (fun h2 => ?_) (fun h2 => ?_)
    · rw [if_pos (by omega)]; refine Wp.bind (l6Copy_ok e h1) (fun r q => ?_); rw [q]; exact Wp.ret rfl
    · rw [if_neg (by omega)]
      have := h1.2.1
      rw [w64' (by omega) (by omega)]; exact Wp.ret rfl
theorem implRise_ok (e : DEnd) : Wp (fun k => impl_EndRise k e) (· = riseM e) := by
  unfold impl_EndRise riseM
  refine Wp.bind (implValidEnd_ok _) (fun _ q => ?_); subst q
  simp only [cbdec, cbnot, cbeq]
  refine Wp.ite (fun h1 => ?_) (fun h1 => Wp.ret (by rw [if_neg h1]))
  rw [if_pos h1]
  refine Wp.bif (fun u => ?_) (fun u => ?_)
  · rw [if_pos u]; refine Wp.bind (copyEnd_ok e h1) (fun r q => ?_); rw [q]; exact Wp.ret rfl
  · rw [if_neg (by simp [u])]
    have := h1.2.1
    refine Wp.ite (fun h2 => ?_) (fun h2 => ?_)
    · rw [if_pos (by omega)]; refine Wp.bind (copyEnd_ok e h1) (fun r q => ?_); rw [q]; exact Wp.ret rfl
    · rw [if_neg (by omega)]
      rw [w64' (by omega) (by omega)]; exact Wp.ret rfl
theorem riseM_V (e : DEnd) (h : VEnd e) : VEnd (riseM e) := by
  unfold riseM; rw [if_pos h]
  split
  · exact h
  · split
    · exact h
    · have := h.2.1
      exact ⟨h.1, by simp only; omega, by simp, by simp, noSend_V, noTake_V, fun _ => ⟨pnoS, pnoT⟩, fun g => by cases g⟩
/-! ### EndPull, EndPush -/
def pullE (e : DEnd) : DActed := if VEnd e then (if e.Up = true then (if (pullM e.Take).2.2 = true then ⟨0, ⟨e.Number, e.Up, e.Life, e.Peer, e.Since, true, e.Send, (pullM e.Take).1⟩, [], (pullM e.Take).2.1⟩ else ⟨4, noEnd, [], noB⟩) else ⟨2, noEnd, [], noB⟩) else ⟨1, noEnd, [], noB⟩
theorem specPullE_ok (e : DEnd) : Wp (fun k => spec_EndPull k e) (· = pullE e) := by
  unfold spec_EndPull pullE
  refine Wp.bind (specValidEnd_ok _) (fun _ q => ?_); subst q
  simp only [cbdec, cbnot]
  refine Wp.ite (fun h1 => ?_) (fun h1 => Wp.ret (by rw [if_neg h1]))
  rw [if_pos h1]
  refine Wp.bif (fun u => ?_) (fun u => Wp.ret (by rw [if_neg (by simp [u])]))
  rw [if_pos u]
  refine Wp.bind (specPull_ok _) (fun _ q => ?_); subst q
  refine Wp.bif (fun v => ?_) (fun v => Wp.ret (by rw [if_neg (by simp [v])]))
  rw [if_pos v]
  refine Wp.bind (l6Copy_ok e h1) (fun r q => ?_); rw [q]; exact Wp.ret rfl
theorem implPullE_ok (e : DEnd) : Wp (fun k => impl_EndPull k e) (· = pullE e) := by
  unfold impl_EndPull pullE
  refine Wp.bind (implValidEnd_ok _) (fun _ q => ?_); subst q
  simp only [cbdec, cbnot]
  refine Wp.ite (fun h1 => ?_) (fun h1 => Wp.ret (by rw [if_neg h1]))
  rw [if_pos h1]
  refine Wp.bif (fun u => ?_) (fun u => Wp.ret (by rw [if_neg (by simp [u])]))
  rw [if_pos u]
  refine Wp.bind (implPull_ok _) (fun _ q => ?_); subst q
  refine Wp.bif (fun v => ?_) (fun v => Wp.ret (by rw [if_neg (by simp [v])]))
  rw [if_pos v]
  refine Wp.bind (copyEnd_ok e h1) (fun r q => ?_); rw [q]; exact Wp.ret rfl
def pushE (e : DEnd) (t : ByteArray) : DActed := if VEnd e then (if e.Up = true then (if e.Peer = 0 then ⟨2, noEnd, [], noB⟩ else if (pushM e.Send t).2 = 0 then ⟨0, ⟨e.Number, e.Up, e.Life, e.Peer, e.Since, e.Owes, (pushM e.Send t).1, e.Take⟩, [], noB⟩ else ⟨(pushM e.Send t).2, noEnd, [], noB⟩) else ⟨2, noEnd, [], noB⟩) else ⟨1, noEnd, [], noB⟩
theorem specPushE_ok (e : DEnd) (t : ByteArray) : Wp (fun k => spec_EndPush k e t) (· = pushE e t) := by
  unfold spec_EndPush pushE
  refine Wp.bind (specValidEnd_ok _) (fun _ q => ?_); subst q
  simp only [cbdec, cbnot, cbeq, cbne]
  refine Wp.ite (fun h1 => ?_) (fun h1 => Wp.ret (by rw [if_neg h1]))
  rw [if_pos h1]
  refine Wp.bif (fun u => ?_) (fun u => Wp.ret (by rw [if_neg (by simp [u])]))
  rw [if_pos u]
  refine Wp.ite (fun h2 => Wp.ret (by rw [if_pos h2])) (fun h2 => ?_)
  rw [if_neg h2]
  refine Wp.bind (specPush_ok _ _) (fun _ q => ?_); subst q
  refine Wp.ite (fun h3 => ?_) (fun h3 => Wp.ret (by rw [if_neg h3]))
  rw [if_pos h3]
  refine Wp.bind (l6Copy_ok e h1) (fun r q => ?_); rw [q]; exact Wp.ret rfl
theorem implPushE_ok (e : DEnd) (t : ByteArray) : Wp (fun k => impl_EndPush k e t) (· = pushE e t) := by
  unfold impl_EndPush pushE
  refine Wp.bind (implValidEnd_ok _) (fun _ q => ?_); subst q
  simp only [cbdec, cbnot, cbeq, cbne]
  refine Wp.ite (fun h1 => ?_) (fun h1 => Wp.ret (by rw [if_neg h1]))
  rw [if_pos h1]
  refine Wp.bif (fun u => ?_) (fun u => Wp.ret (by rw [if_neg (by simp [u])]))
  rw [if_pos u]
  refine Wp.ite (fun h2 => Wp.ret (by rw [if_pos h2])) (fun h2 => ?_)
  rw [if_neg h2]
  refine Wp.bind (implPush_ok _ _) (fun _ q => ?_); subst q
  refine Wp.ite (fun h3 => ?_) (fun h3 => Wp.ret (by rw [if_neg h3]))
  rw [if_pos h3]
  refine Wp.bind (copyEnd_ok e h1) (fun r q => ?_); rw [q]; exact Wp.ret rfl
end Km.X
namespace Km.X
open Go Km
set_option linter.unusedVariables false
set_option linter.unusedSimpArgs false
/-! ### EndTick -/
theorem tickL_range : ∀ (t : List DItem) (i : Nat) (b : Int), ∀ q ∈ (tickL i b t).2, b + i ≤ q ∧ q < b + i + t.length
  | [], i, b, q, h => by simp [tickL] at h
  | x :: t, i, b, q, h => by
    simp only [tickL] at h
    split at h
    · simp at h
    · simp only [List.length_cons]
      rcases List.mem_append.mp h with h | h
      · split at h
        · simp only [List.mem_singleton] at h; omega
        · simp at h
      · have := tickL_range t (i + 1) b q h
        omega
def partAt (l : List DItem) (i : Int) : DPart := match l[i.toNat]? with | some x => x.Part | none => ⟨noB, false⟩
def wordP (n li p b : Int) (l : List DItem) (q : Int) : DPacket := ⟨2, n, li, p, 0, 0, q, (partAt l (q - b)).Last, (partAt l (q - b)).Text⟩
def tickS (e : DEnd) : DSend × List Int := if e.Peer = 0 then (e.Send, []) else tickM e.Send
def upS (e : DEnd) : Int := if e.Since < 1000000 then e.Since + 1 else e.Since
def tickE (e : DEnd) : DActed := if VEnd e then
    (if e.Up = true then
      (if e.Owes = true ∨ 6 ≤ upS e then ⟨0, ⟨e.Number, e.Up, e.Life, e.Peer, 0, false, (tickS e).1, e.Take⟩, (tickS e).2.map (wordP e.Number e.Life e.Peer (tickS e).1.Base (tickS e).1.Items) ++ [⟨1, e.Number, e.Life, e.Peer, (tkM e.Take).1, (tkM e.Take).2, 0, false, noB⟩], noB⟩
      else ⟨0, ⟨e.Number, e.Up, e.Life, e.Peer, upS e, e.Owes, (tickS e).1, e.Take⟩, (tickS e).2.map (wordP e.Number e.Life e.Peer (tickS e).1.Base (tickS e).1.Items), noB⟩)
    else ⟨0, e, [], noB⟩) else ⟨1, noEnd, [], noB⟩
theorem et_spec17 (x0 x1 : Int) (x2 : Bool) (x3 x4 x5 : Int) (x6 : Bool) (x7 x8 : Int) (x9 x10 : ByteArray) (n : Int) (u : Bool) (li p s : Int) (w : Bool) (b nn : Int) (o : ByteArray) (out : List DPacket) (y1 : List DItem) (y2 : List DHeld) (y3 : List ByteArray) (y4 : List DPacket) (it : List DItem) (h : List DHeld) (r : List ByteArray) (ho : out.length ≤ 1000) :
    Wp (fun k => spec_EndTick_l17 k x0 x1 x2 x3 x4 x5 x6 x7 x8 x9 x10 n u li p s w b nn o out y1 y2 y3 y4 it h r) (· = if w = true ∨ 6 ≤ s then ⟨0, ⟨n, u, li, p, 0, false, ⟨b, it⟩, ⟨nn, h, o, r⟩⟩, out ++ [⟨1, n, li, p, (tkM ⟨nn, h, o, r⟩).1, (tkM ⟨nn, h, o, r⟩).2, 0, false, noB⟩], noB⟩ else ⟨0, ⟨n, u, li, p, s, w, ⟨b, it⟩, ⟨nn, h, o, r⟩⟩, out, noB⟩) := by
  refine Wp.step ?_
  simp only [spec_EndTick_l17]
  have G : w = true ∨ 6 ≤ s → Wp (fun k => (spec_TakeWord k ⟨nn, h, o, r⟩).bind fun r8 => (app 80 out ([(⟨1, n, li, p, r8.1, r8.2, 0, false, (⟨#[]⟩ : ByteArray)⟩ : DPacket)] : List DPacket)).bind fun l9 =>
      spec_EndTick_l22 k x0 x1 x2 x3 x4 x5 x6 x7 x8 x9 x10 n u li p 0 false b nn o l9 y1 y2 y3 y4 it h r) (· = if w = true ∨ 6 ≤ s then ⟨0, ⟨n, u, li, p, 0, false, ⟨b, it⟩, ⟨nn, h, o, r⟩⟩, out ++ [⟨1, n, li, p, (tkM ⟨nn, h, o, r⟩).1, (tkM ⟨nn, h, o, r⟩).2, 0, false, noB⟩], noB⟩ else ⟨0, ⟨n, u, li, p, s, w, ⟨b, it⟩, ⟨nn, h, o, r⟩⟩, out, noB⟩) := fun g => by
    rw [if_pos g]
    refine Wp.bind (specTakeWord_ok _) (fun _ q => ?_); subst q
    refine Wp.opt (app_ok (by simp; omega)) ?_
    refine Wp.step ?_
    simp only [spec_EndTick_l22]
    exact Wp.ret rfl
  refine Wp.bif (fun g => G (.inl g)) (fun g => ?_)
  simp only [cbdec]
  refine Wp.ite (fun g2 => G (.inr g2)) (fun g2 => ?_)
  rw [if_neg (by rw [g]; intro h; rcases h with h | h; cases h; omega)]
  refine Wp.step ?_
  simp only [spec_EndTick_l22]
  exact Wp.ret (by rw [g])
theorem et_spec13 (x0 x1 : Int) (x2 : Bool) (x3 x4 x5 : Int) (x6 : Bool) (x7 x8 : Int) (x9 x10 : ByteArray) (n : Int) (u : Bool) (li p s : Int) (w : Bool) (b c nn : Int) (o : ByteArray) (y1 : List DItem) (y2 : List DHeld) (y3 : List ByteArray) (y4 : List DPacket) (it : List DItem) (h : List DHeld) (r : List ByteArray) (hit : it.length ≤ 60) (hb : 0 ≤ b ∧ b ≤ 1000000) : ∀ (t pre : List Int) (out : List DPacket), (pre ++ t).length ≤ 60 → out.length ≤ pre.length → (∀ q ∈ t, b ≤ q ∧ q < b + it.length) →
    Wp (fun k => spec_EndTick_l13 k (pre.length : Int) x0 x1 x2 x3 x4 x5 x6 x7 x8 x9 x10 n u li p s w c nn o out b (pre ++ t) y1 y2 y3 y4 it h r) (· = if w = true ∨ 6 ≤ s then ⟨0, ⟨n, u, li, p, 0, false, ⟨c, it⟩, ⟨nn, h, o, r⟩⟩, (out ++ t.map (wordP n li p b it)) ++ [⟨1, n, li, p, (tkM ⟨nn, h, o, r⟩).1, (tkM ⟨nn, h, o, r⟩).2, 0, false, noB⟩], noB⟩ else ⟨0, ⟨n, u, li, p, s, w, ⟨c, it⟩, ⟨nn, h, o, r⟩⟩, out ++ t.map (wordP n li p b it), noB⟩)
  | [], pre, out, hl, ho, hq => by
    refine Wp.step ?_
    simp only [spec_EndTick_l13, List.append_nil, List.map_nil] at *
    simp (disch := omega) only [cbdec, if_neg]
    exact et_spec17 _ _ _ _ _ _ _ _ _ _ _ _ _ _ _ _ _ _ _ _ _ _ _ _ _ _ _ _ (by omega)
  | q :: t, pre, out, hl, ho, hq => by
    refine Wp.step ?_
    have hl' := hl
    simp only [List.length_append, List.length_cons] at hl
    have hq1 := hq q (List.mem_cons_self ..)
    simp only [spec_EndTick_l13]
    simp only [cbdec, lt_mid, if_true, idx_mid, get_mid, Option.bind_some]
    rw [w64' (n := q - b) (by omega) (by omega)]
    have hlt : (q - b).toNat < it.length := by omega
    have e1 : idx it (q - b) = some it[(q - b).toNat] := by
      have := idx_at hlt
      rwa [Int.toNat_of_nonneg (by omega)] at this
    have e2 : it[(q - b).toNat]? = some it[(q - b).toNat] := List.getElem?_eq_getElem hlt
    have e3 : partAt it (q - b) = it[(q - b).toNat].Part := by unfold partAt; rw [e2]
    simp only [e1, e2, Option.bind_some]
    rw [← e3]
    refine Wp.opt (app_ok (by simp; omega)) ?_
    simp (disch := omega) only [w64']
    have ih := et_spec13 x0 x1 x2 x3 x4 x5 x6 x7 x8 x9 x10 n u li p s w b c nn o y1 y2 y3 y4 it h r hit hb t (pre ++ [q]) (out ++ [wordP n li p b it q]) (by simpa using hl') (by simp; omega) (fun q' h' => hq q' (List.mem_cons_of_mem _ h'))
    rw [← mid_succ, ← mid_len] at ih
    simp only [List.append_assoc, List.cons_append, List.nil_append] at ih
    simp only [List.map_cons, List.append_assoc, List.cons_append]
    exact ih
theorem et_impl18 (x0 x1 : Int) (x2 : Bool) (x3 x4 x5 : Int) (x6 : Bool) (x7 x8 : Int) (x9 x10 : ByteArray) (cd n : Int) (u : Bool) (li p s : Int) (w : Bool) (b nn : Int) (o tx : ByteArray) (out : List DPacket) (y1 : List DItem) (y2 : List DHeld) (y3 : List ByteArray) (y4 : List DPacket) (it : List DItem) (h : List DHeld) (r : List ByteArray) (ho : out.length ≤ 1000) :
    Wp (fun k => impl_EndTick_l18 k x0 x1 x2 x3 x4 x5 x6 x7 x8 x9 x10 cd n u li p s w b nn o tx y1 y2 y3 y4 it h r out) (· = if w = true ∨ 6 ≤ s then ⟨cd, ⟨n, u, li, p, 0, false, ⟨b, it⟩, ⟨nn, h, o, r⟩⟩, out ++ [⟨1, n, li, p, (tkM ⟨nn, h, o, r⟩).1, (tkM ⟨nn, h, o, r⟩).2, 0, false, noB⟩], tx⟩ else ⟨cd, ⟨n, u, li, p, s, w, ⟨b, it⟩, ⟨nn, h, o, r⟩⟩, out, tx⟩) := by
  refine Wp.step ?_
  simp only [impl_EndTick_l18]
  have G : w = true ∨ 6 ≤ s → Wp (fun k => (impl_TakeWord k ⟨nn, h, o, r⟩).bind fun r8 => (app 80 out ([(⟨1, n, li, p, r8.1, r8.2, 0, false, (⟨#[]⟩ : ByteArray)⟩ : DPacket)] : List DPacket)).bind fun l9 =>
      impl_EndTick_l22 k x0 x1 x2 x3 x4 x5 x6 x7 x8 x9 x10 cd n u li p 0 false b nn o tx y1 y2 y3 y4 it h r l9) (· = if w = true ∨ 6 ≤ s then ⟨cd, ⟨n, u, li, p, 0, false, ⟨b, it⟩, ⟨nn, h, o, r⟩⟩, out ++ [⟨1, n, li, p, (tkM ⟨nn, h, o, r⟩).1, (tkM ⟨nn, h, o, r⟩).2, 0, false, noB⟩], tx⟩ else ⟨cd, ⟨n, u, li, p, s, w, ⟨b, it⟩, ⟨nn, h, o, r⟩⟩, out, tx⟩) := fun g => by
    rw [if_pos g]
    refine Wp.bind (implTakeWord_ok _) (fun _ q => ?_); subst q
    refine Wp.opt (app_ok (by simp; omega)) ?_
    refine Wp.step ?_
    simp only [impl_EndTick_l22]
    exact Wp.ret rfl
  refine Wp.bif (fun g => G (.inl g)) (fun g => ?_)
  simp only [cbdec]
  refine Wp.ite (fun g2 => G (.inr g2)) (fun g2 => ?_)
  rw [if_neg (by rw [g]; intro h; rcases h with h | h; cases h; omega)]
  refine Wp.step ?_
  simp only [impl_EndTick_l22]
  exact Wp.ret (by rw [g])
theorem et_impl13 (x0 x1 : Int) (x2 : Bool) (x3 x4 x5 : Int) (x6 : Bool) (x7 x8 : Int) (x9 x10 : ByteArray) (cd n : Int) (u : Bool) (li p s : Int) (w : Bool) (b nn : Int) (o tx : ByteArray) (y1 : List DItem) (y2 : List DHeld) (y3 : List ByteArray) (y4 : List DPacket) (it : List DItem) (h : List DHeld) (r : List ByteArray) (hit : it.length ≤ 60) (hb : 0 ≤ b ∧ b ≤ 1000000) : ∀ (t pre : List Int) (out : List DPacket), (pre ++ t).length ≤ 60 → out.length ≤ pre.length → (∀ q ∈ t, b ≤ q ∧ q < b + it.length) →
    Wp (fun k => impl_EndTick_l13 k ((pre ++ t).length : Int) (pre.length : Int) x0 x1 x2 x3 x4 x5 x6 x7 x8 x9 x10 cd n u li p s w b nn o tx (pre ++ t) y1 y2 y3 y4 it h r out) (· = if w = true ∨ 6 ≤ s then ⟨cd, ⟨n, u, li, p, 0, false, ⟨b, it⟩, ⟨nn, h, o, r⟩⟩, (out ++ t.map (wordP n li p b it)) ++ [⟨1, n, li, p, (tkM ⟨nn, h, o, r⟩).1, (tkM ⟨nn, h, o, r⟩).2, 0, false, noB⟩], tx⟩ else ⟨cd, ⟨n, u, li, p, s, w, ⟨b, it⟩, ⟨nn, h, o, r⟩⟩, out ++ t.map (wordP n li p b it), tx⟩)
  | [], pre, out, hl, ho, hq => by
    refine Wp.step ?_
    simp only [impl_EndTick_l13, List.append_nil, List.map_nil] at *
    simp (disch := omega) only [cbdec, if_neg]
    exact et_impl18 _ _ _ _ _ _ _ _ _ _ _ _ _ _ _ _ _ _ _ _ _ _ _ _ _ _ _ _ _ _ (by omega)
  | q :: t, pre, out, hl, ho, hq => by
    refine Wp.step ?_
    have hl' := hl
    simp only [List.length_append, List.length_cons] at hl
    have hq1 := hq q (List.mem_cons_self ..)
    simp only [impl_EndTick_l13]
    simp only [cbdec, lt_mid, if_true, idx_mid, get_mid, Option.bind_some]
    rw [w64' (n := q - b) (by omega) (by omega)]
    have hlt : (q - b).toNat < it.length := by omega
    have e1 : idx it (q - b) = some it[(q - b).toNat] := by
      have := idx_at hlt
      rwa [Int.toNat_of_nonneg (by omega)] at this
    have e2 : it[(q - b).toNat]? = some it[(q - b).toNat] := List.getElem?_eq_getElem hlt
    have e3 : partAt it (q - b) = it[(q - b).toNat].Part := by unfold partAt; rw [e2]
    simp only [e1, e2, Option.bind_some]
    rw [← e3]
    refine Wp.opt (app_ok (by simp; omega)) ?_
    simp (disch := omega) only [w64']
    have ih := et_impl13 x0 x1 x2 x3 x4 x5 x6 x7 x8 x9 x10 cd n u li p s w b nn o tx y1 y2 y3 y4 it h r hit hb t (pre ++ [q]) (out ++ [wordP n li p b it q]) (by simpa using hl') (by simp; omega) (fun q' h' => hq q' (List.mem_cons_of_mem _ h'))
    rw [← mid_succ, ← mid_len] at ih
    simp only [List.append_assoc, List.cons_append, List.nil_append] at ih
    simp only [List.map_cons, List.append_assoc, List.cons_append]
    exact ih
theorem tickM_range (s : DSend) (h : VSend s) : ∀ q ∈ (tickM s).2, (tickM s).1.Base ≤ q ∧ q < (tickM s).1.Base + (tickM s).1.Items.length := by
  unfold tickM
  rw [if_pos h]
  intro q hq
  have := tickL_range s.Items 0 s.Base q hq
  have e := (tickL_ok s.Items 0 s.Base h.2.2.2).2.1
  simp only
  rw [e]; omega
theorem specTickE_ok (e : DEnd) : Wp (fun k => spec_EndTick k e) (· = tickE e) := by
  unfold spec_EndTick tickE
  refine Wp.bind (specValidEnd_ok _) (fun _ q => ?_); subst q
  simp only [cbdec, cbnot]
  refine Wp.ite (fun h1 => ?_) (fun h1 => Wp.ret (by rw [if_neg h1]))
  rw [if_pos h1]
  refine Wp.bind (l6Copy_ok e h1) (fun r q => ?_); rw [q]
  refine Wp.bif (fun u => ?_) (fun u => Wp.ret (by rw [if_neg (by simp [u])]))
  rw [if_pos u]
  have hS := h1.2.2.2.1
  have M : ∀ s : Int, s = upS e → Wp (fun k => spec_EndTick_l9 k 0 0 false 0 0 0 false 0 0 (⟨#[]⟩ : ByteArray) (⟨#[]⟩ : ByteArray) e.Number e.Up e.Life e.Peer s e.Owes e.Send.Base e.Take.Next e.Take.Open ([] : List DPacket) ([] : List DItem) ([] : List DHeld) ([] : List ByteArray) ([] : List DPacket) e.Send.Items e.Take.Held e.Take.Ready) (· = if e.Owes = true ∨ 6 ≤ upS e then ⟨0, ⟨e.Number, e.Up, e.Life, e.Peer, 0, false, (tickS e).1, e.Take⟩, (tickS e).2.map (wordP e.Number e.Life e.Peer (tickS e).1.Base (tickS e).1.Items) ++ [⟨1, e.Number, e.Life, e.Peer, (tkM e.Take).1, (tkM e.Take).2, 0, false, noB⟩], noB⟩
      else ⟨0, ⟨e.Number, e.Up, e.Life, e.Peer, upS e, e.Owes, (tickS e).1, e.Take⟩, (tickS e).2.map (wordP e.Number e.Life e.Peer (tickS e).1.Base (tickS e).1.Items), noB⟩) := fun s hs => by
    subst hs
    refine Wp.step ?_
    simp only [spec_EndTick_l9, cbne]
    unfold tickS
    refine Wp.ite (fun h2 => ?_) (fun h2 => ?_)
    · rw [if_pos h2]
      exact et_spec17 _ _ _ _ _ _ _ _ _ _ _ _ _ _ _ _ _ _ _ _ _ _ _ _ _ _ _ _ (by simp)
    · rw [if_neg h2]
      refine Wp.bind (specTick_ok _) (fun _ q => ?_); subst q
      obtain ⟨v1, v2⟩ := tickM_ok e.Send
      exact et_spec13 _ _ _ _ _ _ _ _ _ _ _ _ _ _ _ _ _ _ _ _ _ _ _ _ _ _ _ _ v1.1 v1.2.1 (tickM e.Send).2 [] [] (by simpa using v2) (by simp) (tickM_range e.Send h1.2.2.2.2.1)
  refine Wp.ite (fun h2 => M _ ?_) (fun h2 => M _ ?_)
  · rw [w64' (by omega) (by omega)]; unfold upS; rw [if_pos h2]
  · unfold upS; rw [if_neg h2]
theorem implTickE_ok (e : DEnd) : Wp (fun k => impl_EndTick k e) (· = tickE e) := by
  unfold impl_EndTick tickE
  refine Wp.bind (implValidEnd_ok _) (fun _ q => ?_); subst q
  simp only [cbdec, cbnot]
  refine Wp.ite (fun h1 => ?_) (fun h1 => Wp.ret (by rw [if_neg h1]))
  rw [if_pos h1]
  refine Wp.bind (copyEnd_ok e h1) (fun r q => ?_); rw [q]
  refine Wp.bif (fun u => ?_) (fun u => Wp.ret (by rw [if_neg (by simp [u])]))
  rw [if_pos u]
  have hS := h1.2.2.2.1
  have M : ∀ s : Int, s = upS e → Wp (fun k => impl_EndTick_l9 k 0 0 false 0 0 0 false 0 0 (⟨#[]⟩ : ByteArray) (⟨#[]⟩ : ByteArray) 0 e.Number e.Up e.Life e.Peer s e.Owes e.Send.Base e.Take.Next e.Take.Open (⟨#[]⟩ : ByteArray) ([] : List DItem) ([] : List DHeld) ([] : List ByteArray) ([] : List DPacket) e.Send.Items e.Take.Held e.Take.Ready ([] : List DPacket)) (· = if e.Owes = true ∨ 6 ≤ upS e then ⟨0, ⟨e.Number, e.Up, e.Life, e.Peer, 0, false, (tickS e).1, e.Take⟩, (tickS e).2.map (wordP e.Number e.Life e.Peer (tickS e).1.Base (tickS e).1.Items) ++ [⟨1, e.Number, e.Life, e.Peer, (tkM e.Take).1, (tkM e.Take).2, 0, false, noB⟩], noB⟩
      else ⟨0, ⟨e.Number, e.Up, e.Life, e.Peer, upS e, e.Owes, (tickS e).1, e.Take⟩, (tickS e).2.map (wordP e.Number e.Life e.Peer (tickS e).1.Base (tickS e).1.Items), noB⟩) := fun s hs => by
    subst hs
    refine Wp.step ?_
    simp only [impl_EndTick_l9, cbne]
    unfold tickS
    refine Wp.ite (fun h2 => ?_) (fun h2 => ?_)
    · rw [if_pos h2]
      exact et_impl18 _ _ _ _ _ _ _ _ _ _ _ _ _ _ _ _ _ _ _ _ _ _ _ _ _ _ _ _ _ _ (by simp)
    · rw [if_neg h2]
      refine Wp.bind (implTick_ok _) (fun _ q => ?_); subst q
      obtain ⟨v1, v2⟩ := tickM_ok e.Send
      exact et_impl13 _ _ _ _ _ _ _ _ _ _ _ _ _ _ _ _ _ _ _ _ _ _ _ _ _ _ _ _ _ v1.1 v1.2.1 (tickM e.Send).2 [] [] (by simpa using v2) (by simp) (tickM_range e.Send h1.2.2.2.2.1)
  refine Wp.ite (fun h2 => M _ ?_) (fun h2 => M _ ?_)
  · rw [w64' (by omega) (by omega)]; unfold upS; rw [if_pos h2]
  · unfold upS; rw [if_neg h2]
theorem tickS_V (e : DEnd) (h : VEnd e) : VSend (tickS e).1 ∧ (tickS e).2.length ≤ 60 := by
  unfold tickS; split
  · exact ⟨h.2.2.2.2.1, by simp⟩
  · exact tickM_ok _
end Km.X
namespace Km.X
open Go Km
set_option linter.unusedVariables false
set_option linter.unusedSimpArgs false
end Km.X
namespace Km.X
open Go Km
set_option linter.unusedVariables false
set_option linter.unusedSimpArgs false
/-! ### World -/
def VRec (r : DRecord) : Prop := (1 ≤ r.From ∧ r.From ≤ 2) ∧ (1 ≤ r.A ∧ r.A ≤ 1000) ∧ (1 ≤ r.B ∧ r.B ≤ 1000) ∧ r.Text.size ≤ 200
instance (r : DRecord) : Decidable (VRec r) := by unfold VRec; infer_instance
def VRecs (l : List DRecord) : Prop := ∀ r ∈ l, VRec r
instance (l : List DRecord) : Decidable (VRecs l) := by unfold VRecs; infer_instance
def VPar (p : DParcel) : Prop := (1 ≤ p.To ∧ p.To ≤ 2) ∧ p.Sent.size ≤ 100 ∧ p.Bytes.size ≤ 100
instance (p : DParcel) : Decidable (VPar p) := by unfold VPar; infer_instance
def VPars (l : List DParcel) : Prop := ∀ p ∈ l, VPar p
instance (l : List DParcel) : Decidable (VPars l) := by unfold VPars; infer_instance
def VEnds : List DEnd → Prop
  | [a, b] => (VEnd a ∧ a.Number = 1) ∧ (VEnd b ∧ b.Number = 2)
  | _ => False
instance : (l : List DEnd) → Decidable (VEnds l)
  | [a, b] => by unfold VEnds; infer_instance
  | [] => .isFalse id
  | [_] => .isFalse id
  | _ :: _ :: _ :: _ => .isFalse id
def VWorld (w : DWorld) : Prop := (1 ≤ w.Width ∧ w.Width ≤ 8) ∧ w.Key.size ≤ 30 ∧ w.Flight.length ≤ 1000 ∧ w.Given.length + w.Taken.length ≤ 400 ∧ VEnds w.Ends ∧ VPars w.Flight ∧ VRecs w.Given ∧ VRecs w.Taken
instance (w : DWorld) : Decidable (VWorld w) := by unfold VWorld; infer_instance
theorem vends_len : ∀ {l : List DEnd}, VEnds l → l.length = 2
  | [a, b], _ => rfl
theorem all_cons {α : Type} {P : α → Prop} {x : α} {t : List α} : (∀ y ∈ x :: t, P y) ↔ P x ∧ ∀ y ∈ t, P y := by simp
theorem recs_spec : ∀ (t pre : List DRecord), (pre ++ t).length ≤ 1000 → Wp (fun k => spec_l7RecordsOk_l2 k (pre ++ t) (pre.length : Int)) (· = decide (VRecs t))
  | [], pre, hl => by
    refine Wp.step ?_
    simp only [spec_l7RecordsOk_l2, List.append_nil]
    simp (disch := omega) only [cbdec, if_neg]
    exact Wp.ret (decide_eq_true fun x hx => by simp at hx).symm
  | x :: t, pre, hl => by
    refine Wp.step ?_
    have hl' := hl
    simp only [List.length_append, List.length_cons] at hl
    simp only [spec_l7RecordsOk_l2]
    simp only [cbdec, lt_mid, if_true, idx_mid, Option.bind_some, cbnot]
    have F : ¬ VRec x → Wp (fun _ => some false) (· = decide (VRecs (x :: t))) := fun h => Wp.ret (decide_eq_false fun g => h (g x (List.mem_cons_self ..))).symm
    refine Wp.bind (l1In_ok _ _ _) (fun _ q => ?_); subst q
    simp only [inB, cbdec]
    refine Wp.ite (fun h1 => ?_) (fun h1 => F fun g => h1 g.1)
    refine Wp.bind (l1In_ok _ _ _) (fun _ q => ?_); subst q
    simp only [inB, cbdec]
    refine Wp.ite (fun h2 => ?_) (fun h2 => F fun g => h2 g.2.1)
    refine Wp.bind (l1In_ok _ _ _) (fun _ q => ?_); subst q
    simp only [inB, cbdec]
    refine Wp.ite (fun h3 => ?_) (fun h3 => F fun g => h3 g.2.2.1)
    refine Wp.ite (fun h4 => F fun g => by have := g.2.2.2; omega) (fun h4 => ?_)
    simp (disch := omega) only [w64']
    have ih := recs_spec t (pre ++ [x]) (by simpa using hl')
    rw [← mid_succ, ← mid_len] at ih
    refine ih.mono fun v hv => ?_
    rw [hv, decide_eq_decide]
    exact ⟨fun g => all_cons.mpr ⟨⟨h1, h2, h3, by omega⟩, g⟩, fun g => (all_cons.mp g).2⟩
theorem specRecs_ok (l : List DRecord) (h : l.length ≤ 1000) : Wp (fun k => spec_l7RecordsOk k l) (· = decide (VRecs l)) := recs_spec l [] (by simpa using h)
theorem par_spec (kk : ByteArray) (wd : Int) (es : List DEnd) (fo : ByteArray) (gi ta : List DRecord) (hg : gi.length ≤ 1000) (ht : ta.length ≤ 1000) : ∀ (t pre : List DParcel), (pre ++ t).length ≤ 1000 →
    Wp (fun k => spec_ValidWorld_l9 k (pre.length : Int) kk wd es (pre ++ t) fo gi ta) (· = decide (VPars t ∧ VRecs gi ∧ VRecs ta))
  | [], pre, hl => by
    refine Wp.step ?_
    simp only [spec_ValidWorld_l9, List.append_nil]
    simp (disch := omega) only [cbdec, if_neg]
    refine Wp.bind (specRecs_ok gi hg) (fun _ q => ?_); subst q
    simp only [cbdec]
    refine Wp.ite (fun h1 => ?_) (fun h1 => Wp.ret (decide_eq_false fun g => h1 g.2.1).symm)
    refine Wp.bind (specRecs_ok ta ht) (fun _ q => ?_); subst q
    refine Wp.ret ?_
    rw [decide_eq_decide]
    exact ⟨fun g => ⟨fun x hx => by simp at hx, h1, g⟩, fun g => g.2.2⟩
  | x :: t, pre, hl => by
    refine Wp.step ?_
    have hl' := hl
    simp only [List.length_append, List.length_cons] at hl
    simp only [spec_ValidWorld_l9]
    simp only [cbdec, lt_mid, if_true, idx_mid, Option.bind_some, cbnot]
    have F : ¬ VPar x → Wp (fun _ => some false) (· = decide (VPars (x :: t) ∧ VRecs gi ∧ VRecs ta)) := fun h => Wp.ret (decide_eq_false fun g => h (g.1 x (List.mem_cons_self ..))).symm
    refine Wp.bind (l1In_ok _ _ _) (fun _ q => ?_); subst q
    simp only [inB, cbdec]
    refine Wp.ite (fun h1 => ?_) (fun h1 => F fun g => h1 g.1)
    refine Wp.ite (fun h2 => F fun g => by have := g.2.1; omega) (fun h2 => ?_)
    refine Wp.ite (fun h3 => F fun g => by have := g.2.2; omega) (fun h3 => ?_)
    simp (disch := omega) only [w64']
    have ih := par_spec kk wd es fo gi ta hg ht t (pre ++ [x]) (by simpa using hl')
    rw [← mid_succ, ← mid_len] at ih
    refine ih.mono fun v hv => ?_
    rw [hv, decide_eq_decide]
    exact ⟨fun g => ⟨all_cons.mpr ⟨⟨h1, by omega, by omega⟩, g.1⟩, g.2⟩, fun g => ⟨(all_cons.mp g.1).2, g.2⟩⟩
theorem specValidWorld_ok (w : DWorld) (hb : w.Given.length ≤ 1048576 ∧ w.Taken.length ≤ 1048576) : Wp (fun k => spec_ValidWorld k w) (· = decide (VWorld w)) := by
  unfold spec_ValidWorld
  have F : ¬ VWorld w → Wp (fun _ => some false) (· = decide (VWorld w)) := fun h => Wp.ret (decide_eq_false h).symm
  refine Wp.bind (l1In_ok _ _ _) (fun _ q => ?_); subst q
  simp only [inB, cbdec, cbnot, cbne]
  refine Wp.ite (fun h1 => ?_) (fun h1 => F fun g => h1 g.1)
  refine Wp.ite (fun h2 => F fun g => by have := g.2.1; omega) (fun h2 => ?_)
  refine Wp.ite (fun h3 => ?_) (fun h3 => F fun g => by have := vends_len g.2.2.2.2.1; omega)
  refine Wp.ite (fun h4 => F fun g => by have := g.2.2.1; omega) (fun h4 => ?_)
  simp (disch := omega) only [w64']
  refine Wp.ite (fun h5 => F fun g => by have := g.2.2.2.1; omega) (fun h5 => ?_)
  obtain ⟨ky, wd, es, fl, fo, gi, ta⟩ := w
  match es, h3 with
  | [a, b], _ =>
    refine Wp.step ?_
    have e0 : idx [a, b] 0 = some a := rfl
    have e1 : idx [a, b] 1 = some b := rfl
    have w1 : IntKind.wrap .i64 (0 + 1) = 1 := w64' (by omega) (by omega)
    have w2 : IntKind.wrap .i64 (1 + 1) = 2 := w64' (by omega) (by omega)
    have d0 : (0 : Int) < 2 := by omega
    have d1 : (1 : Int) < 2 := by omega
    have d2 : ¬ (2 : Int) < 2 := by omega
    simp only [spec_ValidWorld_l4, e0, w1, cbdec, Option.bind_some, if_pos d0, cbne]
    refine Wp.bind (specValidEnd_ok _) (fun _ q => ?_); subst q
    simp only [cbdec, cbnot]
    refine Wp.ite (fun h6 => ?_) (fun h6 => F fun g => h6 g.2.2.2.2.1.1.1)
    refine Wp.ite (fun h7 => ?_) (fun h7 => F fun g => h7 g.2.2.2.2.1.1.2)
    refine Wp.step ?_
    simp only [spec_ValidWorld_l4, e1, w2, cbdec, Option.bind_some, if_pos d1, cbne]
    refine Wp.bind (specValidEnd_ok _) (fun _ q => ?_); subst q
    simp only [cbdec, cbnot]
    refine Wp.ite (fun h8 => ?_) (fun h8 => F fun g => h8 g.2.2.2.2.1.2.1)
    refine Wp.ite (fun h9 => ?_) (fun h9 => F fun g => h9 g.2.2.2.2.1.2.2)
    refine Wp.step ?_
    simp only [spec_ValidWorld_l4, cbdec, if_neg d2]
    simp only at h2 h4 h5 hb
    refine Wp.mono (par_spec ky wd [a, b] fo gi ta (by omega) (by omega) fl [] (by show fl.length ≤ 1000; omega)) fun v hv => ?_
    rw [hv, decide_eq_decide]
    exact ⟨fun g => ⟨h1, by simp only; omega, by simp only; omega, by simp only; omega, ⟨⟨h6, h7⟩, ⟨h8, h9⟩⟩, g⟩, fun g => g.2.2.2.2.2⟩
theorem recs_impl (n j : Int) (xx : List (List DRecord)) (R : Prop) [Decidable R] (hR : Wp (fun k => impl_ValidWorld_l16 k n (IntKind.wrap .i64 (j + 1)) xx) (· = decide R)) : ∀ (t pre : List DRecord), (pre ++ t).length ≤ 1000 →
    Wp (fun k => impl_ValidWorld_l19 k n j (pre ++ t) ((pre ++ t).length : Int) (pre.length : Int) xx) (· = decide (VRecs t ∧ R))
  | [], pre, hl => by
    refine Wp.step ?_
    simp only [impl_ValidWorld_l19, List.append_nil]
    simp (disch := omega) only [cbdec, if_neg]
    refine hR.mono fun v hv => ?_
    rw [hv, decide_eq_decide]
    exact ⟨fun g => ⟨fun x hx => by simp at hx, g⟩, fun g => g.2⟩
  | x :: t, pre, hl => by
    refine Wp.step ?_
    have hl' := hl
    simp only [List.length_append, List.length_cons] at hl
    simp only [impl_ValidWorld_l19]
    simp only [cbdec, lt_mid, if_true, idx_mid, Option.bind_some, cbnot, cbne]
    simp (disch := omega) only [w64']
    have F : ¬ VRec x → Wp (fun _ => some false) (· = decide (VRecs (x :: t) ∧ R)) := fun h => Wp.ret (decide_eq_false fun g => h (g.1 x (List.mem_cons_self ..))).symm
    have ih := recs_impl n j xx R hR t (pre ++ [x]) (by simpa using hl')
    rw [← mid_succ, ← mid_len] at ih
    have M : (1 ≤ x.From ∧ x.From ≤ 2) → Wp (fun k => (impl_in k x.A 1 1000).bind fun r8 =>
        bif r8 then (impl_in k x.B 1 1000).bind fun r9 => bif r9 then (if (x.Text.size : Int) > 200 then some false else impl_ValidWorld_l19 k n j (pre ++ x :: t) ((pre ++ x :: t).length : Int) ((pre.length : Int) + 1) xx) else some false else some false) (· = decide (VRecs (x :: t) ∧ R)) := fun h1 => by
      refine Wp.bind (in_ok _ _ _) (fun _ q => ?_); subst q
      simp only [inB, cbdec]
      refine Wp.ite (fun h2 => ?_) (fun h2 => F fun g => h2 g.2.1)
      refine Wp.bind (in_ok _ _ _) (fun _ q => ?_); subst q
      simp only [inB, cbdec]
      refine Wp.ite (fun h3 => ?_) (fun h3 => F fun g => h3 g.2.2.1)
      refine Wp.ite (fun h4 => F fun g => by have := g.2.2.2; omega) (fun h4 => ?_)
      refine ih.mono fun v hv => ?_
      rw [hv, decide_eq_decide]
      exact ⟨fun g => ⟨all_cons.mpr ⟨⟨h1, h2, h3, by omega⟩, g.1⟩, g.2⟩, fun g => ⟨(all_cons.mp g.1).2, g.2⟩⟩
    refine Wp.ite (fun h => M (by omega)) (fun h => ?_)
    exact Wp.ite (fun h2 => M (by omega)) (fun h2 => F fun g => by have := g.1; omega)
theorem recs_impl2 (gi ta : List DRecord) (hg : gi.length ≤ 1000) (ht : ta.length ≤ 1000) : Wp (fun k => impl_ValidWorld_l16 k (([gi, ta] : List (List DRecord)).length : Int) 0 [gi, ta]) (· = decide (VRecs gi ∧ VRecs ta)) := by
  have e0 : idx [gi, ta] 0 = some gi := rfl
  have e1 : idx [gi, ta] 1 = some ta := rfl
  have w1 : IntKind.wrap .i64 (0 + 1) = 1 := w64' (by omega) (by omega)
  have w2 : IntKind.wrap .i64 (1 + 1) = 2 := w64' (by omega) (by omega)
  have d0 : (0 : Int) < 2 := by omega
  have d1 : (1 : Int) < 2 := by omega
  have d2 : ¬ (2 : Int) < 2 := by omega
  have l2 : (([gi, ta] : List (List DRecord)).length : Int) = 2 := rfl
  rw [l2]
  have g0 : [gi, ta][Int.toNat 0]? = some gi := rfl
  have g1 : [gi, ta][Int.toNat 1]? = some ta := rfl
  refine Wp.step ?_
  simp only [impl_ValidWorld_l16, e0, g0, cbdec, if_pos d0, Option.bind_some]
  refine recs_impl 2 0 [gi, ta] (VRecs ta) ?_ gi [] (by simpa using hg)
  rw [w1]
  refine Wp.step ?_
  simp only [impl_ValidWorld_l16, e1, g1, cbdec, if_pos d1, Option.bind_some]
  refine (recs_impl 2 1 [gi, ta] True ?_ ta [] (by simpa using ht)).mono fun v hv => ?_
  · rw [w2]
    refine Wp.step ?_
    simp only [impl_ValidWorld_l16, cbdec, if_neg d2]
    exact Wp.ret rfl
  · rw [hv, decide_eq_decide]; exact ⟨fun g => g.1, fun g => ⟨g, trivial⟩⟩
theorem par_impl (kk : ByteArray) (wd : Int) (es : List DEnd) (ff : List DParcel) (fo : ByteArray) (gi ta : List DRecord) (hg : gi.length ≤ 1000) (ht : ta.length ≤ 1000) : ∀ (t pre : List DParcel), (pre ++ t).length ≤ 1000 →
    Wp (fun k => impl_ValidWorld_l10 k (pre ++ t) ((pre ++ t).length : Int) (pre.length : Int) kk wd es ff fo gi ta) (· = decide (VPars t ∧ VRecs gi ∧ VRecs ta))
  | [], pre, hl => by
    refine Wp.step ?_
    simp only [impl_ValidWorld_l10, List.append_nil]
    have hn : ¬ (pre.length : Int) < (pre.length : Int) := by omega
    simp only [cbdec, if_neg hn]
    refine (recs_impl2 gi ta hg ht).mono fun v hv => ?_
    rw [hv, decide_eq_decide]
    exact ⟨fun g => ⟨fun x hx => by simp at hx, g⟩, fun g => g.2⟩
  | x :: t, pre, hl => by
    refine Wp.step ?_
    have hl' := hl
    simp only [List.length_append, List.length_cons] at hl
    simp only [impl_ValidWorld_l10]
    simp only [cbdec, lt_mid, if_true, idx_mid, Option.bind_some, cbnot, cbne]
    simp (disch := omega) only [w64']
    have F : ¬ VPar x → Wp (fun _ => some false) (· = decide (VPars (x :: t) ∧ VRecs gi ∧ VRecs ta)) := fun h => Wp.ret (decide_eq_false fun g => h (g.1 x (List.mem_cons_self ..))).symm
    have ih := par_impl kk wd es ff fo gi ta hg ht t (pre ++ [x]) (by simpa using hl')
    rw [← mid_succ, ← mid_len] at ih
    have M : (1 ≤ x.To ∧ x.To ≤ 2) → Wp (fun k => if (x.Sent.size : Int) > 100 then some false else if (x.Bytes.size : Int) > 100 then some false else impl_ValidWorld_l10 k (pre ++ x :: t) ((pre ++ x :: t).length : Int) ((pre.length : Int) + 1) kk wd es ff fo gi ta) (· = decide (VPars (x :: t) ∧ VRecs gi ∧ VRecs ta)) := fun h1 => by
      refine Wp.ite (fun h2 => F fun g => by have := g.2.1; omega) (fun h2 => ?_)
      refine Wp.ite (fun h3 => F fun g => by have := g.2.2; omega) (fun h3 => ?_)
      refine ih.mono fun v hv => ?_
      rw [hv, decide_eq_decide]
      exact ⟨fun g => ⟨all_cons.mpr ⟨⟨h1, by omega, by omega⟩, g.1⟩, g.2⟩, fun g => ⟨(all_cons.mp g.1).2, g.2⟩⟩
    refine Wp.ite (fun h => M (by omega)) (fun h => ?_)
    exact Wp.ite (fun h2 => M (by omega)) (fun h2 => F fun g => by have := g.1; omega)
theorem implValidWorld_ok (w : DWorld) (hb : w.Given.length ≤ 1048576 ∧ w.Taken.length ≤ 1048576) : Wp (fun k => impl_ValidWorld k w) (· = decide (VWorld w)) := by
  unfold impl_ValidWorld
  have F : ¬ VWorld w → Wp (fun _ => some false) (· = decide (VWorld w)) := fun h => Wp.ret (decide_eq_false h).symm
  simp only [cbdec, cbnot, cbne]
  refine Wp.ite (fun h1 => F fun g => by have := g.1; omega) (fun h1 => ?_)
  refine Wp.ite (fun h1' => F fun g => by have := g.1; omega) (fun h1' => ?_)
  refine Wp.ite (fun h2 => F fun g => by have := g.2.1; omega) (fun h2 => ?_)
  refine Wp.ite (fun h3 => ?_) (fun h3 => F fun g => by have := vends_len g.2.2.2.2.1; omega)
  refine Wp.ite (fun h4 => F fun g => by have := g.2.2.1; omega) (fun h4 => ?_)
  simp (disch := omega) only [w64']
  refine Wp.ite (fun h5 => F fun g => by have := g.2.2.2.1; omega) (fun h5 => ?_)
  obtain ⟨ky, wd, es, fl, fo, gi, ta⟩ := w
  match es, h3 with
  | [a, b], _ =>
    refine Wp.step ?_
    have e0 : idx [a, b] 0 = some a := rfl
    have e1 : idx [a, b] 1 = some b := rfl
    have w1 : IntKind.wrap .i64 (0 + 1) = 1 := w64' (by omega) (by omega)
    have w2 : IntKind.wrap .i64 (1 + 1) = 2 := w64' (by omega) (by omega)
    have d0 : (0 : Int) < 2 := by omega
    have d1 : (1 : Int) < 2 := by omega
    have d2 : ¬ (2 : Int) < 2 := by omega
    have l2 : (([a, b] : List DEnd).length : Int) = 2 := rfl
    simp only [impl_ValidWorld_l4, e0, w1, cbdec, Option.bind_some, l2, if_pos d0, cbne]
    refine Wp.bind (implValidEnd_ok _) (fun _ q => ?_); subst q
    simp only [cbdec, cbnot]
    refine Wp.ite (fun h6 => ?_) (fun h6 => F fun g => h6 g.2.2.2.2.1.1.1)
    refine Wp.ite (fun h7 => ?_) (fun h7 => F fun g => h7 g.2.2.2.2.1.1.2)
    refine Wp.step ?_
    simp only [impl_ValidWorld_l4, e1, w2, cbdec, Option.bind_some, if_pos d1, cbne]
    refine Wp.bind (implValidEnd_ok _) (fun _ q => ?_); subst q
    simp only [cbdec, cbnot]
    refine Wp.ite (fun h8 => ?_) (fun h8 => F fun g => h8 g.2.2.2.2.1.2.1)
    refine Wp.ite (fun h9 => ?_) (fun h9 => F fun g => h9 g.2.2.2.2.1.2.2)
    refine Wp.step ?_
    simp only [impl_ValidWorld_l4, cbdec, if_neg d2]
    simp only at h1 h1' h2 h4 h5 hb
    refine Wp.mono (par_impl ky wd [a, b] fl fo gi ta (by omega) (by omega) fl [] (by show fl.length ≤ 1000; omega)) fun v hv => ?_
    rw [hv, decide_eq_decide]
    exact ⟨fun g => ⟨⟨by simp only; omega, by simp only; omega⟩, by simp only; omega, by simp only; omega, by simp only; omega, ⟨⟨h6, h7⟩, ⟨h8, h9⟩⟩, g⟩, fun g => g.2.2.2.2.2⟩
/-! ### Idle -/
def idleP (e f : DEnd) : Prop := e.Up = true ∧ e.Peer = f.Life ∧ e.Send.Items.length = 0 ∧ e.Take.Held.length = 0 ∧ e.Take.Open = noB ∧ e.Take.Ready.length = 0
instance (e f : DEnd) : Decidable (idleP e f) := by unfold idleP; infer_instance
def idleL : List DEnd → Prop
  | [a, b] => idleP a b ∧ idleP b a
  | _ => False
instance : (l : List DEnd) → Decidable (idleL l)
  | [a, b] => by unfold idleL; infer_instance
  | [] => .isFalse id
  | [_] => .isFalse id
  | _ :: _ :: _ :: _ => .isFalse id
def Idles (w : DWorld) : Prop := VWorld w ∧ idleL w.Ends
instance (w : DWorld) : Decidable (Idles w) := by unfold Idles; infer_instance
end Km.X
namespace Km.X
open Go Km
set_option linter.unusedVariables false
set_option linter.unusedSimpArgs false
/-! ### TakePart -/
def insT (q : Int) (p : DPart) : List DHeld → Option (List DHeld)
  | [] => some [⟨q, p⟩]
  | x :: t => if x.Seq = q then none else if q < x.Seq then some (⟨q, p⟩ :: x :: t) else (insT q p t).map (x :: ·)
def partM (t : DTake) (q : Int) (p : DPart) : DTake :=
  if VTake t then
    if (t.Next ≤ q ∧ q ≤ t.Next + 7 ∧ q ≤ 999999) ∧ p.Text.size ≤ 20 then (match insT q p t.Held with | none => t | some h => flowT h t.Next t.Open t.Ready)
    else t
  else noTake
def SmH (h : List DHeld) : Prop := ∀ x ∈ h, x.Seq ≤ 999999 ∧ x.Part.Text.size ≤ 1000
theorem tp_spec19 (c : Int) (e : ByteArray) (h h2 : List DHeld) (r2 : List ByteArray) (hh : List DHeld) (n : Int) (o : ByteArray) (r : List ByteArray) (hl : h.length ≤ 100) (hs : SmH h) (hn : 0 ≤ n) (ho : o.size ≤ 200) (hr : r.length ≤ 4) :
    Wp (fun k => spec_TakePart_l19 k c e n o h h2 r2 hh r) (· = flowT h n o r) := by
  refine Wp.step ?_
  simp only [spec_TakePart_l19]
  refine Wp.bind (specIn_ok _ hl hs hn ho hr) (fun _ q => ?_); subst q
  exact Wp.ret rfl
theorem tp_put (q : Int) (p : DPart) (c n1 : Int) (e o1 : ByteArray) (r1 : List ByteArray) (h2 : List DHeld) (r2 : List ByteArray) (hh : List DHeld) (n : Int) (o : ByteArray) (r : List ByteArray) (hn : 0 ≤ n) (ho : o.size ≤ 200) (hr : r.length ≤ 4) : ∀ (t pre acc : List DHeld), (pre ++ t).length ≤ 100 → acc.length + t.length ≤ 100 → (∀ x ∈ t, q < x.Seq) → SmH acc → SmH t →
    Wp (fun k => spec_TakePart_l9 k q true (pre.length : Int) n1 (pre ++ t) o1 r1 p.Text p.Last c e n o acc h2 r2 hh r) (· = flowT (acc ++ t) n o r)
  | [], pre, acc, hl, ha, hq, hs, hs' => by
    refine Wp.step ?_
    simp only [spec_TakePart_l9, List.append_nil]
    have hn' : ¬ (pre.length : Int) < (pre.length : Int) := by omega
    simp only [cbdec, if_neg hn', Bool.not_true, cond_false]
    exact tp_spec19 _ _ _ _ _ _ _ _ _ (by simpa using ha) hs hn ho hr
  | x :: t, pre, acc, hl, ha, hq, hs, hs' => by
    refine Wp.step ?_
    have hl' := hl
    simp only [List.length_append, List.length_cons] at hl ha
    have hx := hq x (List.mem_cons_self ..)
    have hne : ¬ x.Seq = q := by omega
    simp only [spec_TakePart_l9]
    simp only [cbdec, lt_mid, if_true, idx_mid, Option.bind_some, cbeq, if_neg hne, Bool.not_true, cond_false]
    refine Wp.step ?_
    simp only [spec_TakePart_l16, idx_mid, Option.bind_some]
    refine Wp.opt (app_ok (by simp; omega)) ?_
    simp (disch := omega) only [w64']
    have ih := tp_put q p c n1 e o1 r1 h2 r2 hh n o r hn ho hr t (pre ++ [x]) (acc ++ [x]) (by simpa using hl') (by simp; omega) (fun y hy => hq y (List.mem_cons_of_mem _ hy)) (fun y hy => by
      rcases List.mem_append.mp hy with hy | hy
      · exact hs y hy
      · simp only [List.mem_singleton] at hy; subst hy; exact hs' y (List.mem_cons_self ..)) (fun y hy => hs' y (List.mem_cons_of_mem _ hy))
    rw [← mid_succ, ← mid_len] at ih
    simp only [List.append_assoc, List.cons_append, List.nil_append] at ih
    exact ih
theorem smH_snoc {a : List DHeld} {x : DHeld} (h : SmH a) (hx : x.Seq ≤ 999999 ∧ x.Part.Text.size ≤ 1000) : SmH (a ++ [x]) := fun y hy => by
  rcases List.mem_append.mp hy with hy | hy
  · exact h y hy
  · simp only [List.mem_singleton] at hy; subst hy; exact hx
theorem tp_spec (q : Int) (p : DPart) (hq : q ≤ 999999) (hp : p.Text.size ≤ 20) (c n1 : Int) (e o1 : ByteArray) (r1 : List ByteArray) (h2 : List DHeld) (r2 : List ByteArray) (hh : List DHeld) (n : Int) (o : ByteArray) (r : List ByteArray) (hn : 0 ≤ n) (ho : o.size ≤ 200) (hr : r.length ≤ 4) : ∀ (t pre : List DHeld) (b : Int), (pre ++ t).length ≤ 50 → WHs n1 b t → SmH pre → SmH t →
    Wp (fun k => spec_TakePart_l9 k q false (pre.length : Int) n1 (pre ++ t) o1 r1 p.Text p.Last c e n o pre h2 r2 hh r) (· = match insT q p t with | none => ⟨n, hh, o, r⟩ | some h => flowT (pre ++ h) n o r)
  | [], pre, b, hl, hw, hs, hs' => by
    refine Wp.step ?_
    simp only [spec_TakePart_l9, List.append_nil, insT]
    rw [List.append_nil] at hl
    have hn' : ¬ (pre.length : Int) < (pre.length : Int) := by omega
    simp only [cbdec, if_neg hn', Bool.not_false, cond_true]
    refine Wp.opt (app_ok (by simp; omega)) ?_
    exact tp_spec19 _ _ _ _ _ _ _ _ _ (by simp; omega) (smH_snoc hs ⟨hq, by simp only; omega⟩) hn ho hr
  | x :: t, pre, b, hl, ⟨hw1, hw2⟩, hs, hs' => by
    refine Wp.step ?_
    have hl' := hl
    simp only [List.length_append, List.length_cons] at hl
    have hx := hs' x (List.mem_cons_self ..)
    have hs2 : SmH t := fun y hy => hs' y (List.mem_cons_of_mem _ hy)
    simp only [spec_TakePart_l9, insT]
    simp only [cbdec, lt_mid, if_true, idx_mid, Option.bind_some, cbeq, Bool.not_false, cond_true]
    refine Wp.ite (fun h1 => Wp.ret (by rw [if_pos h1])) (fun h1 => ?_)
    rw [if_neg h1]
    refine Wp.ite (fun h3 => ?_) (fun h3 => ?_)
    · rw [if_pos (by omega)]
      refine Wp.opt (app_ok (by simp; omega)) ?_
      refine Wp.step ?_
      simp only [spec_TakePart_l16, idx_mid, Option.bind_some]
      refine Wp.opt (app_ok (by simp; omega)) ?_
      simp (disch := omega) only [w64']
      have := tp_put q p c n1 e o1 r1 h2 r2 hh n o r hn ho hr t (pre ++ [x]) (pre ++ [⟨q, p⟩] ++ [x]) (by simp; omega) (by simp; omega) (fun y hy => by have := whs_lt hw2 y hy; omega) (smH_snoc (smH_snoc hs ⟨hq, by simp only; omega⟩) hx) hs2
      rw [← mid_succ, ← mid_len] at this
      simp only [List.append_assoc, List.cons_append, List.nil_append] at this ⊢
      exact this
    · rw [if_neg (by omega)]
      refine Wp.step ?_
      simp only [spec_TakePart_l16, idx_mid, Option.bind_some]
      refine Wp.opt (app_ok (by simp; omega)) ?_
      simp (disch := omega) only [w64']
      have ih := tp_spec q p hq hp c n1 e o1 r1 h2 r2 hh n o r hn ho hr t (pre ++ [x]) x.Seq (by simpa using hl') hw2 (smH_snoc hs hx) hs2
      rw [← mid_succ, ← mid_len] at ih
      refine ih.mono fun v hv => ?_
      rw [hv]
      cases insT q p t <;> simp
theorem specPart_ok (t : DTake) (q : Int) (p : DPart) : Wp (fun k => spec_TakePart k t q p) (· = partM t q p) := by
  unfold spec_TakePart partM
  refine Wp.bind (specValidTake_ok t) (fun _ e => ?_); subst e
  simp only [cbnot, cbdec]
  refine Wp.ite (fun h => ?_) (fun h => Wp.ret (by rw [if_neg h]))
  rw [if_pos h]
  have hsm := h.small
  obtain ⟨h1, h2, h3, h4, h5, h6, h7⟩ := h
  refine Wp.bind (l5Copy_ok t (by omega) (by omega)) (fun r2 e => ?_); rw [e]
  obtain ⟨n, hd, o, r⟩ := t
  refine Wp.bind (near_ok n q hd o r h1) (fun _ e => ?_); subst e
  simp only [cbdec]
  refine Wp.ite (fun g => ?_) (fun g => Wp.ret (by rw [if_neg (fun w => g w.1)]))
  refine Wp.ite (fun g2 => Wp.ret (by rw [if_neg (fun w => by have := w.2; omega)])) (fun g2 => ?_)
  rw [if_pos ⟨g, by omega⟩]
  exact tp_spec q p g.2.2 (by omega) _ n _ o r _ _ hd n o r h1.1 h3 h4 hd [] (n - 1) (by simp only at h2; simp; omega) h6 (fun y hy => by simp at hy) hsm
theorem cpy_ins (pre s : List DHeld) (z : DHeld) : ∃ w, cpy (pre ++ s ++ [z]) (pre.length + 1) (pre.length + s.length + 1) (dcut (pre ++ s ++ [z]) pre.length (pre.length + s.length + 1)) = pre ++ w :: s := by
  have e0 : dcut (pre ++ s ++ [z]) pre.length (pre.length + s.length + 1) = s ++ [z] := by
    simp only [dcut]
    rw [List.take_of_length_le (by simp; omega), List.append_assoc, List.drop_left']
    rfl
  rw [e0]
  unfold cpy
  rw [show pre.length + s.length + 1 - (pre.length + 1) = s.length by omega]
  have e1 : (s ++ [z]).take s.length = s := by simp
  have e2 : (pre ++ s ++ [z]).drop (pre.length + 1 + min s.length (s ++ [z]).length) = [] := by
    apply List.drop_eq_nil_of_le; simp; omega
  rw [e1, e2, List.append_nil]
  cases s with
  | nil => exact ⟨z, by rw [List.append_nil, List.take_of_length_le (by simp)]; simp⟩
  | cons w s => exact ⟨w, by simp [List.take_append, List.take_of_length_le]⟩
theorem tp_ins (q : Int) (p : DPart) (n : Int) (o : ByteArray) (r : List ByteArray) (hn : 0 ≤ n) (ho : o.size ≤ 200) (hr : r.length ≤ 4) (pre s : List DHeld) (hl : (pre ++ s).length ≤ 50) (hs : SmH (pre ++ ⟨q, p⟩ :: s)) :
    Wp (fun k => (app 32 (pre ++ s) ([(⟨0, (⟨(⟨#[]⟩ : ByteArray), false⟩ : DPart)⟩ : DHeld)] : List DHeld)).bind fun l6 =>
            (wnd l6.length (IntKind.wrap .i64 ((pre.length : Int) + 1)) (l6.length : Int)).bind fun p7 =>
            (wnd l6.length (pre.length : Int) (l6.length : Int)).bind fun p8 =>
            (idx (cpy l6 p7.1 p7.2 (dcut l6 p8.1 p8.2)) (pre.length : Int)).bind fun _ =>
            ((cpy l6 p7.1 p7.2 (dcut l6 p8.1 p8.2))[(Int.toNat (pre.length : Int))]?).bind fun y9 =>
            (impl_flow k (⟨n, ((cpy l6 p7.1 p7.2 (dcut l6 p8.1 p8.2)).set (Int.toNat (pre.length : Int)) (⟨q, p⟩ : DHeld)), o, r⟩ : DTake)).bind fun r10 =>
            some r10) (· = flowT (pre ++ ⟨q, p⟩ :: s) n o r) := by
  simp only [List.length_append] at hl
  refine Wp.opt (app_ok (by simp; omega)) ?_
  rw [w64' (by omega) (by omega)]
  have hN : (pre ++ s ++ [(⟨0, (⟨(⟨#[]⟩ : ByteArray), false⟩ : DPart)⟩ : DHeld)]).length = pre.length + s.length + 1 := by simp; omega
  rw [hN]
  refine Wp.opt (wnd_ok (by omega)) ?_
  refine Wp.opt (wnd_ok (by omega)) ?_
  dsimp only
  simp only [show ((pre.length : Int) + 1).toNat = pre.length + 1 by omega, Int.toNat_natCast]
  obtain ⟨w, e⟩ := cpy_ins pre s (⟨0, (⟨(⟨#[]⟩ : ByteArray), false⟩ : DPart)⟩ : DHeld)
  rw [e]
  simp only [idx_mid, Option.bind_some]
  have e2 : (pre ++ w :: s)[pre.length]? = some w := by simp
  have e3 : (pre ++ w :: s).set pre.length (⟨q, p⟩ : DHeld) = pre ++ ⟨q, p⟩ :: s := by simp
  simp only [e2, e3, Option.bind_some]
  refine Wp.bind (implFlow_ok ⟨n, pre ++ ⟨q, p⟩ :: s, o, r⟩ (by simp; omega) hs hn ho hr) (fun _ q => ?_); subst q
  exact Wp.ret rfl
theorem tp_impl (q : Int) (p : DPart) (hq : q ≤ 999999) (hp : p.Text.size ≤ 20) (c : Int) (e : ByteArray) (h2 : List DHeld) (r2 : List ByteArray) (n : Int) (o : ByteArray) (r : List ByteArray) (n1 : Int) (hn : 0 ≤ n) (ho : o.size ≤ 200) (hr : r.length ≤ 4) : ∀ (t pre : List DHeld) (b : Int), (pre ++ t).length ≤ 50 → WHs n1 b t → SmH pre → SmH t →
    Wp (fun k => impl_TakePart_l7 k q (pre.length : Int) p.Text p.Last c e n o h2 r2 (pre ++ t) r) (· = match insT q p t with | none => ⟨n, pre ++ t, o, r⟩ | some h => flowT (pre ++ h) n o r)
  | [], pre, b, hl, hw, hs, hs' => by
    refine Wp.step ?_
    simp only [impl_TakePart_l7, insT]
    have hn' : ¬ (pre.length : Int) < ((pre ++ []).length : Int) := by simp
    simp only [cbdec, if_neg hn']
    exact tp_ins q p n o r hn ho hr pre [] hl (by
      intro y hy
      rcases List.mem_append.mp hy with hy | hy
      · exact hs y hy
      · simp only [List.mem_singleton] at hy; subst hy; exact ⟨hq, by simp only; omega⟩)
  | x :: t, pre, b, hl, ⟨hw1, hw2⟩, hs, hs' => by
    refine Wp.step ?_
    have hl' := hl
    simp only [List.length_append, List.length_cons] at hl
    have hx := hs' x (List.mem_cons_self ..)
    have hs2 : SmH t := fun y hy => hs' y (List.mem_cons_of_mem _ hy)
    simp only [impl_TakePart_l7, insT]
    simp only [cbdec, lt_mid, if_true, idx_mid, get_mid, Option.bind_some, cbeq]
    refine Wp.ite (fun h1 => ?_) (fun h1 => ?_)
    · rw [if_neg (by omega), if_neg (by omega)]
      simp (disch := omega) only [w64']
      have ih := tp_impl q p hq hp c e h2 r2 n o r n1 hn ho hr t (pre ++ [x]) x.Seq (by simpa using hl') hw2 (smH_snoc hs hx) hs2
      rw [← mid_succ, ← mid_len] at ih
      refine ih.mono fun v hv => ?_
      rw [hv]
      cases insT q p t <;> simp
    · refine Wp.ite (fun h2 => Wp.ret (by rw [if_pos h2])) (fun h2 => ?_)
      rw [if_neg h2, if_pos (by omega)]
      exact tp_ins q p n o r hn ho hr pre (x :: t) hl' (by
        intro y hy
        rcases List.mem_append.mp hy with hy | hy
        · exact hs y hy
        · rcases List.mem_cons.mp hy with rfl | hy
          · exact ⟨hq, by simp only; omega⟩
          · exact hs' y hy)
theorem implPart_ok (t : DTake) (q : Int) (p : DPart) : Wp (fun k => impl_TakePart k t q p) (· = partM t q p) := by
  unfold impl_TakePart partM
  refine Wp.bind (implValidTake_ok t) (fun _ e => ?_); subst e
  simp only [cbnot, cbdec]
  refine Wp.ite (fun h => ?_) (fun h => Wp.ret (by rw [if_neg h]))
  rw [if_pos h]
  have hsm := h.small
  obtain ⟨h1, h2, h3, h4, h5, h6, h7⟩ := h
  refine Wp.bind (copyTake_ok t (by omega) (by omega)) (fun r2 e => ?_); rw [e]
  obtain ⟨n, hd, o, r⟩ := t
  simp only at h1 h2 h3 h4
  rw [w64' (n := n + 8) (by omega) (by omega), w64' (n := n + 8 - 1) (by omega) (by omega)]
  refine Wp.bind (in_ok _ _ _) (fun _ e => ?_); subst e
  simp only [inB, cbdec]
  refine Wp.ite (fun g => ?_) (fun g => Wp.ret (by rw [if_neg (fun w => by have := w.1; omega)]))
  refine Wp.ite (fun g1 => Wp.ret (by rw [if_neg (fun w => by have := w.1; omega)])) (fun g1 => ?_)
  refine Wp.ite (fun g2 => Wp.ret (by rw [if_neg (fun w => by have := w.2; omega)])) (fun g2 => ?_)
  rw [if_pos ⟨by omega, by omega⟩]
  exact tp_impl q p (by omega) (by omega) _ _ _ _ n o r n h1.1 h3 h4 hd [] (n - 1) (by simp; omega) h6 (fun y hy => by simp at hy) hsm
theorem insT_W {n : Int} (q : Int) (p : DPart) (hq : q ≤ n + 7) (hq' : q ≤ 999999) (hp : p.Text.size ≤ 20) : ∀ {t h : List DHeld} {b : Int}, b < q → WHs n b t → insT q p t = some h → WHs n b h
  | [], h, b, hb, hw, e => by
    simp only [insT, Option.some.injEq] at e; subst e
    exact ⟨⟨hb, hq, hq', hp⟩, trivial⟩
  | x :: t, h, b, hb, ⟨hw1, hw2⟩, e => by
    simp only [insT] at e
    split at e
    · cases e
    · split at e
      · simp only [Option.some.injEq] at e; subst e
        exact ⟨⟨hb, hq, hq', hp⟩, ⟨by omega, hw1.2⟩, hw2⟩
      · cases ht : insT q p t with
        | none => rw [ht] at e; cases e
        | some h' =>
          rw [ht] at e
          simp only [Option.map_some, Option.some.injEq] at e; subst e
          exact ⟨hw1, insT_W q p hq hq' hp (by omega) hw2 ht⟩
/-- at most eight of them fit -/
theorem whs_len {n : Int} : ∀ {l : List DHeld} {b : Int}, WHs n b l → b ≤ n + 7 → (l.length : Int) ≤ n + 7 - b
  | [], b, _, h => by simp only [List.length_nil]; omega
  | x :: t, b, ⟨h1, h2⟩, h => by
    have := whs_len h2 h1.2.1
    simp only [List.length_cons]; omega
theorem partM_V (t : DTake) (q : Int) (p : DPart) : VTake (partM t q p) := by
  unfold partM
  split
  · rename_i h
    split
    · rename_i g
      cases ht : insT q p t.Held with
      | none => exact h
      | some hh =>
        obtain ⟨h1, h2, h3, h4, h5, h6, h7⟩ := h
        have hw := insT_W q p g.1.2.1 g.1.2.2 g.2 (by omega) h6 ht
        have hlen := whs_len hw (by omega)
        exact flowT_V t.Next hh t.Next t.Open t.Ready (Int.le_refl _) hw (by omega) h1.1 h1.2 h3 h4 h5
    · exact h
  · exact noTake_V
end Km.X
namespace Km.X
open Go Km
set_option linter.unusedVariables false
set_option linter.unusedSimpArgs false
/-- a packet that may be written -/
def Fits (p : DPacket) : Prop :=
  (1 ≤ p.From ∧ p.From ≤ 2) ∧ (1 ≤ p.Mine ∧ p.Mine ≤ 1000) ∧ (0 ≤ p.Yours ∧ p.Yours ≤ 1000) ∧
  ((p.Kind = 1 ∧ (0 ≤ p.Next ∧ p.Next ≤ 1000000) ∧ (0 ≤ p.Mask ∧ p.Mask ≤ 255) ∧ p.Seq = 0 ∧ p.Last = false ∧ p.Part = noB) ∨
   (p.Kind = 2 ∧ p.Next = 0 ∧ p.Mask = 0 ∧ (0 ≤ p.Seq ∧ p.Seq ≤ 999999) ∧ p.Part.size ≤ 20))
instance (p : DPacket) : Decidable (Fits p) := by unfold Fits; infer_instance

theorem validPacket_ok (p : DPacket) : Wp (fun k => impl_validPacket k p) (· = decide (Fits p)) := by
  unfold impl_validPacket
  have key : (p.From = 1 ∨ p.From = 2) → Wp (fun k =>
    (impl_in k p.Mine 1 1000).bind fun r6 =>
    bif (!r6) then
      some false
    else
      (impl_in k p.Yours 0 1000).bind fun r7 =>
      bif (!r7) then
        some false
      else
        bif (p.Kind == 1) then
          (impl_in k p.Next 0 1000000).bind fun r8 =>
          bif r8 then
            (impl_in k p.Mask 0 255).bind fun r9 =>
            bif r9 then
              bif (p.Seq == 0) then
                bif (!p.Last) then
                  some (p.Part.toList == (⟨#[]⟩ : ByteArray).toList)
                else
                  some false
              else
                some false
            else
              some false
          else
            some false
        else
          bif (p.Kind == 2) then
            bif (p.Next == 0) then
              bif (p.Mask == 0) then
                (impl_in k p.Seq 0 999999).bind fun r10 =>
                bif r10 then
                  some (decide ((p.Part.size : Int) ≤ 20))
                else
                  some false
              else
                some false
            else
              some false
          else
            some false) (· = decide (Fits p)) := by
    intro hf
    have F : ∀ {Q : Prop}, (Fits p → False) → false = decide (Fits p) := fun h => (decide_eq_false h).symm
    refine Wp.bind (in_ok _ _ _) (fun _ e => ?_); subst e
    simp only [inB, cbnot, cbdec, cbeq, seqB]
    refine Wp.ite (fun h1 => ?_) (fun h1 => Wp.ret (F (Q := True) fun h => h1 h.2.1))
    refine Wp.bind (in_ok _ _ _) (fun _ e => ?_); subst e
    simp only [inB, cbnot, cbdec, cbeq, seqB]
    refine Wp.ite (fun h2 => ?_) (fun h2 => Wp.ret (F (Q := True) fun h => h2 h.2.2.1))
    refine Wp.ite (fun h3 => ?_) (fun h3 => ?_)
    · have W : Fits p → (0 ≤ p.Next ∧ p.Next ≤ 1000000) ∧ (0 ≤ p.Mask ∧ p.Mask ≤ 255) ∧ p.Seq = 0 ∧ p.Last = false ∧ p.Part = noB := fun h => by
        rcases h.2.2.2 with h | h
        · exact h.2
        · omega
      refine Wp.bind (in_ok _ _ _) (fun _ e => ?_); subst e
      simp only [inB, cbnot, cbdec, cbeq, seqB]
      refine Wp.ite (fun h4 => ?_) (fun h4 => Wp.ret (F (Q := True) fun h => h4 (W h).1))
      refine Wp.bind (in_ok _ _ _) (fun _ e => ?_); subst e
      simp only [inB, cbnot, cbdec, cbeq, seqB]
      refine Wp.ite (fun h5 => ?_) (fun h5 => Wp.ret (F (Q := True) fun h => h5 (W h).2.1))
      refine Wp.ite (fun h6 => ?_) (fun h6 => Wp.ret (F (Q := True) fun h => h6 (W h).2.2.1))
      refine Wp.bif (fun h7 => Wp.ret (F (Q := True) fun h => by rw [(W h).2.2.2.1] at h7; cases h7)) (fun h7 => ?_)
      refine Wp.ret ?_
      rw [decide_eq_decide]
      exact ⟨fun h => ⟨by omega, h1, h2, .inl ⟨h3, h4, h5, h6, h7, h⟩⟩, fun h => (W h).2.2.2.2⟩
    · refine Wp.ite (fun h4 => ?_) (fun h4 => Wp.ret (F (Q := True) fun h => by rcases h.2.2.2 with h | h <;> omega))
      have W : Fits p → p.Next = 0 ∧ p.Mask = 0 ∧ (0 ≤ p.Seq ∧ p.Seq ≤ 999999) ∧ p.Part.size ≤ 20 := fun h => by
        rcases h.2.2.2 with h | h
        · omega
        · exact h.2
      refine Wp.ite (fun h5 => ?_) (fun h5 => Wp.ret (F (Q := True) fun h => h5 (W h).1))
      refine Wp.ite (fun h6 => ?_) (fun h6 => Wp.ret (F (Q := True) fun h => h6 (W h).2.1))
      refine Wp.bind (in_ok _ _ _) (fun _ e => ?_); subst e
      simp only [inB, cbnot, cbdec, cbeq, seqB]
      refine Wp.ite (fun h7 => ?_) (fun h7 => Wp.ret (F (Q := True) fun h => h7 (W h).2.2.1))
      refine Wp.ret ?_
      rw [decide_eq_decide]
      exact ⟨fun h => ⟨by omega, h1, h2, .inr ⟨h4, h5, h6, h7, by omega⟩⟩, fun h => by have := (W h).2.2.2; omega⟩
  simp only [cbne]
  refine Wp.ite (fun h => key (.inl h)) (fun h => ?_)
  refine Wp.ite (fun h => key (.inr h)) (fun h2 => Wp.ret (decide_eq_false ?_).symm)
  intro h'
  have := h'.1
  omega
theorem l2Ok_same (p : DPacket) (h : 1 ≤ p.From ∧ p.From ≤ 2) (k : Nat) : spec_l2Ok k p = impl_validPacket k p := by
  have e : spec_l1In k p.From 1 2 = some true := by
    unfold spec_l1In
    simp only [cbdec]
    rw [if_pos (by omega)]
    congr 1
    exact decide_eq_true h.2
  unfold spec_l2Ok impl_validPacket
  rw [e]
  have hi : ∀ a b c, spec_l1In k a b c = impl_in k a b c := fun _ _ _ => rfl
  simp only [hi, Option.bind_some, Bool.not_true, cond_false, cbne]
  by_cases h1 : p.From = 1
  · rw [if_pos h1]
  · rw [if_neg h1, if_pos (by omega)]
theorem l2Ok_ok (p : DPacket) : Wp (fun k => spec_l2Ok k p) (· = decide (Fits p)) := by
  by_cases h : 1 ≤ p.From ∧ p.From ≤ 2
  · have : (fun k => spec_l2Ok k p) = fun k => impl_validPacket k p := funext fun k => l2Ok_same p h k
    rw [this]; exact validPacket_ok p
  · unfold spec_l2Ok
    refine Wp.bind (l1In_ok _ _ _) (fun _ e => ?_); subst e
    rw [inB, decide_eq_false h]
    exact Wp.ret (decide_eq_false fun h' => h h'.1).symm

/-! ### numbers in bytes -/
def N (w : Nat) (x : Int) : ByteArray := bstr (bytesL w x.toNat)
theorem N_size (w : Nat) (x : Int) : (N w x).size = w := by simp [N, bstr_size, bytesL_length]
theorem number_loop : ∀ (d w i n : Nat) (tail : List Int), i + d = w → w ≤ 8 → n < 2 ^ 62 → tail.length + d ≤ 100 →
    Wp (fun k => spec_l1Number_l3 k (n : Int) (w : Int) (bstr tail) (i : Int)) (· = bstr (bytesL d n ++ tail))
  | 0, w, i, n, tail, h, hw, hn, ht => by
    refine Wp.step ?_
    simp only [spec_l1Number_l3]
    simp (disch := omega) only [cbdec, if_neg]
    exact Wp.ret rfl
  | d + 1, w, i, n, tail, h, hw, hn, ht => by
    refine Wp.step ?_
    simp only [spec_l1Number_l3]
    simp (disch := omega) only [cbdec, if_pos, qrem_nat, qdiv_nat, Option.bind_some, wu8_mod, sadd_bstr, w64', castS]
    have ih := number_loop d w (i + 1) (n / 256) (((n % 256 : Nat) : Int) :: tail) (by omega) hw (by omega) (by simp; omega)
    simpa [bytesL] using ih
theorem number_ok {w : Nat} {x : Int} (hw : w ≤ 8) (hx : 0 ≤ x ∧ x ≤ 1000000) : Wp (fun k => spec_l1Number k x (w : Int)) (· = N w x) := by
  obtain ⟨n, rfl⟩ : ∃ n : Nat, x = n := ⟨x.toNat, by omega⟩
  have := number_loop w w 0 n [] (by omega) hw (by omega) (by simp; omega)
  rw [List.append_nil] at this
  exact this
theorem be_loop : ∀ (d n : Nat) (b : List Int), d ≤ b.length → b.length ≤ 8 → n < 2 ^ 62 → Wp (fun k => impl_be_l3 k (n : Int) ((d : Int) - 1) b) (· = bstr (bytesL d n ++ b.drop d))
  | 0, n, b, hd, hb, hn => by
    refine Wp.step ?_
    simp only [impl_be_l3]
    simp (disch := omega) only [cbdec, if_neg]
    exact Wp.ret (by simp [bytesL])
  | d + 1, n, b, hd, hb, hn => by
    refine Wp.step ?_
    simp only [impl_be_l3]
    rw [show ((d + 1 : Nat) : Int) - 1 = (d : Int) by omega]
    have hlt : d < b.length := by omega
    simp (disch := first | omega | decide) only [cbdec, if_pos, idxN, getN, Option.bind_some, shr8, w64', wu8]
    have ih := be_loop d (n / 256) (b.set d ((n % 256 : Nat) : Int)) (by simp; omega) (by simpa using hb) (by omega)
    rw [set_bytes hlt] at ih
    rw [Int.toNat_natCast]
    exact ih
theorem be_ok {w : Nat} {x : Int} (hw : w ≤ 8) (hx : 0 ≤ x ∧ x ≤ 1000000) : Wp (fun k => impl_be k x (w : Int)) (· = N w x) := by
  obtain ⟨n, rfl⟩ : ∃ n : Nat, x = n := ⟨x.toNat, by omega⟩
  unfold impl_be
  refine Wp.opt (x := w) (by rw [if_pos rfl]; exact room_ok (by omega)) ?_
  have := be_loop w n (List.replicate w 0) (by simp) (by simpa using hw) (by omega)
  rw [List.drop_eq_nil_of_le (by simp), List.append_nil] at this
  rw [w64' (by omega) (by omega)]
  exact this
theorem ba_assoc (x y z : ByteArray) : x ++ y ++ z = x ++ (y ++ z) := by
  apply ByteArray.ext; simp
def headP (p : DPacket) : ByteArray := N 1 p.Kind ++ N 1 p.From ++ N 2 p.Mine ++ N 2 p.Yours
def lastI (b : Bool) : Int := bif b then 1 else 0
def bodyP (p : DPacket) : ByteArray :=
  if p.Kind = 1 then headP p ++ N 4 p.Next ++ N 1 p.Mask else headP p ++ N 4 p.Seq ++ N 1 (lastI p.Last) ++ p.Part
theorem headP_size (p : DPacket) : (headP p).size = 6 := by simp [headP, N_size]
theorem bodyP_size (p : DPacket) (h : Fits p) : (bodyP p).size ≤ 31 := by
  have hs := headP_size p
  unfold bodyP
  rcases h.2.2.2 with ⟨hk1, _⟩ | ⟨hk2, _, _, _, g4⟩
  · rw [if_pos hk1]; simp [N_size, hs]
  · rw [if_neg (by omega)]; simp [N_size, hs]; omega
theorem body_ok (p : DPacket) (h : Fits p) : Wp (fun k => spec_l2Body k p) (· = bodyP p) := by
  obtain ⟨h1, h2, h3, h4⟩ := h
  have hK : 0 ≤ p.Kind ∧ p.Kind ≤ 1000000 := by rcases h4 with h | h <;> omega
  unfold spec_l2Body
  refine Wp.bind (number_ok (w := 1) (by omega) hK) (fun _ e => ?_); subst e
  refine Wp.bind (number_ok (w := 1) (by omega) (by omega)) (fun _ e => ?_); subst e
  refine Wp.opt (sadd_ok (by simp [N_size])) ?_
  refine Wp.bind (number_ok (w := 2) (by omega) (by omega)) (fun _ e => ?_); subst e
  refine Wp.opt (sadd_ok (by simp [N_size])) ?_
  refine Wp.bind (number_ok (w := 2) (by omega) (by omega)) (fun _ e => ?_); subst e
  refine Wp.opt (sadd_ok (by simp [N_size])) ?_
  have hd : N 1 p.Kind ++ N 1 p.From ++ N 2 p.Mine ++ N 2 p.Yours = headP p := rfl
  rw [hd]
  have hs := headP_size p
  simp only [cbeq]
  refine Wp.ite (fun hk => ?_) (fun hk => ?_)
  · rcases h4 with ⟨_, g1, g2, _⟩ | ⟨hk2, _⟩
    · refine Wp.bind (number_ok (w := 4) (by omega) (by omega)) (fun _ e => ?_); subst e
      refine Wp.opt (sadd_ok (by simp [N_size, hs])) ?_
      refine Wp.bind (number_ok (w := 1) (by omega) (by omega)) (fun _ e => ?_); subst e
      refine Wp.opt (sadd_ok (by simp [N_size, hs])) ?_
      exact Wp.ret (by rw [bodyP, if_pos hk])
    · omega
  · rcases h4 with ⟨hk1, _⟩ | ⟨hk2, g1, g2, g3, g4⟩
    · exact absurd hk1 hk
    have key : ∀ l, 0 ≤ l ∧ l ≤ 1000000 → Wp (fun k => spec_l2Body_l7 k (headP p) l p.Kind p.From p.Mine p.Yours p.Next p.Mask p.Seq p.Last p.Part) (· = headP p ++ N 4 p.Seq ++ N 1 l ++ p.Part) := fun l hl => by
      refine Wp.step ?_
      simp only [spec_l2Body_l7]
      refine Wp.bind (number_ok (w := 4) (by omega) (by omega)) (fun _ e => ?_); subst e
      refine Wp.opt (sadd_ok (by simp [N_size, hs])) ?_
      refine Wp.bind (number_ok (w := 1) (by omega) hl) (fun _ e => ?_); subst e
      refine Wp.opt (sadd_ok (by simp [N_size, hs])) ?_
      refine Wp.opt (sadd_ok (by simp [N_size, hs]; omega)) ?_
      exact Wp.ret rfl
    have hb : bodyP p = headP p ++ N 4 p.Seq ++ N 1 (lastI p.Last) ++ p.Part := by rw [bodyP, if_neg hk]
    rw [hb]
    cases hl : p.Last
    · have := key 0 (by omega)
      rw [hl] at this; exact this
    · have := key 1 (by omega)
      rw [hl] at this; exact this
/-- the form of a packet -/
def formM (p : DPacket) (b : ByteArray) (w : Int) : ByteArray := if Fits p ∧ (1 ≤ w ∧ w ≤ 8) ∧ b.size ≤ 30 then tagM (bodyP p) b w ++ bodyP p else noB
theorem specForm_ok (p : DPacket) (b : ByteArray) (w : Int) : Wp (fun k => spec_FormPacket k p b w) (· = formM p b w) := by
  unfold spec_FormPacket formM
  refine Wp.bind (l2Ok_ok p) (fun _ e => ?_); subst e
  simp only [cbnot, cbdec]
  refine Wp.ite (fun h1 => ?_) (fun h1 => Wp.ret (by rw [if_neg (fun h => h1 h.1)]))
  refine Wp.bind (l1In_ok _ _ _) (fun _ e => ?_); subst e
  simp only [inB, cbnot, cbdec]
  refine Wp.ite (fun h2 => ?_) (fun h2 => Wp.ret (by rw [if_neg (fun h => h2 h.2.1)]))
  refine Wp.ite (fun h3 => Wp.ret (by rw [if_neg (fun h => by omega)])) (fun h3 => ?_)
  rw [if_pos ⟨h1, h2, by omega⟩]
  have hs := bodyP_size p h1
  refine Wp.bind (body_ok p h1) (fun _ e => ?_); subst e
  refine Wp.bind (specTag_ok _ b w (by omega)) (fun _ e => ?_); subst e
  refine Wp.bind (body_ok p h1) (fun _ e => ?_); subst e
  have ht := tagM_size (bodyP p) b w
  refine Wp.opt (sadd_ok (by omega)) ?_
  exact Wp.ret rfl
theorem implForm_ok (p : DPacket) (b : ByteArray) (w : Int) : Wp (fun k => impl_FormPacket k p b w) (· = formM p b w) := by
  unfold impl_FormPacket formM
  refine Wp.bind (validPacket_ok p) (fun _ e => ?_); subst e
  simp only [cbnot, cbdec]
  refine Wp.ite (fun h1 => ?_) (fun h1 => Wp.ret (by rw [if_neg (fun h => h1 h.1)]))
  refine Wp.ite (fun h2 => Wp.ret (by rw [if_neg (fun h => by omega)])) (fun h2 => ?_)
  refine Wp.ite (fun h3 => Wp.ret (by rw [if_neg (fun h => by omega)])) (fun h3 => ?_)
  refine Wp.ite (fun h4 => Wp.ret (by rw [if_neg (fun h => by omega)])) (fun h4 => ?_)
  rw [if_pos ⟨h1, by omega, by omega⟩]
  have hbs := bodyP_size p h1
  have ht := tagM_size (bodyP p) b w
  obtain ⟨g1, g2, g3, g4⟩ := h1
  have hK : 0 ≤ p.Kind ∧ p.Kind ≤ 1000000 := by rcases g4 with h | h <;> omega
  refine Wp.bind (be_ok (w := 1) (by omega) hK) (fun _ e => ?_); subst e
  refine Wp.bind (be_ok (w := 1) (by omega) (by omega)) (fun _ e => ?_); subst e
  refine Wp.opt (sadd_ok (by simp [N_size])) ?_
  refine Wp.bind (be_ok (w := 2) (by omega) (by omega)) (fun _ e => ?_); subst e
  refine Wp.opt (sadd_ok (by simp [N_size])) ?_
  refine Wp.bind (be_ok (w := 2) (by omega) (by omega)) (fun _ e => ?_); subst e
  refine Wp.opt (sadd_ok (by simp [N_size])) ?_
  have hd : N 1 p.Kind ++ N 1 p.From ++ N 2 p.Mine ++ N 2 p.Yours = headP p := rfl
  rw [hd]
  have hs := headP_size p
  have l10 : Wp (fun k => impl_FormPacket_l10 k b w (bodyP p)) (· = tagM (bodyP p) b w ++ bodyP p) := by
    refine Wp.step ?_
    simp only [impl_FormPacket_l10]
    refine Wp.bind (implTag_ok _ b w (by omega)) (fun _ e => ?_); subst e
    refine Wp.opt (sadd_ok (by omega)) ?_
    exact Wp.ret rfl
  simp only [cbeq]
  refine Wp.ite (fun hk => ?_) (fun hk => ?_)
  · rcases g4 with ⟨_, q1, q2, _⟩ | ⟨hk2, _⟩
    · refine Wp.bind (be_ok (w := 4) (by omega) (by omega)) (fun _ e => ?_); subst e
      refine Wp.bind (be_ok (w := 1) (by omega) (by omega)) (fun _ e => ?_); subst e
      refine Wp.opt (sadd_ok (by simp [N_size])) ?_
      refine Wp.opt (sadd_ok (by simp [N_size, hs])) ?_
      have e : headP p ++ (N 4 p.Next ++ N 1 p.Mask) = bodyP p := by rw [bodyP, if_pos hk, ba_assoc]
      rw [e]; exact l10
    · omega
  · rcases g4 with ⟨hk1, _⟩ | ⟨hk2, q1, q2, q3, q4⟩
    · exact absurd hk1 hk
    have key : ∀ l, 0 ≤ l ∧ l ≤ 1000000 → headP p ++ N 4 p.Seq ++ N 1 l ++ p.Part = bodyP p → Wp (fun k => impl_FormPacket_l9 k b w (headP p) l p.Kind p.From p.Mine p.Yours p.Next p.Mask p.Seq p.Last p.Part) (· = tagM (bodyP p) b w ++ bodyP p) := fun l hl e => by
      refine Wp.step ?_
      simp only [impl_FormPacket_l9]
      refine Wp.bind (be_ok (w := 4) (by omega) (by omega)) (fun _ e => ?_); subst e
      refine Wp.bind (be_ok (w := 1) (by omega) hl) (fun _ e => ?_); subst e
      refine Wp.opt (sadd_ok (by simp [N_size])) ?_
      refine Wp.opt (sadd_ok (by simp [N_size]; omega)) ?_
      refine Wp.opt (sadd_ok (by simp [N_size, hs]; omega)) ?_
      rw [show headP p ++ (N 4 p.Seq ++ N 1 l ++ p.Part) = bodyP p by rw [← e]; simp only [ba_assoc]]
      exact l10
    have hb0 : bodyP p = headP p ++ N 4 p.Seq ++ N 1 (lastI p.Last) ++ p.Part := by rw [bodyP, if_neg hk]
    cases hl : p.Last
    · rw [hl] at hb0
      have := key 0 (by omega) hb0.symm
      rw [hl] at this
      exact this
    · rw [hl] at hb0
      have := key 1 (by omega) hb0.symm
      rw [hl] at this
      exact this
theorem formM_size (p : DPacket) (b : ByteArray) (w : Int) : (formM p b w).size ≤ 39 := by
  unfold formM
  split
  · rename_i h
    rw [ba_size_append]
    have := bodyP_size p h.1
    have := tagM_size (bodyP p) b w
    omega
  · simp [noB_size]
end Km.X
