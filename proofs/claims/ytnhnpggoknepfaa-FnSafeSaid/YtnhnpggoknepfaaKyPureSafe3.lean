/- A part of the proof of FnSafe: plain laws of these functions. There is no condition. -/
import Derived.Test.YtnhnpggoknepfaaKyPureSafe1
import Derived.Test.YtnhnpggoknepfaaKyPureSafe2
import Derived.Test.YtnhnpggoknepfaaKxDef2
namespace Km.X
open Go Km
set_option linter.unusedVariables false
set_option linter.unusedSimpArgs false
/-! ### what a take has, in terms of Join -/
theorem joinL_append : ∀ (ps qs : List DPart) (o : ByteArray) (out g : List ByteArray) (o' : ByteArray), joinL ps o out = (g, o', true) → joinL (ps ++ qs) o out = joinL qs o' g
  | [], qs, o, out, g, o', h => by
    simp only [joinL, Prod.mk.injEq] at h
    obtain ⟨rfl, rfl, _⟩ := h; rfl
  | p :: ps, qs, o, out, g, o', h => by
    simp only [joinL, List.cons_append] at h ⊢
    split at h
    · simp only [Prod.mk.injEq] at h; exact absurd h.2.2 (by simp)
    · rename_i h1
      rw [if_neg h1]
      split at h
      · rename_i h2; rw [if_pos h2]; exact joinL_append ps qs _ _ _ _ h
      · rename_i h2; rw [if_neg h2]; exact joinL_append ps qs _ _ _ _ h
theorem joinL_out : ∀ (ps : List DPart) (o : ByteArray) (out g : List ByteArray) (o' : ByteArray), joinL ps o out = (g, o', true) → ∃ m, g = out ++ m
  | [], o, out, g, o', h => by
    simp only [joinL, Prod.mk.injEq] at h
    exact ⟨[], by rw [← h.1]; simp⟩
  | p :: ps, o, out, g, o', h => by
    simp only [joinL] at h
    split at h
    · simp only [Prod.mk.injEq] at h; exact absurd h.2.2 (by simp)
    · split at h
      · obtain ⟨m, hm⟩ := joinL_out ps _ _ _ _ h
        exact ⟨[o ++ p.Text] ++ m, by rw [hm]; simp⟩
      · exact joinL_out ps _ _ _ _ h
structure TInv (P : List DPart) (t : DTake) (g : List ByteArray) : Prop where
  V : VTake t
  M : ∀ x ∈ t.Held, 0 ≤ x.Seq ∧ P[x.Seq.toNat]? = some x.Part
  N : t.Next ≤ P.length
  J : joinL (P.take t.Next.toNat) noB [] = (g ++ t.Ready, t.Open, true)
theorem at_lt {P : List DPart} {i : Int} {p : DPart} (h0 : 0 ≤ i) (h : P[i.toNat]? = some p) : i < P.length := by
  have := (List.getElem?_eq_some_iff.mp h).1; omega
/-- flowing keeps it -/
theorem flow_inv (P : List DPart) (n0 : Int) : ∀ (h : List DHeld) (n : Int) (o : ByteArray) (r g : List ByteArray), n0 ≤ n → WHs n0 (n - 1) h → h.length ≤ 8 → 0 ≤ n → n ≤ 1000000 → o.size ≤ 200 → r.length ≤ 4 → SmR r →
    (∀ x ∈ h, 0 ≤ x.Seq ∧ P[x.Seq.toNat]? = some x.Part) → n ≤ P.length → joinL (P.take n.toNat) noB [] = (g ++ r, o, true) →
    TInv P (flowT h n o r) g ∧ n ≤ (flowT h n o r).Next ∧ ∀ x ∈ h, x.Seq < (flowT h n o r).Next ∨ x ∈ (flowT h n o r).Held
  | [], n, o, r, g, h0, hw, hl, hn, hn', ho, hr, hs, hM, hN, hJ => by
    refine ⟨⟨flowT_V n0 [] n o r h0 hw hl hn hn' ho hr hs, fun x hx => by simp [flowT] at hx, hN, hJ⟩, by simp [flowT], fun x hx => by simp at hx⟩
  | x :: t, n, o, r, g, h0, hw, hl, hn, hn', ho, hr, hs, hM, hN, hJ => by
    have hV := flowT_V n0 (x :: t) n o r h0 hw hl hn hn' ho hr hs
    obtain ⟨hw1, hw2⟩ := hw
    simp only [List.length_cons] at hl
    simp only [flowT] at hV ⊢
    have hM2 : ∀ y ∈ t, 0 ≤ y.Seq ∧ P[y.Seq.toNat]? = some y.Part := fun y hy => hM y (List.mem_cons_of_mem _ hy)
    obtain ⟨hx0, hx1⟩ := hM x (List.mem_cons_self ..)
    have hxl := at_lt hx0 hx1
    split
    · rename_i hg
      have hw3 : WHs n0 (n + 1 - 1) t := by rw [show n + 1 - 1 = x.Seq by omega]; exact hw2
      have hT : P.take (n + 1).toNat = P.take n.toNat ++ [x.Part] := by
        rw [show (n + 1).toNat = n.toNat + 1 by omega, List.take_add_one]
        rw [hg.1] at hx1; rw [hx1]; rfl
      have hJ2 := joinL_append _ [x.Part] _ _ _ _ hJ
      rw [← hT] at hJ2
      simp only [joinL] at hJ2
      have hg2 := hg.2.1
      rw [if_neg (by have := hw1.2.2.2; omega)] at hJ2
      split
      · rename_i hl3
        rw [if_pos hl3] at hJ2
        obtain ⟨a1, a2, a3⟩ := flow_inv P n0 t (n + 1) noB (r ++ [o ++ x.Part.Text]) g (by omega) hw3 (by omega) (by omega) (by omega) (by simp [noB_size]) (by have := hg.2.2 hl3; simp; omega) (fun s h' => by
          simp only [List.mem_append, List.mem_singleton] at h'
          rcases h' with h' | rfl
          · exact hs s h'
          · rw [ba_size_append]; exact hg2) hM2 (by omega) (by rw [hJ2, List.append_assoc])
        refine ⟨a1, by omega, fun y hy => ?_⟩
        rcases List.mem_cons.mp hy with rfl | hy
        · exact .inl (by omega)
        · exact a3 y hy
      · rename_i hl3
        rw [if_neg hl3] at hJ2
        obtain ⟨a1, a2, a3⟩ := flow_inv P n0 t (n + 1) (o ++ x.Part.Text) r g (by omega) hw3 (by omega) (by omega) (by omega) (by rw [ba_size_append]; exact hg2) hr hs hM2 (by omega) hJ2
        refine ⟨a1, by omega, fun y hy => ?_⟩
        rcases List.mem_cons.mp hy with rfl | hy
        · exact .inl (by omega)
        · exact a3 y hy
    · rename_i hg
      rw [if_neg hg] at hV
      exact ⟨⟨hV, hM, hN, hJ⟩, Int.le_refl _, fun y hy => .inr hy⟩
theorem insT_mem {q : Int} {p : DPart} : ∀ {t h : List DHeld}, insT q p t = some h → (∀ x ∈ h, x = ⟨q, p⟩ ∨ x ∈ t) ∧ ⟨q, p⟩ ∈ h ∧ ∀ x ∈ t, x ∈ h
  | [], h, e => by
    simp only [insT, Option.some.injEq] at e; subst e
    simp
  | x :: t, h, e => by
    simp only [insT] at e
    split at e
    · cases e
    · split at e
      · simp only [Option.some.injEq] at e; subst e
        refine ⟨fun y hy => by simpa using hy, by simp, fun y hy => List.mem_cons_of_mem _ hy⟩
      · cases ht : insT q p t with
        | none => rw [ht] at e; cases e
        | some h' =>
          rw [ht] at e
          simp only [Option.map_some, Option.some.injEq] at e; subst e
          obtain ⟨a1, a2, a3⟩ := insT_mem ht
          refine ⟨fun y hy => ?_, List.mem_cons_of_mem _ a2, fun y hy => ?_⟩
          · rcases List.mem_cons.mp hy with rfl | hy
            · exact .inr (List.mem_cons_self ..)
            · rcases a1 y hy with h | h
              · exact .inl h
              · exact .inr (List.mem_cons_of_mem _ h)
          · rcases List.mem_cons.mp hy with rfl | hy
            · exact List.mem_cons_self ..
            · exact List.mem_cons_of_mem _ (a3 y hy)
theorem insT_none {q : Int} {p : DPart} : ∀ {t : List DHeld}, insT q p t = none → ∃ x ∈ t, x.Seq = q
  | [], e => by simp [insT] at e
  | x :: t, e => by
    simp only [insT] at e
    split at e
    · rename_i h; exact ⟨x, List.mem_cons_self .., h⟩
    · split at e
      · cases e
      · cases ht : insT q p t with
        | none => obtain ⟨y, hy, h⟩ := insT_none ht; exact ⟨y, List.mem_cons_of_mem _ hy, h⟩
        | some h' => rw [ht] at e; cases e
theorem pull_none {t : DTake} (h : VTake t) (hr : t.Ready = []) : pullM t = (t, noB, false) := by
  unfold pullM; rw [if_pos h, hr]
theorem pull_inv {P : List DPart} {t : DTake} {g : List ByteArray} (h : TInv P t g) {s : ByteArray} {rs : List ByteArray} (hr : t.Ready = s :: rs) :
    (pullM t).2 = (s, true) ∧ TInv P (pullM t).1 (g ++ [s]) ∧ t.Next ≤ (pullM t).1.Next ∧ (pullM t).1 = flowT t.Held t.Next t.Open rs := by
  obtain ⟨v1, v2, v3, v4, v5, v6, v7⟩ := h.V
  unfold pullM
  rw [if_pos h.V, hr]
  rw [hr] at v4 v5
  simp only [List.length_cons] at v4
  have hJ := h.J
  rw [hr] at hJ
  obtain ⟨b1, b2, b3⟩ := flow_inv P t.Next t.Held t.Next t.Open rs (g ++ [s]) (Int.le_refl _) v6 v2 v1.1 v1.2 v3 (by omega) (fun y hy => v5 y (List.mem_cons_of_mem _ hy)) h.M h.N (by rw [hJ]; simp)
  exact ⟨rfl, b1, b2, rfl⟩
theorem TInv.len {P : List DPart} {t : DTake} {g : List ByteArray} (h : TInv P t g) (hP : P.length ≤ 1000) : g.length + t.Ready.length ≤ 1000 := by
  have := (joinL_sm (P.take t.Next.toNat) noB [] (by simp [noB_size]) (fun y hy => by simp at hy)).1
  rw [h.J] at this
  simp only [List.length_append, List.length_nil, List.length_take] at this
  omega
/-- a beginning of the messages -/
theorem TInv.pre {P : List DPart} {t : DTake} {g : List ByteArray} (h : TInv P t g) {T : List ByteArray} {ot : ByteArray} (hT : joinL P noB [] = (T, ot, true)) : ∃ m, T = (g ++ t.Ready) ++ m := by
  have := joinL_append _ (P.drop t.Next.toNat) _ _ _ _ h.J
  rw [List.take_append_drop, hT] at this
  exact joinL_out _ _ _ _ _ this.symm
/-- the next part goes, but for a full row of messages -/
theorem joinL_head {p : DPart} {ps : List DPart} {o : ByteArray} {out : List ByteArray} {T : List ByteArray} {ot : ByteArray} (h : joinL (p :: ps) o out = (T, ot, true)) : p.Text.size ≤ 20 ∧ o.size + p.Text.size ≤ 200 := by
  simp only [joinL] at h
  split at h
  · simp only [Prod.mk.injEq] at h; exact absurd h.2.2 (by simp)
  · omega
theorem TInv.fit {P : List DPart} {t : DTake} {g : List ByteArray} (h : TInv P t g) {T : List ByteArray} {ot : ByteArray} (hT : joinL P noB [] = (T, ot, true)) {p : DPart} (hp : P[t.Next.toNat]? = some p) : t.Open.size + p.Text.size ≤ 200 := by
  have := joinL_append _ (P.drop t.Next.toNat) _ _ _ _ h.J
  rw [List.take_append_drop, hT] at this
  obtain ⟨hlt, e⟩ := List.getElem?_eq_some_iff.mp hp
  rw [List.drop_eq_getElem_cons hlt, e] at this
  exact (joinL_head this.symm).2
end Km.X
namespace Km.X
open Go Km
set_option linter.unusedVariables false
set_option linter.unusedSimpArgs false
section
variable {P : List DPart} {T : List ByteArray} {ot : ByteArray} (hT : joinL P noB [] = (T, ot, true)) (hP : P.length ≤ 60)
include hT hP
end
end Km.X
namespace Km.X
open Go Km
set_option linter.unusedVariables false
set_option linter.unusedSimpArgs false
end Km.X
namespace Km.X
open Go Km
set_option linter.unusedVariables false
set_option linter.unusedSimpArgs false
/-! ### a valid world is itself -/
end Km.X
namespace Km.X
open Go Km
set_option linter.unusedVariables false
set_option linter.unusedSimpArgs false
/-! ### what is true of both ends stays so -/
theorem endAt_on' {l : List DEnd} (h : VEnds l) {n m : Int} (hn : 1 ≤ n ∧ n ≤ 2) (hm : 1 ≤ m ∧ m ≤ 2) (x : DEnd) : endAt m (onEnd n x l) = if m = n then x else endAt m l := by
  obtain ⟨e, f, rfl, _⟩ := vends_two h
  by_cases h1 : n = 1
  · subst h1
    by_cases h2 : m = 1
    · subst h2; simp [endAt, onEnd]
    · simp [endAt, onEnd, h2]
  · by_cases h2 : m = 1
    · subst h2; rw [if_neg (fun g => h1 g.symm)]; simp [endAt, onEnd, h1]
    · have : m = n := by omega
      subst this; simp [endAt, onEnd, h1]
/-! ### lives -/
theorem pushE_form {e : DEnd} {t : ByteArray} (hc : (pushE e t).Code = 0) : (pushE e t).End = ⟨e.Number, e.Up, e.Life, e.Peer, e.Since, e.Owes, (pushM e.Send t).1, e.Take⟩ ∧ e.Up = true ∧ e.Peer ≠ 0 := by
  unfold pushE at hc ⊢
  split
  · rename_i h1; rw [if_pos h1] at hc
    split
    · rename_i h2; rw [if_pos h2] at hc
      split
      · rename_i h3; rw [if_pos h3] at hc; cases hc
      · rename_i h3; rw [if_neg h3] at hc
        split
        · exact ⟨rfl, h2, h3⟩
        · rename_i h4; rw [if_neg h4] at hc; exact absurd hc h4
    · rename_i h2; rw [if_neg h2] at hc; cases hc
  · rename_i h1; rw [if_neg h1] at hc; cases hc
theorem pullE_form {e : DEnd} (hc : (pullE e).Code = 0) : pullE e = ⟨0, ⟨e.Number, e.Up, e.Life, e.Peer, e.Since, true, e.Send, (pullM e.Take).1⟩, [], (pullM e.Take).2.1⟩ ∧ e.Up = true ∧ (pullM e.Take).2.2 = true := by
  unfold pullE at hc ⊢
  split
  · rename_i h1; rw [if_pos h1] at hc
    split
    · rename_i h2; rw [if_pos h2] at hc
      split
      · rename_i h3; exact ⟨rfl, h2, h3⟩
      · rename_i h3; rw [if_neg h3] at hc; cases hc
    · rename_i h2; rw [if_neg h2] at hc; cases hc
  · rename_i h1; rw [if_neg h1] at hc; cases hc
/-! ### what was given was given in lives that were -/
/-! ### calm rounds give nothing -/
end Km.X
namespace Km.X
open Go Km
set_option linter.unusedVariables false
set_option linter.unusedSimpArgs false
/-! ### what an end sends fits -/
theorem maskL_lt (n : Int) : ∀ (t : List DHeld) (p : Int) (m : Nat), WHs n p t → n - 1 ≤ p ∧ p ≤ n + 7 → m < 2 ^ (p + 1 - n).toNat → maskL n m t < 256
  | [], p, m, h, hp, hm => by
    simp only [maskL]
    have : 2 ^ (p + 1 - n).toNat ≤ 256 := pow_small (by omega)
    omega
  | x :: t, p, m, h, hp, hm => by
    simp only [maskL]
    obtain ⟨h1, h2⟩ := h
    have hx : p < x.Seq ∧ x.Seq ≤ n + 7 := by
      have := h1
      omega
    refine maskL_lt n t x.Seq _ h2 (by omega) ?_
    have e : (x.Seq + 1 - n).toNat = (x.Seq - n).toNat + 1 := by omega
    have hle : 2 ^ (p + 1 - n).toNat ≤ 2 ^ (x.Seq - n).toNat := Nat.pow_le_pow_right (by decide) (by omega)
    rw [e, Nat.pow_succ]
    omega
theorem tkM_range {t : DTake} (h : VTake t) : (tkM t).1 = t.Next ∧ (0 ≤ (tkM t).2 ∧ (tkM t).2 ≤ 255) := by
  unfold tkM
  rw [if_pos h]
  have := maskL_lt t.Next t.Held (t.Next - 1) 0 h.2.2.2.2.2.1 (by omega) (by simp)
  refine ⟨rfl, ?_, ?_⟩ <;> dsimp only <;> omega
theorem partAt_small {l : List DItem} (h : OkItems 0 l) (i : Int) : (partAt l i).Text.size ≤ 20 := by
  unfold partAt
  split
  · rename_i x hx; exact (okItems_get h _ x hx).1
  · exact Nat.zero_le _
theorem tickS_range {e : DEnd} (h : VEnd e) : ∀ q ∈ (tickS e).2, 0 ≤ q ∧ q ≤ 999999 := by
  have hS := h.2.2.2.2.1
  have hv := (tickS_V e h).1
  unfold tickS at hv ⊢
  split
  · intro q hq; cases hq
  · rename_i hp
    rw [if_neg hp] at hv
    intro q hq
    have := tickM_range e.Send hS q hq
    have := hv.2.1
    have := hv.2.2.1
    omega
theorem tickE_fits {e : DEnd} (h : VEnd e) : ∀ q ∈ (tickE e).Out, Fits q ∧ q.From = e.Number ∧ q.Mine = e.Life ∧ q.Yours = e.Peer := by
  have hr := tickS_range h
  have hv := (tickS_V e h).1
  have hw : ∀ q ∈ (tickS e).2.map (wordP e.Number e.Life e.Peer (tickS e).1.Base (tickS e).1.Items), Fits q ∧ q.From = e.Number ∧ q.Mine = e.Life ∧ q.Yours = e.Peer := fun q hq => by
    obtain ⟨i, hi, rfl⟩ := List.mem_map.mp hq
    have := hr i hi
    exact ⟨⟨h.1, h.2.1, h.2.2.1, .inr ⟨rfl, rfl, rfl, by dsimp only [wordP]; omega, partAt_small hv.2.2.2 _⟩⟩, rfl, rfl, rfl⟩
  have hk := tkM_range h.2.2.2.2.2.1
  have hn := h.2.2.2.2.2.1.1
  unfold tickE
  rw [if_pos h]
  split
  · split
    · intro q hq
      rcases List.mem_append.mp hq with hq | hq
      · exact hw q hq
      · simp only [List.mem_singleton] at hq
        subst hq
        exact ⟨⟨h.1, h.2.1, h.2.2.1, .inl ⟨rfl, by dsimp only; omega, hk.2, rfl, rfl, rfl⟩⟩, rfl, rfl, rfl⟩
    · exact hw
  · intro q hq; cases hq
end Km.X
namespace Km.X
open Go Km
set_option linter.unusedVariables false
set_option linter.unusedSimpArgs false
/-! ### what was given, in parts -/
def ptsG (Gi : List DRecord) (i A B : Int) : List DPart := (recsOf Gi ⟨i, A, B⟩).flatMap cutM
theorem ptsG_snoc (Gi : List DRecord) (r : DRecord) (i A B : Int) : ptsG (Gi ++ [r]) i A B = ptsG Gi i A B ++ (if (⟨i, A, B⟩ : DPair) = kf r then cutM r.Text else []) := by
  unfold ptsG
  rw [recsOf_snoc]
  split
  · rw [List.flatMap_append]; simp
  · simp
theorem join_pts : ∀ (l : List ByteArray) (out : List ByteArray), (∀ s ∈ l, s.size ≤ 200) → joinL (l.flatMap cutM) noB out = (out ++ l, noB, true)
  | [], out, h => by simp [joinL]
  | s :: l, out, h => by
    rw [List.flatMap_cons, join_cutM, join_pts l _ (fun t ht => h t (List.mem_cons_of_mem _ ht))]
    unfold firstT
    rw [if_pos (h s (List.mem_cons_self ..))]
    simp
theorem recsOf_mem {l : List DRecord} {key : DPair} {s : ByteArray} (h : s ∈ recsOf l key) : ∃ r ∈ l, kf r = key ∧ r.Text = s := by
  unfold recsOf at h
  obtain ⟨r, hr, e⟩ := List.mem_map.mp h
  obtain ⟨h1, h2⟩ := List.mem_filter.mp hr
  exact ⟨r, h1, of_decide_eq_true h2, e⟩
theorem recsOf_none {l : List DRecord} {key : DPair} (h : ∀ r ∈ l, kf r ≠ key) : recsOf l key = [] := by
  unfold recsOf
  rw [List.filter_eq_nil_iff.mpr (fun r hr => by simpa using h r hr)]; rfl
theorem recs_join {Gi : List DRecord} (h : VRecs Gi) (i A B : Int) : joinL (ptsG Gi i A B) noB [] = (recsOf Gi ⟨i, A, B⟩, noB, true) := by
  unfold ptsG
  rw [join_pts _ _ (fun s hs => by obtain ⟨r, h1, _, rfl⟩ := recsOf_mem hs; exact (h r h1).2.2.2)]
  simp
theorem cuts_len : ∀ l : List ByteArray, (l.flatMap cutM).length ≤ 10 * l.length
  | [] => by simp
  | s :: l => by have := (cutM_ok s).1; have := cuts_len l; simp only [List.flatMap_cons, List.length_append, List.length_cons]; omega
theorem ptsG_len (Gi : List DRecord) (i A B : Int) : (ptsG Gi i A B).length ≤ 10 * Gi.length := by
  unfold ptsG
  have := cuts_len (recsOf Gi ⟨i, A, B⟩)
  have := recsOf_len Gi ⟨i, A, B⟩
  omega
/-! ### what a take has -/
def Had (t : DTake) (s : Int) : Prop := s < t.Next ∨ ∃ x ∈ t.Held, x.Seq = s
theorem TInv.app {P : List DPart} {t : DTake} {g : List ByteArray} (h : TInv P t g) (Q : List DPart) : TInv (P ++ Q) t g := by
  refine ⟨h.V, fun x hx => ?_, by have := h.N; simp only [List.length_append]; omega, ?_⟩
  · obtain ⟨a, b⟩ := h.M x hx
    have := at_lt a b
    exact ⟨a, by rw [List.getElem?_append_left (by omega)]; exact b⟩
  · have := h.N
    have := h.V.1
    rw [List.take_append_of_le_length (by omega)]; exact h.J
theorem TInv.none (P : List DPart) : TInv P noTake [] := ⟨noTake_V, fun x hx => (by cases hx), (by show (0 : Int) ≤ _; omega), rfl⟩
theorem part_all {P : List DPart} {t : DTake} {g : List ByteArray} (h : TInv P t g) {q : Int} {p : DPart} (hq : 0 ≤ q) (hp : P[q.toNat]? = some p) (hp2 : p.Text.size ≤ 20) (hP : P.length ≤ 1000000) :
    TInv P (partM t q p) g ∧ t.Next ≤ (partM t q p).Next ∧ (∀ s, Had t s → Had (partM t q p) s) ∧ (q ≤ t.Next + 7 → Had (partM t q p) q) := by
  have hql := at_lt hq hp
  unfold partM
  rw [if_pos h.V]
  split
  · rename_i g1
    cases ht : insT q p t.Held with
    | none =>
      refine ⟨h, Int.le_refl _, fun _ h => h, fun _ => .inr ?_⟩
      exact insT_none ht
    | some hh =>
      obtain ⟨v1, v2, v3, v4, v5, v6, v7⟩ := h.V
      have hw := insT_W q p g1.1.2.1 g1.1.2.2 g1.2 (by omega) v6 ht
      have hlen := whs_len hw (by omega)
      obtain ⟨a1, a2, a3⟩ := insT_mem ht
      obtain ⟨b1, b2, b3⟩ := flow_inv P t.Next hh t.Next t.Open t.Ready g (Int.le_refl _) hw (by omega) v1.1 v1.2 v3 v4 v5 (fun x hx => by
        rcases a1 x hx with rfl | hx
        · exact ⟨hq, hp⟩
        · exact h.M x hx) h.N h.J
      refine ⟨b1, b2, fun s hs => ?_, fun _ => ?_⟩
      · rcases hs with hs | ⟨x, hx, rfl⟩
        · exact .inl (by dsimp only; omega)
        · rcases b3 _ (a3 x hx) with h' | h'
          · exact .inl h'
          · exact .inr ⟨x, h', rfl⟩
      rcases b3 _ a2 with h' | h'
      · exact .inl h'
      · exact .inr ⟨_, h', rfl⟩
  · rename_i g1
    refine ⟨h, Int.le_refl _, fun _ h => h, fun h7 => .inl ?_⟩
    by_cases hlt : q < t.Next
    · exact hlt
    · exact absurd ⟨⟨by omega, h7, by omega⟩, hp2⟩ g1
theorem pull_all {P : List DPart} {t : DTake} {g : List ByteArray} (h : TInv P t g) (hr : (pullM t).2.2 = true) :
    TInv P (pullM t).1 (g ++ [(pullM t).2.1]) ∧ t.Next ≤ (pullM t).1.Next ∧ ∀ s, Had t s → Had (pullM t).1 s := by
  cases hR : t.Ready with
  | nil => rw [pull_none h.V hR] at hr; cases hr
  | cons s rs =>
    obtain ⟨a1, a2, a3, a4⟩ := pull_inv h hR
    rw [a1]
    refine ⟨a2, a3, fun u hu => ?_⟩
    obtain ⟨v1, v2, v3, v4, v5, v6, v7⟩ := h.V
    have hJ := h.J
    rw [hR] at hJ v5 v4
    simp only [List.length_cons] at v4
    have b3 := (flow_inv P t.Next t.Held t.Next t.Open rs (g ++ [s]) (Int.le_refl _) v6 v2 v1.1 v1.2 v3 (by omega) (fun y hy => v5 y (List.mem_cons_of_mem _ hy)) h.M h.N (by rw [hJ]; simp)).2.2
    rw [← a4] at b3
    rcases hu with hu | ⟨x, hx, rfl⟩
    · exact .inl (by omega)
    · rcases b3 x hx with h' | h'
      · exact .inl h'
      · exact .inr ⟨x, h', rfl⟩
/-! ### masks -/
theorem maskL_bit (n : Int) : ∀ (t : List DHeld) (p : Int) (m k : Nat), WHs n p t → n - 1 ≤ p → m < 2 ^ (p + 1 - n).toNat → (maskL n m t).testBit k = true → m.testBit k = true ∨ ∃ x ∈ t, x.Seq = n + k
  | [], p, m, k, h, hp, hm, hk => .inl hk
  | x :: t, p, m, k, h, hp, hm, hk => by
    simp only [maskL] at hk
    obtain ⟨h1, h2⟩ := h
    have hx : p < x.Seq := h1.1
    have e : (x.Seq + 1 - n).toNat = (x.Seq - n).toNat + 1 := by omega
    have hle : 2 ^ (p + 1 - n).toNat ≤ 2 ^ (x.Seq - n).toNat := Nat.pow_le_pow_right (by decide) (by omega)
    rcases maskL_bit n t x.Seq _ k h2 (by omega) (by rw [e, Nat.pow_succ]; omega) hk with h | ⟨y, hy, hh⟩
    · rw [Nat.add_comm] at h
      rcases Nat.lt_trichotomy k (x.Seq - n).toNat with g | g | g
      · rw [Nat.testBit_two_pow_add_gt g] at h; exact .inl h
      · exact .inr ⟨x, List.mem_cons_self .., by omega⟩
      · have : 2 ^ (x.Seq - n).toNat + m < 2 ^ k := by
          have : 2 ^ ((x.Seq - n).toNat + 1) ≤ 2 ^ k := Nat.pow_le_pow_right (by decide) g
          rw [Nat.pow_succ] at this; omega
        rw [Nat.testBit_lt_two_pow this] at h; cases h
    · exact .inr ⟨y, List.mem_cons_of_mem _ hy, hh⟩
theorem tkM_had {t : DTake} (h : VTake t) (k : Nat) (hk : (tkM t).2.toNat.testBit k = true) : Had t (t.Next + k) := by
  unfold tkM at hk
  rw [if_pos h] at hk
  rcases maskL_bit t.Next t.Held (t.Next - 1) 0 k h.2.2.2.2.2.1 (by omega) (by simp) hk with h | h
  · simp at h
  · exact .inr h
theorem hasL_get : ∀ (l : List DItem) (i m j : Nat), (hasL i m l)[j]? = l[j]?.map (fun x => if i + j < 8 ∧ m.testBit j = true ∧ 0 ≤ x.Since then ⟨x.Part, true, x.Since⟩ else x)
  | [], i, m, j => by simp [hasL]
  | x :: t, i, m, 0 => by
    simp only [hasL, List.getElem?_cons_zero, Option.map_some, Nat.add_zero, Nat.testBit_zero, decide_eq_true_eq]
  | x :: t, i, m, j + 1 => by
    simp only [hasL, List.getElem?_cons_succ]
    rw [hasL_get t (i + 1) (m / 2) j]
    simp only [Nat.testBit_succ, show i + 1 + j = i + (j + 1) by omega]
theorem tickL_get2 : ∀ (t : List DItem) (i : Nat) (b : Int) (j : Nat), (tickL i b t).1[j]? = t[j]?.map (fun x => if i + j < 8 then tickI x else x)
  | [], i, b, j => by simp [tickL]
  | x :: t, i, b, j => by
    simp only [tickL]
    split
    · rename_i h
      dsimp only
      cases hh : (x :: t)[j]? with
      | none => rfl
      | some y => simp only [Option.map_some]; rw [if_neg (by omega)]
    · rename_i h
      dsimp only
      cases j with
      | zero => simp; omega
      | succ j =>
        simp only [List.getElem?_cons_succ]
        rw [tickL_get2 t (i + 1) b j]
        simp only [show i + 1 + j = i + (j + 1) by omega]
theorem tickI_same (x : DItem) : (tickI x).Part = x.Part ∧ (tickI x).Has = x.Has := by unfold tickI; repeat' split <;> try exact ⟨rfl, rfl⟩
/-- as it was, but for times -/
theorem tickS_get {e : DEnd} (h : VEnd e) (j : Nat) : ∀ y, (tickS e).1.Items[j]? = some y → ∃ x, e.Send.Items[j]? = some x ∧ y.Part = x.Part ∧ y.Has = x.Has := fun y hy => by
  unfold tickS at hy
  split at hy
  · exact ⟨y, hy, rfl, rfl⟩
  · unfold tickM at hy
    rw [if_pos h.2.2.2.2.1] at hy
    dsimp only at hy
    rw [tickL_get2] at hy
    cases hx : e.Send.Items[j]? with
    | none => rw [hx] at hy; cases hy
    | some x =>
      rw [hx, Option.map_some] at hy
      have := tickI_same x
      refine ⟨x, rfl, ?_⟩
      split at hy <;> (cases hy; first | exact this | exact ⟨rfl, rfl⟩)
theorem tickS_base {e : DEnd} (h : VEnd e) : (tickS e).1.Base = e.Send.Base ∧ (tickS e).1.Items.length = e.Send.Items.length := by
  unfold tickS
  split
  · exact ⟨rfl, rfl⟩
  · unfold tickM
    rw [if_pos h.2.2.2.2.1]
    exact ⟨rfl, (tickL_ok _ _ _ h.2.2.2.2.1.2.2.2).2.1⟩
/-! ### nothing is had but what came -/
theorem flow_rev : ∀ (h : List DHeld) (n : Int) (o : ByteArray) (r : List ByteArray) (s : Int), Had (flowT h n o r) s → s < n ∨ ∃ x ∈ h, x.Seq = s
  | [], n, o, r, s, hs => hs
  | x :: t, n, o, r, s, hs => by
    simp only [flowT] at hs
    have go : ∀ o' r', Had (flowT t (n + 1) o' r') s → x.Seq = n → s < n ∨ ∃ y ∈ x :: t, y.Seq = s := fun o' r' g e => by
      rcases flow_rev t (n + 1) o' r' s g with h | ⟨y, hy, h⟩
      · by_cases e' : s = n
        · exact .inr ⟨x, List.mem_cons_self .., by omega⟩
        · exact .inl (by omega)
      · exact .inr ⟨y, List.mem_cons_of_mem _ hy, h⟩
    split at hs
    · rename_i hg
      split at hs
      · exact go _ _ hs hg.1
      · exact go _ _ hs hg.1
    · exact hs
theorem part_rev {t : DTake} (hv : VTake t) (q : Int) (p : DPart) (s : Int) (h : Had (partM t q p) s) : Had t s ∨ s = q := by
  unfold partM at h
  rw [if_pos hv] at h
  split at h
  · cases ht : insT q p t.Held with
    | none => rw [ht] at h; exact .inl h
    | some hh =>
      rw [ht] at h
      dsimp only at h
      rcases flow_rev _ _ _ _ _ h with h | ⟨x, hx, e⟩
      · exact .inl (.inl h)
      · rcases (insT_mem ht).1 x hx with rfl | hx
        · exact .inr e.symm
        · exact .inl (.inr ⟨x, hx, e⟩)
  · exact .inl h
theorem pull_rev {t : DTake} (hv : VTake t) (s : Int) (h : Had (pullM t).1 s) : Had t s := by
  unfold pullM at h
  rw [if_pos hv] at h
  split at h
  · exact h
  · exact flow_rev _ _ _ _ _ h
theorem had_lt {P : List DPart} {t : DTake} {g : List ByteArray} (h : TInv P t g) {s : Int} (hs : Had t s) : s < P.length := by
  rcases hs with hs | ⟨x, hx, rfl⟩
  · have := h.N; omega
  · obtain ⟨a, b⟩ := h.M x hx
    exact at_lt a b
theorem tickI_since {x : DItem} (h : 0 ≤ x.Since ∨ sendsI x) : 0 ≤ (tickI x).Since := by
  unfold tickI
  split
  · rename_i hh
    rcases h with h | h
    · exact h
    · exact absurd hh h.1
  · split
    · exact Int.le_refl _
    · split
      · exact Int.le_refl _
      · rename_i h1 h3
        rcases h with h | h
        · dsimp only; omega
        · rcases h.2 with g | g
          · exact absurd g h1
          · exact absurd g h3
theorem tickL_sent : ∀ (t : List DItem) (i : Nat) (b q : Int), q ∈ (tickL i b t).2 → ∃ (k : Nat) (x : DItem), t[k]? = some x ∧ q = b + i + k ∧ i + k < 8 ∧ sendsI x
  | [], i, b, q, h => by simp [tickL] at h
  | x :: t, i, b, q, h => by
    simp only [tickL] at h
    split at h
    · simp at h
    · rename_i hi
      rcases List.mem_append.mp h with h | h
      · split at h
        · rename_i hs
          simp only [List.mem_singleton] at h
          exact ⟨0, x, rfl, by omega, by omega, hs⟩
        · simp at h
      · obtain ⟨k, y, h1, h2, h3, h4⟩ := tickL_sent t (i + 1) b q h
        exact ⟨k + 1, y, by simpa using h1, by omega, by omega, h4⟩
theorem tickS_since {e : DEnd} (h : VEnd e) (j : Nat) : ∀ y, (tickS e).1.Items[j]? = some y → ∃ x, e.Send.Items[j]? = some x ∧ (0 ≤ x.Since → 0 ≤ y.Since) := fun y hy => by
  unfold tickS at hy
  split at hy
  · exact ⟨y, hy, fun g => g⟩
  · unfold tickM at hy
    rw [if_pos h.2.2.2.2.1] at hy
    dsimp only at hy
    rw [tickL_get2] at hy
    cases hx : e.Send.Items[j]? with
    | none => rw [hx] at hy; cases hy
    | some x =>
      rw [hx, Option.map_some] at hy
      refine ⟨x, rfl, fun g => ?_⟩
      split at hy <;> cases hy
      · exact tickI_since (.inl g)
      · exact g
theorem tickS_sent {e : DEnd} (h : VEnd e) {q : Int} (hq : q ∈ (tickS e).2) (k : Nat) (y : DItem) (hy : (tickS e).1.Items[k]? = some y) (hk : q = e.Send.Base + k) : 0 ≤ y.Since := by
  unfold tickS at hq hy
  split at hq
  · cases hq
  · rename_i hp
    rw [if_neg hp] at hy
    unfold tickM at hq hy
    rw [if_pos h.2.2.2.2.1] at hq hy
    dsimp only at hq hy
    obtain ⟨j, x, h1, h2, h3, h4⟩ := tickL_sent _ _ _ _ hq
    have : j = k := by omega
    subst this
    rw [tickL_get2, h1, Option.map_some] at hy
    rw [if_pos (by omega)] at hy
    cases hy
    exact tickI_since (.inr h4)
end Km.X
namespace Km.X
open Go Km
set_option linter.unusedVariables false
set_option linter.unusedSimpArgs false
/-! ### one direction: what e sends to f -/
structure Dir (i : Int) (e f : DEnd) (Gi Ta : List DRecord) : Prop where
  pe : f.Peer ≤ e.Life
  gf : ∀ r ∈ Gi, r.From = i → r.A < e.Life ∨ (r.A = e.Life ∧ (e.Up = true → r.B ≤ e.Peer))
  tf : ∀ r ∈ Ta, r.From = i → r.B < f.Life ∨ (r.B = f.Life ∧ (f.Up = true → r.A ≤ f.Peer))
  it : e.Peer ≠ 0 → e.Send.Base.toNat + e.Send.Items.length = (ptsG Gi i e.Life e.Peer).length ∧ ∀ k x, e.Send.Items[k]? = some x → (ptsG Gi i e.Life e.Peer)[e.Send.Base.toNat + k]? = some x.Part
  tk : f.Peer ≠ 0 → TInv (ptsG Gi i f.Peer f.Life) f.Take (recsOf Ta ⟨i, f.Peer, f.Life⟩)
  rt : ∀ A B, ∃ m, recsOf Gi ⟨i, A, B⟩ = recsOf Ta ⟨i, A, B⟩ ++ m
  p1 : e.Peer = f.Life → f.Peer = e.Life → e.Send.Base ≤ f.Take.Next ∧ ∀ (k : Nat) (x : DItem), e.Send.Items[k]? = some x → x.Has = true → Had f.Take (e.Send.Base + k)
  p2 : e.Peer = f.Life → f.Up = true → f.Peer ≠ e.Life → e.Send.Base = 0 ∧ ∀ (k : Nat) (x : DItem), e.Send.Items[k]? = some x → ¬ x.Has = true
  p3 : e.Peer = f.Life → f.Peer = e.Life → ∀ (k : Nat) (x : DItem), e.Send.Items[k]? = some x → Had f.Take (e.Send.Base + k) → 0 ≤ x.Since
/-- a packet that e sent to f, now or earlier -/
structure Gen (i : Int) (e f : DEnd) (Gi : List DRecord) (q : DPacket) : Prop where
  a : q.Mine ≤ e.Life
  b : q.Mine = e.Life → e.Up = true → q.Yours ≤ e.Peer
  c : q.Yours ≤ f.Life
  d : q.Kind = 2 → (ptsG Gi i q.Mine q.Yours)[q.Seq.toNat]? = some ⟨q.Part, q.Last⟩
  w : q.Kind = 1 → q.Mine = e.Life → e.Up = true → q.Yours = e.Peer → q.Next ≤ e.Take.Next ∧ ∀ k : Nat, q.Mask.toNat.testBit k = true → Had e.Take (q.Next + k)
  s : q.Kind = 2 → q.Mine = e.Life → e.Up = true → q.Yours = e.Peer → ∀ (k : Nat) (x : DItem), e.Send.Items[k]? = some x → q.Seq = e.Send.Base + k → 0 ≤ x.Since
def Two (n : Int) (x y : DEnd) (Gi Ta : List DRecord) : Prop := Dir n x y Gi Ta ∧ Dir (3 - n) y x Gi Ta
structure Stp (n : Int) (x x' y : DEnd) (Gi Ta Gi' Ta' : List DRecord) : Prop where
  two : Two n x' y Gi' Ta'
  mine : ∀ q, Gen n x y Gi q → Gen n x' y Gi' q
  yours : ∀ q, Gen (3 - n) y x Gi q → Gen (3 - n) y x' Gi' q
theorem Stp.refl {n : Int} {x y : DEnd} {Gi Ta : List DRecord} (h : Two n x y Gi Ta) : Stp n x x y Gi Ta Gi Ta := ⟨h, fun _ g => g, fun _ g => g⟩
theorem Stp.trans {n : Int} {x x' x'' y : DEnd} {Gi Ta Gi' Ta' Gi'' Ta'' : List DRecord} (h : Stp n x x' y Gi Ta Gi' Ta') (g : Stp n x' x'' y Gi' Ta' Gi'' Ta'') : Stp n x x'' y Gi Ta Gi'' Ta'' :=
  ⟨g.two, fun q a => g.mine q (h.mine q a), fun q a => g.yours q (h.yours q a)⟩
section
variable {n : Int} {x x' y : DEnd} {Gi Ta : List DRecord}
/-- only what it sends is another -/
theorem stp_send (h : Two n x y Gi Ta) (hl : x'.Life = x.Life) (hu : x'.Up = x.Up) (hp : x'.Peer = x.Peer) (ht : x'.Take = x.Take)
    (hb : 0 ≤ x.Send.Base ∧ x.Send.Base ≤ x'.Send.Base ∧ x'.Send.Base + x'.Send.Items.length = x.Send.Base + x.Send.Items.length)
    (hs : ∀ (k : Nat) z, x'.Send.Items[k]? = some z → ∃ (j : Nat) (u : DItem), x.Send.Items[j]? = some u ∧ x'.Send.Base + k = x.Send.Base + j ∧ z.Part = u.Part ∧ (0 ≤ u.Since → 0 ≤ z.Since) ∧ (x.Peer = y.Life → y.Up = true → z.Has = true → u.Has = true ∨ (y.Peer = x.Life ∧ Had y.Take (x'.Send.Base + k))))
    (hyu : y.Peer = x.Life → y.Up = true)
    (h1 : x.Peer = y.Life → y.Peer = x.Life → x'.Send.Base ≤ y.Take.Next) (h2 : x.Peer = y.Life → y.Up = true → y.Peer ≠ x.Life → x'.Send.Base = x.Send.Base) : Stp n x x' y Gi Ta Gi Ta := by
  obtain ⟨⟨a1, a2, a3, a4, a5, a6, a7, a8, a9⟩, ⟨b1, b2, b3, b4, b5, b6, b7, b8, b9⟩⟩ := h
  refine ⟨⟨⟨?_, ?_, a3, ?_, a5, a6, ?_, ?_, ?_⟩, ⟨?_, b2, ?_, b4, ?_, b6, ?_, ?_, ?_⟩⟩, fun q g => ⟨?_, ?_, g.c, g.d, ?_, ?_⟩, fun q g => ⟨g.a, g.b, ?_, g.d, g.w, g.s⟩⟩
  all_goals simp only [hl, hu, hp, ht]
  · exact a1
  · exact a2
  · intro hp0
    obtain ⟨c1, c2⟩ := a4 hp0
    refine ⟨by omega, fun k z hz => ?_⟩
    obtain ⟨j, u, d1, d2, d3, _⟩ := hs k z hz
    have := c2 j u d1
    rw [d3, ← this]; congr 1; omega
  · intro e1 e2
    obtain ⟨c1, c2⟩ := a7 e1 e2
    refine ⟨h1 e1 e2, fun k z hz hh => ?_⟩
    obtain ⟨j, u, d1, d2, d3, d4, d5⟩ := hs k z hz
    rcases d5 e1 (hyu e2) hh with g | g
    · rw [d2]; exact c2 j u d1 g
    · exact g.2
  · intro e1 e2 e3
    obtain ⟨c1, c2⟩ := a8 e1 e2 e3
    refine ⟨by rw [h2 e1 e2 e3]; exact c1, fun k z hz hh => ?_⟩
    obtain ⟨j, u, d1, d2, d3, d4, d5⟩ := hs k z hz
    rcases d5 e1 e2 hh with g | g
    · exact c2 j u d1 g
    · exact e3 g.1
  · intro e1 e2 k z hz hh
    obtain ⟨j, u, d1, d2, d3, d4, d5⟩ := hs k z hz
    exact d4 (a9 e1 e2 j u d1 (by rw [← d2]; exact hh))
  · exact b1
  · exact b3
  · exact b5
  · exact b7
  · exact b8
  · exact b9
  · exact g.a
  · exact g.b
  · exact g.w
  · intro k1 k2 k3 k4 k z hz hh
    obtain ⟨j, u, d1, d2, d3, d4, d5⟩ := hs k z hz
    exact d4 (g.s k1 k2 k3 k4 j u d1 (by omega))
  · exact g.c
/-- only what it takes is another -/
theorem stp_take (h : Two n x y Gi Ta) (hl : x'.Life = x.Life) (hu : x'.Up = x.Up) (hp : x'.Peer = x.Peer) (hs : x'.Send = x.Send)
    (ht : x.Peer ≠ 0 → TInv (ptsG Gi (3 - n) x.Peer x.Life) x'.Take (recsOf Ta ⟨3 - n, x.Peer, x.Life⟩)) (hn : x.Take.Next ≤ x'.Take.Next) (hh : ∀ s, Had x.Take s → Had x'.Take s)
    (h3 : y.Peer = x.Life → x.Peer = y.Life → ∀ (k : Nat) (z : DItem), y.Send.Items[k]? = some z → Had x'.Take (y.Send.Base + k) → 0 ≤ z.Since) : Stp n x x' y Gi Ta Gi Ta := by
  obtain ⟨⟨a1, a2, a3, a4, a5, a6, a7, a8, a9⟩, ⟨b1, b2, b3, b4, b5, b6, b7, b8, b9⟩⟩ := h
  refine ⟨⟨⟨?_, ?_, a3, ?_, a5, a6, ?_, ?_, ?_⟩, ⟨?_, b2, ?_, b4, ?_, b6, ?_, ?_, ?_⟩⟩, fun q g => ⟨?_, ?_, g.c, g.d, ?_, ?_⟩, fun q g => ⟨g.a, g.b, ?_, g.d, g.w, g.s⟩⟩
  all_goals simp only [hl, hu, hp, hs]
  · exact a1
  · exact a2
  · exact a4
  · exact a7
  · exact a8
  · exact a9
  · exact b1
  · exact b3
  · exact ht
  · intro e1 e2
    obtain ⟨c1, c2⟩ := b7 e1 e2
    exact ⟨by omega, fun k z hz hz' => hh _ (c2 k z hz hz')⟩
  · exact b8
  · exact h3
  · exact g.a
  · exact g.b
  · intro k1 k2 k3 k4
    obtain ⟨c1, c2⟩ := g.w k1 k2 k3 k4
    exact ⟨by omega, fun k hk => hh _ (c2 k hk)⟩
  · exact g.s
  · exact g.c
/-! ### a tick -/
theorem tickE_same (hv : VEnd x) : (tickE x).End.Life = x.Life ∧ (tickE x).End.Up = x.Up ∧ (tickE x).End.Peer = x.Peer ∧ (tickE x).End.Take = x.Take ∧ ((tickE x).End.Send = (tickS x).1 ∨ (tickE x).End.Send = x.Send) := by
  unfold tickE
  rw [if_pos hv]
  split
  · split
    · exact ⟨rfl, rfl, rfl, rfl, .inl rfl⟩
    · exact ⟨rfl, rfl, rfl, rfl, .inl rfl⟩
  · exact ⟨rfl, rfl, rfl, rfl, .inr rfl⟩
theorem up_of {x y : DEnd} (hv : VEnd x) (hy : VEnd y) (h : y.Peer = x.Life) : y.Up = true := by
  cases hh : y.Up with
  | true => rfl
  | false => have := (hy.2.2.2.2.2.2.2 hh).1; have := hv.2.1; omega
theorem stp_tick (h : Two n x y Gi Ta) (hv : VEnd x) (hy : VEnd y) : Stp n x (tickE x).End y Gi Ta Gi Ta := by
  obtain ⟨e1, e2, e3, e4, e5⟩ := tickE_same hv
  obtain ⟨g1, g2⟩ := tickS_base hv
  have key : (tickE x).End.Send.Base = x.Send.Base ∧ (tickE x).End.Send.Items.length = x.Send.Items.length ∧ ∀ (j : Nat) z, (tickE x).End.Send.Items[j]? = some z → ∃ u, x.Send.Items[j]? = some u ∧ z.Part = u.Part ∧ z.Has = u.Has ∧ (0 ≤ u.Since → 0 ≤ z.Since) := by
    rcases e5 with e | e
    · rw [e]
      refine ⟨g1, g2, fun j z hz => ?_⟩
      obtain ⟨u, hu, hz1, hz2⟩ := tickS_get hv j z hz
      obtain ⟨u', hu', hz3⟩ := tickS_since hv j z hz
      rw [hu] at hu'; cases hu'
      exact ⟨u, hu, hz1, hz2, hz3⟩
    · rw [e]; exact ⟨rfl, rfl, fun j z hz => ⟨z, hz, rfl, rfl, fun g => g⟩⟩
  obtain ⟨k1, k2, k3⟩ := key
  refine stp_send h e1 e2 e3 e4 ⟨hv.2.2.2.2.1.2.1.1, by rw [k1]; exact Int.le_refl _, by rw [k1, k2]⟩ (fun k z hz => ?_) (up_of hv hy) (fun q1 q2 => by rw [k1]; exact (h.1.p1 q1 q2).1) (fun _ _ _ => k1)
  obtain ⟨u, hu, hz1, hz2, hz3⟩ := k3 k z hz
  exact ⟨k, u, hu, by rw [k1], hz1, hz3, fun _ _ hh => .inl (by rw [← hz2]; exact hh)⟩
theorem tick_out (hv : VEnd x) : ∀ q ∈ (tickE x).Out, x.Up = true ∧ ((q.Kind = 1 ∧ q.Next = (tkM x.Take).1 ∧ q.Mask = (tkM x.Take).2) ∨ (x.Peer ≠ 0 ∧ q.Kind = 2 ∧ q.Seq ∈ (tickS x).2 ∧ partAt (tickS x).1.Items (q.Seq - x.Send.Base) = ⟨q.Part, q.Last⟩)) := by
  have hb := (tickS_base hv).1
  have hm : ∀ q ∈ (tickS x).2.map (wordP x.Number x.Life x.Peer (tickS x).1.Base (tickS x).1.Items), x.Peer ≠ 0 ∧ q.Kind = 2 ∧ q.Seq ∈ (tickS x).2 ∧ partAt (tickS x).1.Items (q.Seq - x.Send.Base) = ⟨q.Part, q.Last⟩ := fun q hq => by
    obtain ⟨j, hj, rfl⟩ := List.mem_map.mp hq
    refine ⟨fun e => ?_, rfl, hj, by rw [hb]; rfl⟩
    unfold tickS at hj; rw [if_pos e] at hj; cases hj
  unfold tickE
  rw [if_pos hv]
  split
  · rename_i hu
    split
    · intro q hq
      rcases List.mem_append.mp hq with hq | hq
      · exact ⟨hu, .inr (hm q hq)⟩
      · simp only [List.mem_singleton] at hq
        subst hq
        exact ⟨hu, .inl ⟨rfl, rfl, rfl⟩⟩
    · exact fun q hq => ⟨hu, .inr (hm q hq)⟩
  · intro q hq; cases hq
theorem gen_tick (h : Two n x y Gi Ta) (hv : VEnd x) : ∀ q ∈ (tickE x).Out, Gen n (tickE x).End y Gi q := fun q hq => by
  obtain ⟨e1, e2, e3, e4, e5⟩ := tickE_same hv
  obtain ⟨f1, f2, f3, f4⟩ := tickE_fits hv q hq
  obtain ⟨o1, o2⟩ := tick_out hv q hq
  have hpl := h.2.pe
  refine ⟨by omega, fun _ _ => by omega, by omega, fun hk => ?_, fun hk _ _ _ => ?_, fun hk _ _ _ k z hz hq => ?_⟩
  · rcases o2 with ⟨o, _⟩ | ⟨o3, _, o4, o5⟩
    · omega
    · have hr := tickS_range hv q.Seq o4
      obtain ⟨c1, c2⟩ := h.1.it o3
      have hS := tickM_range x.Send hv.2.2.2.2.1 q.Seq (by unfold tickS at o4; rw [if_neg o3] at o4; exact o4)
      have hS' : x.Send.Base ≤ q.Seq ∧ q.Seq < x.Send.Base + (tickS x).1.Items.length := by
        have hb := (tickS_base hv).1
        unfold tickS at hb ⊢
        rw [if_neg o3] at hb ⊢
        rw [hb] at hS; exact hS
      have hlt : (q.Seq - x.Send.Base).toNat < (tickS x).1.Items.length := by omega
      unfold partAt at o5
      rw [List.getElem?_eq_getElem hlt] at o5
      dsimp only at o5
      obtain ⟨u, hu, hz1, hz2⟩ := tickS_get hv _ _ (List.getElem?_eq_getElem hlt)
      have := c2 _ _ hu
      have hb0 := hv.2.2.2.2.1.2.1.1
      rw [f3, f4, ← o5, hz1, ← this]
      congr 1; omega
  · rcases o2 with ⟨_, o3, o4⟩ | ⟨_, o, _⟩
    · rw [e4, o3, o4, (tkM_range hv.2.2.2.2.2.1).1]
      exact ⟨Int.le_refl _, fun k hk => tkM_had hv.2.2.2.2.2.1 k hk⟩
    · omega
  · rcases o2 with ⟨o, _⟩ | ⟨o3, _, o4, _⟩
    · omega
    · have hs : (tickE x).End.Send = (tickS x).1 := by
        unfold tickE; rw [if_pos hv, if_pos o1]; split <;> rfl
      rw [hs] at hz hq
      exact tickS_sent hv o4 k z hz (by rw [hq, (tickS_base hv).1])
/-! ### a packet comes: another life -/
theorem stp_met (h : Two n x y Gi Ta) (hv : VEnd x) (hy : VEnd y) {p : DPacket} (hu : x.Up = true) (hg : Gen (3 - n) y x Gi p) : Stp n x (metE x p) y Gi Ta Gi Ta := by
  unfold metE
  split
  · rename_i hm
    obtain ⟨⟨a1, a2, a3, a4, a5, a6, a7, a8, a9⟩, ⟨b1, b2, b3, b4, b5, b6, b7, b8, b9⟩⟩ := h
    have hx0 := hv.2.2.1
    have hyb := hy.2.2.2.2.1.2.1.1
    have ga := hg.a
    have hnext := hy.2.2.2.2.2.1.1
    refine ⟨⟨⟨a1, fun r hr e => ?_, a3, fun hp => ?_, a5, a6, fun _ _ => ⟨hnext.1, fun k z hz => by cases hz⟩, fun _ _ _ => ⟨rfl, fun k z hz => by cases hz⟩, fun _ _ k z hz => by cases hz⟩, ⟨ga, b2, fun r hr e => ?_, b4, fun hp => ?_, b6, fun e1 e2 => ?_, fun e1 e2 e3 => ?_, fun _ _ k z hz hh => ?_⟩⟩, fun q g => ⟨g.a, fun e1 e2 => ?_, g.c, g.d, fun k1 k2 k3 k4 => ?_, fun _ _ _ _ k z hz => by cases hz⟩, fun q g => ⟨g.a, g.b, g.c, g.d, g.w, g.s⟩⟩
    · rcases a2 r hr e with g | ⟨g, g'⟩
      · exact .inl g
      · exact .inr ⟨g, fun _ => by have := g' hu; dsimp only; omega⟩
    · have e : recsOf Gi ⟨n, x.Life, p.Mine⟩ = [] := recsOf_none fun r hr e => by
        simp only [kf, DPair.mk.injEq] at e
        rcases a2 r hr e.1 with g | ⟨g, g'⟩
        · omega
        · have := g' hu; omega
      dsimp only
      unfold ptsG
      rw [e]
      exact ⟨rfl, fun k z hz => by cases hz⟩
    · rcases b3 r hr e with g | ⟨g, g'⟩
      · exact .inl g
      · exact .inr ⟨g, fun _ => by have := g' hu; dsimp only; omega⟩
    · have e : recsOf Ta ⟨3 - n, p.Mine, x.Life⟩ = [] := recsOf_none fun r hr e => by
        simp only [kf, DPair.mk.injEq] at e
        rcases b3 r hr e.1 with g | ⟨g, g'⟩
        · omega
        · have := g' hu; omega
      dsimp only
      rw [e]
      exact TInv.none _
    · dsimp only at e1 e2
      obtain ⟨c1, c2⟩ := b8 e1 hu (by omega)
      exact ⟨by rw [c1]; exact Int.le_refl _, fun k z hz hh => absurd hh (c2 k z hz)⟩
    · dsimp only at e1 e2 e3
      exact b8 e1 hu (by omega)
    · rcases hh with hh | ⟨u, hu, _⟩
      · change y.Send.Base + (k : Int) < 0 at hh; omega
      · cases hu
    · have := g.b e1 hu
      dsimp only at this ⊢; omega
    · dsimp only at k2 k4
      have := g.b k2 hu; omega
  · exact Stp.refl h
/-! ### a packet comes in the pair of lives -/
theorem stp_word (h : Two n x y Gi Ta) (hv : VEnd x) (hy : VEnd y) {p : DPacket} (hu : x.Up = true) (hf : Fits p) (hg : Gen (3 - n) y x Gi p) (hk : p.Kind = 1) (hl : p.Yours = x.Life) (hp : p.Mine = x.Peer) :
    Stp n x ⟨x.Number, x.Up, x.Life, x.Peer, x.Since, x.Owes, wordM x.Send p.Next p.Mask, x.Take⟩ y Gi Ta Gi Ta := by
  have hS := hv.2.2.2.2.1
  have hb0 := hS.2.1.1
  by_cases hc : x.Send.Base ≤ p.Next ∧ p.Next ≤ x.Send.Base + frontL x.Send.Items ∧ 0 ≤ p.Mask ∧ p.Mask ≤ 255
  · have hw : wordM x.Send p.Next p.Mask = ⟨p.Next, hasL 0 p.Mask.toNat (x.Send.Items.drop (p.Next - x.Send.Base).toNat)⟩ := by unfold wordM; rw [if_pos hS, if_pos hc]
    rw [hw]
    have hfr := frontL_le x.Send.Items
    have hget : ∀ (k : Nat) z, (hasL 0 p.Mask.toNat (x.Send.Items.drop (p.Next - x.Send.Base).toNat))[k]? = some z → ∃ u, x.Send.Items[(p.Next - x.Send.Base).toNat + k]? = some u ∧ z.Part = u.Part ∧ z.Since = u.Since ∧ (z.Has = true → u.Has = true ∨ p.Mask.toNat.testBit k = true) := fun k z hz => by
      rw [hasL_get, List.getElem?_drop] at hz
      cases hu : x.Send.Items[(p.Next - x.Send.Base).toNat + k]? with
      | none => rw [hu] at hz; cases hz
      | some u =>
        rw [hu, Option.map_some] at hz
        refine ⟨u, rfl, ?_⟩
        split at hz
        · rename_i hh; cases hz; exact ⟨rfl, rfl, fun _ => .inr hh.2.1⟩
        · cases hz; exact ⟨rfl, rfl, fun g => .inl g⟩
    have pair : x.Peer = y.Life → y.Up = true → y.Peer = x.Life ∧ p.Next ≤ y.Take.Next ∧ ∀ k : Nat, p.Mask.toNat.testBit k = true → Had y.Take (p.Next + k) := fun q1 hyu => by
      have hb := hg.b (by omega) hyu
      have hpe := h.1.pe
      exact ⟨by omega, hg.w hk (by omega) hyu (by omega)⟩
    refine stp_send h rfl rfl rfl rfl ⟨hb0, hc.1, ?_⟩ (fun k z hz => ?_) (up_of hv hy) (fun q1 q2 => (pair q1 (up_of hv hy q2)).2.1) (fun q1 q2 q3 => absurd (pair q1 q2).1 q3)
    · dsimp only; rw [hasL_length, List.length_drop]; omega
    · obtain ⟨u, hu1, hu2, hu3, hu4⟩ := hget k z hz
      refine ⟨_, u, hu1, by dsimp only; omega, hu2, by rw [hu3]; exact fun g => g, fun q1 q2 hh => ?_⟩
      rcases hu4 hh with g | g
      · exact .inl g
      · exact .inr ⟨(pair q1 q2).1, (pair q1 q2).2.2 k g⟩
  · have hw : wordM x.Send p.Next p.Mask = x.Send := by unfold wordM; rw [if_pos hS, if_neg hc]
    rw [hw]
    exact stp_take h rfl rfl rfl rfl h.2.tk (Int.le_refl _) (fun _ g => g) h.2.p3
theorem stp_body (h : Two n x y Gi Ta) (hv : VEnd x) (hy : VEnd y) (hgl : Gi.length ≤ 400) {p : DPacket} (hu : x.Up = true) (hf : Fits p) (hg : Gen (3 - n) y x Gi p) (hp : p.Mine = x.Peer) : Stp n x (bodyE x p).End y Gi Ta Gi Ta := by
  unfold bodyE
  split
  · rename_i hl
    split
    · rename_i hk
      exact stp_word h hv hy hu hf hg hk hl hp
    · rename_i hk
      have hk2 : p.Kind = 2 ∧ (0 ≤ p.Seq ∧ p.Seq ≤ 999999) ∧ p.Part.size ≤ 20 := by
        rcases hf.2.2.2 with g | g
        · exact absurd g.1 hk
        · exact ⟨g.1, g.2.2.2.1, g.2.2.2.2⟩
      have hd := hg.d hk2.1
      rw [hp, hl] at hd
      have hp0 : x.Peer ≠ 0 := by have := hf.2.1; omega
      obtain ⟨t1, t2, t3, t4⟩ := part_all (h.2.tk hp0) hk2.2.1.1 hd hk2.2.2 (by have := ptsG_len Gi (3 - n) x.Peer x.Life; omega)
      refine stp_take h rfl rfl rfl rfl (fun _ => t1) t2 t3 (fun e1 e2 k z hz hh => ?_)
      rcases part_rev (h.2.tk hp0).V _ _ _ hh with g | g
      · exact h.2.p3 e1 e2 k z hz g
      · exact hg.s hk2.1 (by omega) (up_of hv hy e1) (by omega) k z hz g.symm
  · exact stp_take h rfl rfl rfl rfl h.2.tk (Int.le_refl _) (fun _ g => g) h.2.p3
theorem stp_takeE (h : Two n x y Gi Ta) (hv : VEnd x) (hy : VEnd y) (hgl : Gi.length ≤ 400) {p : DPacket} (hg : x.Up = true → ¬ p.From = x.Number → Gen (3 - n) y x Gi p) : Stp n x (takeE x p).End y Gi Ta Gi Ta := by
  unfold takeE
  rw [if_pos hv]
  split
  · rename_i hc
    obtain ⟨c1, c2, c3, c4⟩ := hc
    have hg := hg c1 c3
    have s1 := stp_met h hv hy c1 hg
    obtain ⟨v1, v2⟩ := metE_V hv c1 c2
    exact s1.trans (stp_body s1.two v1 hy hgl v2 c2 (s1.yours _ hg) (metE_peer hv c2 c4).symm)
  · exact Stp.refl h
/-! ### it falls, it rises -/
theorem stp_fall (h : Two n x y Gi Ta) (hv : VEnd x) (hy : VEnd y) : Stp n x (fallM x) y Gi Ta Gi Ta := by
  unfold fallM
  rw [if_pos hv]
  obtain ⟨⟨a1, a2, a3, a4, a5, a6, a7, a8, a9⟩, ⟨b1, b2, b3, b4, b5, b6, b7, b8, b9⟩⟩ := h
  have hxl := hv.2.1
  have hyl := hy.2.1
  have no : ∀ q : Prop, (false = true → q) := fun q g => by cases g
  refine ⟨⟨⟨a1, fun r hr e => ?_, a3, fun hp => absurd rfl hp, a5, a6, fun e1 _ => ?_, fun e1 => ?_, fun e1 => ?_⟩, ⟨?_, b2, fun r hr e => ?_, b4, fun hp => absurd rfl hp, b6, fun _ e2 => ?_, fun _ e2 => no _ e2, fun _ e2 => ?_⟩⟩, fun q g => ⟨g.a, fun _ => no _, g.c, g.d, fun _ _ => no _, fun _ _ => no _⟩, fun q g => ⟨g.a, g.b, g.c, g.d, g.w, g.s⟩⟩
  · rcases a2 r hr e with g | g
    · exact .inl g
    · exact .inr ⟨g.1, no _⟩
  · dsimp only at e1; omega
  · dsimp only at e1; omega
  · dsimp only at e1; omega
  · show 0 ≤ y.Life; omega
  · rcases b3 r hr e with g | g
    · exact .inl g
    · exact .inr ⟨g.1, no _⟩
  · dsimp only at e2; omega
  · dsimp only at e2; omega
theorem stp_rise (h : Two n x y Gi Ta) (hv : VEnd x) (hy : VEnd y) : Stp n x (riseM x) y Gi Ta Gi Ta := by
  unfold riseM
  rw [if_pos hv]
  split
  · exact Stp.refl h
  split
  · exact Stp.refl h
  obtain ⟨⟨a1, a2, a3, a4, a5, a6, a7, a8, a9⟩, ⟨b1, b2, b3, b4, b5, b6, b7, b8, b9⟩⟩ := h
  have hxl := hv.2.1
  have hyl := hy.2.1
  refine ⟨⟨⟨?_, fun r hr e => ?_, a3, fun hp => absurd rfl hp, a5, a6, fun e1 _ => ?_, fun e1 => ?_, fun e1 => ?_⟩, ⟨?_, b2, fun r hr e => ?_, b4, fun hp => absurd rfl hp, b6, fun _ e2 => ?_, fun e1 _ _ => ?_, fun _ e2 => ?_⟩⟩, fun q g => ⟨?_, fun e _ => ?_, g.c, g.d, fun _ e => ?_, fun _ e => ?_⟩, fun q g => ⟨g.a, g.b, ?_, g.d, g.w, g.s⟩⟩
  · dsimp only; omega
  · left
    rcases a2 r hr e with g | g
    · dsimp only; omega
    · have := g.1; dsimp only; omega
  · dsimp only at e1; omega
  · dsimp only at e1; omega
  · dsimp only at e1; omega
  · show 0 ≤ y.Life; omega
  · left
    rcases b3 r hr e with g | g
    · dsimp only; omega
    · have := g.1; dsimp only; omega
  · dsimp only at e2; omega
  · dsimp only at e1; omega
  · dsimp only at e2; omega
  · have := g.a; dsimp only; omega
  · have := g.a; dsimp only at e; omega
  · have := g.a; dsimp only at e; omega
  · have := g.a; dsimp only at e; omega
  · have := g.c; dsimp only; omega
/-! ### it is given a message -/
theorem stp_push (h : Two n x y Gi Ta) (hv : VEnd x) (hy : VEnd y) (hn : 1 ≤ n ∧ n ≤ 2) {t : ByteArray} (hc : (pushE x t).Code = 0) : Stp n x (pushE x t).End y Gi Ta (Gi ++ [⟨n, x.Life, x.Peer, t⟩]) Ta := by
  obtain ⟨f1, f2, f3⟩ := pushE_form hc
  have hS := hv.2.2.2.2.1
  have hm : (pushM x.Send t).1 = ⟨x.Send.Base, x.Send.Items ++ (cutM t).map newI⟩ := by
    unfold pushE at hc
    rw [if_pos hv, if_pos f2, if_neg f3] at hc
    unfold pushM at hc ⊢
    split
    · rename_i g; rw [if_pos g] at hc
      split
      · rfl
      · rename_i g2; rw [if_neg g2] at hc; simp at hc
    · rename_i g; rw [if_neg g] at hc; simp at hc
  rw [f1, hm]
  obtain ⟨⟨a1, a2, a3, a4, a5, a6, a7, a8, a9⟩, ⟨b1, b2, b3, b4, b5, b6, b7, b8, b9⟩⟩ := h
  have old : ∀ A B, ptsG (Gi ++ [⟨n, x.Life, x.Peer, t⟩]) (3 - n) A B = ptsG Gi (3 - n) A B := fun A B => by
    rw [ptsG_snoc, if_neg (by simp only [kf, DPair.mk.injEq]; omega), List.append_nil]
  have grow : ∀ A B, ∃ Q, ptsG (Gi ++ [⟨n, x.Life, x.Peer, t⟩]) n A B = ptsG Gi n A B ++ Q := fun A B => ⟨_, ptsG_snoc _ _ _ _ _⟩
  have new : ptsG (Gi ++ [⟨n, x.Life, x.Peer, t⟩]) n x.Life x.Peer = ptsG Gi n x.Life x.Peer ++ cutM t := by
    have e : (⟨n, x.Life, x.Peer⟩ : DPair) = kf ⟨n, x.Life, x.Peer, t⟩ := rfl
    rw [ptsG_snoc, if_pos e]
  have new? : ∀ (k : Nat) z, (x.Send.Items ++ (cutM t).map newI)[k]? = some z → x.Send.Items[k]? = some z ∨ (x.Send.Items.length ≤ k ∧ ¬ z.Has = true ∧ (cutM t)[k - x.Send.Items.length]? = some z.Part) := fun k z hz => by
    rw [List.getElem?_append] at hz
    split at hz
    · exact .inl hz
    · rename_i hlt
      rw [List.getElem?_map] at hz
      cases hh : (cutM t)[k - x.Send.Items.length]? with
      | none => rw [hh] at hz; cases hz
      | some p => rw [hh, Option.map_some] at hz; cases hz; exact .inr ⟨by omega, by simp [newI], rfl⟩
  have hg : ∀ r, r ∈ Gi ++ [(⟨n, x.Life, x.Peer, t⟩ : DRecord)] → r ∈ Gi ∨ r = ⟨n, x.Life, x.Peer, t⟩ := fun r hr => by simpa using hr
  have gd : ∀ i, (∀ A B, ∃ Q, ptsG (Gi ++ [⟨n, x.Life, x.Peer, t⟩]) i A B = ptsG Gi i A B ++ Q) → ∀ q : DPacket, (q.Kind = 2 → (ptsG Gi i q.Mine q.Yours)[q.Seq.toNat]? = some ⟨q.Part, q.Last⟩) → (q.Kind = 2 → (ptsG (Gi ++ [⟨n, x.Life, x.Peer, t⟩]) i q.Mine q.Yours)[q.Seq.toNat]? = some ⟨q.Part, q.Last⟩) := fun i hi q g hk => by
    obtain ⟨Q, e⟩ := hi q.Mine q.Yours
    have := g hk
    rw [e, List.getElem?_append_left (List.getElem?_eq_some_iff.mp this).1]; exact this
  refine ⟨⟨⟨a1, fun r hr e => ?_, a3, fun hp => ?_, fun hp => ?_, fun A B => ?_, fun e1 e2 => ?_, fun e1 e2 e3 => ?_, fun e1 e2 k z hz hh => ?_⟩, ⟨b1, fun r hr e => ?_, b3, fun hp => ?_, fun hp => ?_, fun A B => ?_, b7, b8, b9⟩⟩, fun q g0 => ⟨g0.a, g0.b, g0.c, gd n grow q g0.d, g0.w, fun k1 k2 k3 k4 k z hz hh => ?_⟩, fun q g => ⟨g.a, g.b, g.c, gd (3 - n) (fun A B => ⟨[], by rw [old]; simp⟩) q g.d, g.w, g.s⟩⟩
  · rcases hg r hr with hr | rfl
    · exact a2 r hr e
    · exact .inr ⟨rfl, fun _ => Int.le_refl _⟩
  · obtain ⟨c1, c2⟩ := a4 f3
    dsimp only
    rw [new]
    refine ⟨by simp only [List.length_append, List.length_map]; omega, fun k z hz => ?_⟩
    rcases new? k z hz with g | ⟨g1, g2, g3⟩
    · have := c2 k z g
      rw [List.getElem?_append_left (List.getElem?_eq_some_iff.mp this).1]; exact this
    · rw [List.getElem?_append_right (by omega), ← g3]; congr 1; omega
  · obtain ⟨Q, e⟩ := grow y.Peer y.Life
    rw [e]; exact (a5 hp).app Q
  · obtain ⟨m, hm⟩ := a6 A B
    rw [recsOf_snoc]
    split
    · exact ⟨m ++ [t], by rw [hm]; simp⟩
    · exact ⟨m, hm⟩
  · obtain ⟨c1, c2⟩ := a7 e1 e2
    refine ⟨c1, fun k z hz hh => ?_⟩
    rcases new? k z hz with g | ⟨_, g, _⟩
    · exact c2 k z g hh
    · exact absurd hh g
  · obtain ⟨c1, c2⟩ := a8 e1 e2 e3
    refine ⟨c1, fun k z hz hh => ?_⟩
    rcases new? k z hz with g | ⟨_, g, _⟩
    · exact c2 k z g hh
    · exact absurd hh g
  · obtain ⟨c1, c2⟩ := a4 f3
    rcases new? k z hz with g | ⟨g, _, _⟩
    · exact a9 e1 e2 k z g hh
    · have hp : y.Peer ≠ 0 := by have := hv.2.1; dsimp only at e2; omega
      have := had_lt (a5 hp) hh
      dsimp only at e1 e2 this
      rw [e2, ← e1] at this
      have := hS.2.1.1
      omega
  · rcases hg r hr with hr | rfl
    · exact b2 r hr e
    · dsimp only at e; omega
  · rw [old]; exact b4 hp
  · dsimp only; rw [old]; exact b5 hp
  · obtain ⟨m, hm⟩ := b6 A B
    rw [recsOf_snoc, if_neg (by simp only [kf, DPair.mk.injEq]; omega)]
    exact ⟨m, hm⟩
  · obtain ⟨c1, c2⟩ := a4 f3
    rcases new? k z hz with g | ⟨g, _, _⟩
    · exact g0.s k1 k2 k3 k4 k z g hh
    · have := g0.d k1
      dsimp only at k2 k4
      rw [k2, k4] at this
      have e1 : q.Seq.toNat < x.Send.Base.toNat + x.Send.Items.length := by rw [c1]; exact (List.getElem?_eq_some_iff.mp this).1
      have e2 := hS.2.1.1
      dsimp only at hh
      omega
/-! ### it is asked for a message -/
theorem stp_pull (h : Two n x y Gi Ta) (hv : VEnd x) (hy : VEnd y) (hn : 1 ≤ n ∧ n ≤ 2) (hgi : VRecs Gi) (hc : (pullE x).Code = 0) : Stp n x (pullE x).End y Gi Ta Gi (Ta ++ [⟨3 - n, x.Peer, x.Life, (pullE x).Text⟩]) := by
  obtain ⟨f1, f2, f3⟩ := pullE_form hc
  obtain ⟨_, _, hp0, _⟩ := pullE_V hv hc
  rw [f1]
  dsimp only
  obtain ⟨⟨a1, a2, a3, a4, a5, a6, a7, a8, a9⟩, ⟨b1, b2, b3, b4, b5, b6, b7, b8, b9⟩⟩ := h
  obtain ⟨t1, t2, t3⟩ := pull_all (b5 hp0) f3
  have old : ∀ A B, recsOf (Ta ++ [⟨3 - n, x.Peer, x.Life, (pullM x.Take).2.1⟩]) ⟨n, A, B⟩ = recsOf Ta ⟨n, A, B⟩ := fun A B => by
    rw [recsOf_snoc, if_neg (by simp only [kf, DPair.mk.injEq]; omega)]
  have hg : ∀ r, r ∈ Ta ++ [(⟨3 - n, x.Peer, x.Life, (pullM x.Take).2.1⟩ : DRecord)] → r ∈ Ta ∨ r = ⟨3 - n, x.Peer, x.Life, (pullM x.Take).2.1⟩ := fun r hr => by simpa using hr
  have new : recsOf (Ta ++ [⟨3 - n, x.Peer, x.Life, (pullM x.Take).2.1⟩]) ⟨3 - n, x.Peer, x.Life⟩ = recsOf Ta ⟨3 - n, x.Peer, x.Life⟩ ++ [(pullM x.Take).2.1] := by
    have e : (⟨3 - n, x.Peer, x.Life⟩ : DPair) = kf ⟨3 - n, x.Peer, x.Life, (pullM x.Take).2.1⟩ := rfl
    rw [recsOf_snoc, if_pos e]
  refine ⟨⟨⟨a1, a2, fun r hr e => ?_, a4, fun hp => ?_, fun A B => ?_, a7, a8, a9⟩, ⟨b1, b2, fun r hr e => ?_, b4, fun hp => ?_, fun A B => ?_, fun e1 e2 => ?_, b8, fun e1 e2 k z hz hh => b9 e1 e2 k z hz (pull_rev (b5 hp0).V _ hh)⟩⟩, fun q g => ⟨g.a, g.b, g.c, g.d, fun k1 k2 k3 k4 => ?_, g.s⟩, fun q g => ⟨g.a, g.b, g.c, g.d, g.w, g.s⟩⟩
  · rcases hg r hr with hr | rfl
    · exact a3 r hr e
    · dsimp only at e; omega
  · rw [old]; exact a5 hp
  · rw [old]; exact a6 A B
  · rcases hg r hr with hr | rfl
    · exact b3 r hr e
    · exact .inr ⟨rfl, fun _ => Int.le_refl _⟩
  · dsimp only; rw [new]; exact t1
  · by_cases e : A = x.Peer ∧ B = x.Life
    · obtain ⟨rfl, rfl⟩ := e
      rw [new]
      obtain ⟨m, hm⟩ := t1.pre (recs_join hgi (3 - n) x.Peer x.Life)
      exact ⟨(pullM x.Take).1.Ready ++ m, by rw [hm]; simp⟩
    · rw [recsOf_snoc, if_neg (by simp only [kf, DPair.mk.injEq]; omega)]
      exact b6 A B
  · obtain ⟨c1, c2⟩ := b7 e1 e2
    exact ⟨by dsimp only; omega, fun k z hz hz' => t3 _ (c2 k z hz hz')⟩
  · obtain ⟨c1, c2⟩ := g.w k1 k2 k3 k4
    exact ⟨by dsimp only; omega, fun k hk => t3 _ (c2 k hk)⟩
end
end Km.X
namespace Km.X
open Go Km
set_option linter.unusedVariables false
set_option linter.unusedSimpArgs false
/-! ### the world -/
def GenW (l : List DEnd) (Gi : List DRecord) (q : DPacket) : Prop := Gen q.From (endAt q.From l) (endAt (3 - q.From) l) Gi q
def Snt (l : List DEnd) (Gi : List DRecord) (K : ByteArray) (W : Int) (s : ByteArray) : Prop := ∃ q, Fits q ∧ s = formM q K W ∧ GenW l Gi q
structure WInv (w : DWorld) : Prop where
  two : ∀ n, 1 ≤ n ∧ n ≤ 2 → Dir n (endAt n w.Ends) (endAt (3 - n) w.Ends) w.Given w.Taken
  fl : ∀ p ∈ w.Flight, Snt w.Ends w.Given w.Key w.Width p.Sent
theorem three (n : Int) : 3 - (3 - n) = n := by omega
theorem WInv.pair {w : DWorld} (h : WInv w) {n : Int} (hn : 1 ≤ n ∧ n ≤ 2) : Two n (endAt n w.Ends) (endAt (3 - n) w.Ends) w.Given w.Taken := by
  refine ⟨h.two n hn, ?_⟩
  have := h.two (3 - n) (by omega)
  rwa [three] at this
theorem two_of {l : List DEnd} {Gi Ta : List DRecord} {n : Int} (hn : 1 ≤ n ∧ n ≤ 2) (h : Two n (endAt n l) (endAt (3 - n) l) Gi Ta) : ∀ m, 1 ≤ m ∧ m ≤ 2 → Dir m (endAt m l) (endAt (3 - m) l) Gi Ta := fun m hm => by
  by_cases e : m = n
  · subst e; exact h.1
  · have : m = 3 - n := by omega
    subst this
    rw [three]; exact h.2
theorem ends_step {l : List DEnd} (hl : VEnds l) {Gi Ta Gi' Ta' : List DRecord} {n : Int} (hn : 1 ≤ n ∧ n ≤ 2) {x' : DEnd} (s : Stp n (endAt n l) x' (endAt (3 - n) l) Gi Ta Gi' Ta') :
    (∀ m, 1 ≤ m ∧ m ≤ 2 → Dir m (endAt m (onEnd n x' l)) (endAt (3 - m) (onEnd n x' l)) Gi' Ta') ∧ ∀ q : DPacket, (1 ≤ q.From ∧ q.From ≤ 2) → GenW l Gi q → GenW (onEnd n x' l) Gi' q := by
  have e1 : endAt n (onEnd n x' l) = x' := by rw [endAt_on' hl hn hn, if_pos rfl]
  have e2 : endAt (3 - n) (onEnd n x' l) = endAt (3 - n) l := by rw [endAt_on' hl hn (by omega), if_neg (by omega)]
  refine ⟨two_of hn (by rw [e1, e2]; exact s.two), fun q hq q3 => ?_⟩
  unfold GenW at q3 ⊢
  by_cases e : q.From = n
  · rw [e] at q3 ⊢
    rw [e1, e2]
    exact s.mine q q3
  · have : q.From = 3 - n := by omega
    rw [this] at q3 ⊢
    rw [three] at q3 ⊢
    rw [e1, e2]
    exact s.yours q q3
theorem snt_step {l l' : List DEnd} {Gi Gi' : List DRecord} (h : ∀ q : DPacket, (1 ≤ q.From ∧ q.From ≤ 2) → GenW l Gi q → GenW l' Gi' q) {K : ByteArray} {W : Int} {b : ByteArray} (g : Snt l Gi K W b) : Snt l' Gi' K W b := by
  obtain ⟨q, q1, q2, q3⟩ := g
  exact ⟨q, q1, q2, h q q1.1 q3⟩
theorem step_end {w : DWorld} (hV : VWorld w) (h : WInv w) {n : Int} (hn : 1 ≤ n ∧ n ≤ 2) {x' : DEnd} {Gi' Ta' : List DRecord} (s : Stp n (endAt n w.Ends) x' (endAt (3 - n) w.Ends) w.Given w.Taken Gi' Ta') {fl' : List DParcel} (F' : ByteArray)
    (hfl : ∀ p ∈ fl', ∃ p0 ∈ w.Flight, p.Sent = p0.Sent) : WInv ⟨w.Key, w.Width, onEnd n x' w.Ends, fl', F', Gi', Ta'⟩ := by
  obtain ⟨a1, a2⟩ := ends_step hV.2.2.2.2.1 hn s
  refine ⟨a1, fun p hp => ?_⟩
  obtain ⟨p0, h0, e⟩ := hfl p hp
  rw [e]
  exact snt_step a2 (h.fl p0 h0)
theorem same_end {w : DWorld} (h : WInv w) {fl' : List DParcel} (hfl : ∀ p ∈ fl', ∃ p0 ∈ w.Flight, p.Sent = p0.Sent) : WInv (setFl w fl') := by
  refine ⟨h.two, fun p hp => ?_⟩
  obtain ⟨p0, h0, e⟩ := hfl p hp
  show Snt _ _ _ _ p.Sent
  rw [e]
  exact h.fl p0 h0
theorem onEnd_two {l : List DEnd} (h : VEnds l) (x y : DEnd) : onEnd 2 y (onEnd 1 x l) = [x, y] := by
  obtain ⟨e, f, rfl, _⟩ := vends_two h
  rfl
theorem mem_putM {b : ByteArray} {wd to : Int} {out : List DPacket} {fl : List DParcel} {p : DParcel} (h : p ∈ putM b wd to out fl) : p ∈ fl ∨ ∃ q ∈ out, p = parM b wd to q := by
  unfold putM at h
  rcases List.mem_append.mp h with h | h
  · exact .inl h
  · have := List.mem_of_mem_take h
    obtain ⟨q, hq, e⟩ := List.mem_map.mp this
    exact .inr ⟨q, hq, e.symm⟩
theorem tick_gen {w : DWorld} (hV : VWorld w) (hD : ∀ n, 1 ≤ n ∧ n ≤ 2 → Dir n (endAt n w.Ends) (endAt (3 - n) w.Ends) w.Given w.Taken) :
    (∀ n, 1 ≤ n ∧ n ≤ 2 → Dir n (endAt n (tickW w).Ends) (endAt (3 - n) (tickW w).Ends) w.Given w.Taken) ∧ (∀ q : DPacket, (1 ≤ q.From ∧ q.From ≤ 2) → GenW w.Ends w.Given q → GenW (tickW w).Ends w.Given q) ∧
    ∀ n, 1 ≤ n ∧ n ≤ 2 → ∀ q ∈ (tickE (endAt n w.Ends)).Out, GenW (tickW w).Ends w.Given q := by
  have hE := hV.2.2.2.2.1
  obtain ⟨v1, n1⟩ := endAt_V hE (n := 1) (by omega)
  obtain ⟨v2, n2⟩ := endAt_V hE (n := 2) (by omega)
  have t1 : Two 1 (endAt 1 w.Ends) (endAt 2 w.Ends) w.Given w.Taken := ⟨hD 1 (by omega), hD 2 (by omega)⟩
  have s1 := stp_tick t1 v1 v2
  have g1 := gen_tick t1 v1
  obtain ⟨a1, a2⟩ := ends_step hE (n := 1) (x' := (tickE (endAt 1 w.Ends)).End) (Gi := w.Given) (Ta := w.Taken) (Gi' := w.Given) (Ta' := w.Taken) (by omega) s1
  have hE1 : VEnds (onEnd 1 (tickE (endAt 1 w.Ends)).End w.Ends) := onEnd_V hE (by omega) (tickE_V v1) ((tickE_num v1).trans n1)
  have e1 : endAt 1 (onEnd 1 (tickE (endAt 1 w.Ends)).End w.Ends) = (tickE (endAt 1 w.Ends)).End := by rw [endAt_on' hE (by omega) (by omega), if_pos rfl]
  have e2 : endAt 2 (onEnd 1 (tickE (endAt 1 w.Ends)).End w.Ends) = endAt 2 w.Ends := by rw [endAt_on' hE (by omega) (by omega), if_neg (by omega)]
  have t2 : Two 2 (endAt 2 w.Ends) (tickE (endAt 1 w.Ends)).End w.Given w.Taken := ⟨s1.two.2, s1.two.1⟩
  have s2 := stp_tick t2 v2 (tickE_V v1)
  have g2 := gen_tick t2 v2
  obtain ⟨b1, b2⟩ := ends_step hE1 (n := 2) (x' := (tickE (endAt 2 w.Ends)).End) (Gi := w.Given) (Ta := w.Taken) (Gi' := w.Given) (Ta' := w.Taken) (by omega) (by
    rw [show (3 : Int) - 2 = 1 by omega, e1, e2]; exact s2)
  rw [onEnd_two hE] at b1 b2
  refine ⟨b1, fun q hq g => b2 q hq (a2 q hq g), fun n hn q hq => ?_⟩
  have : n = 1 ∨ n = 2 := by omega
  rcases this with rfl | rfl
  · have hf : q.From = 1 := by rw [(tickE_fits v1 q hq).2.1, n1]
    refine b2 q (by omega) ?_
    unfold GenW
    rw [hf, show (3 : Int) - 1 = 2 by omega, e1, e2]
    exact g1 q hq
  · have hf : q.From = 2 := by rw [(tickE_fits v2 q hq).2.1, n2]
    show GenW [(tickE (endAt 1 w.Ends)).End, (tickE (endAt 2 w.Ends)).End] w.Given q
    unfold GenW
    rw [hf, show (3 : Int) - 2 = 1 by omega]
    exact g2 q hq
theorem inv_tick {w : DWorld} (hV : VWorld w) (h : WInv w) : WInv (tickW w) := by
  have hE := hV.2.2.2.2.1
  obtain ⟨t1, t2, t3⟩ := tick_gen hV h.two
  refine ⟨t1, fun p hp => ?_⟩
  change p ∈ putM w.Key w.Width 1 (tickE (endAt 2 w.Ends)).Out (putM w.Key w.Width 2 (tickE (endAt 1 w.Ends)).Out w.Flight) at hp
  rcases mem_putM hp with hp | ⟨q, hq, rfl⟩
  · rcases mem_putM hp with hp | ⟨q, hq, rfl⟩
    · exact snt_step t2 (h.fl p hp)
    · exact ⟨q, (tickE_fits (endAt_V hE (n := 1) (by omega)).1 q hq).1, rfl, t3 1 (by omega) q hq⟩
  · exact ⟨q, (tickE_fits (endAt_V hE (n := 2) (by omega)).1 q hq).1, rfl, t3 2 (by omega) q hq⟩
/-! ### what is forged stays so -/
theorem read_pos {s b : ByteArray} {w : Int} (h : (readM s b w).2 = true) : s ≠ noB := fun e => by
  obtain ⟨_, _, h1, h2, _⟩ := readM_true h
  rw [e, noB_size] at h2; omega
theorem bring_forged {w : DWorld} {p : DParcel} (h : (bringW w p).Forged = noB) : w.Forged = noB ∧ ((readM p.Bytes w.Key w.Width).2 = true → p.Bytes = p.Sent) := by
  unfold bringW at h
  split at h
  · rename_i hr
    dsimp only at h
    split at h
    · exact absurd h (read_pos hr)
    · rename_i hc
      refine ⟨h, fun _ => ?_⟩
      by_cases e : p.Bytes = p.Sent
      · exact e
      · exact absurd ⟨e, h⟩ hc
  · rename_i hr
    exact ⟨h, fun g => absurd g hr⟩
theorem push_forged (w : DWorld) (n : Int) (t : ByteArray) : (pushW w n t).Forged = w.Forged := by unfold pushW; split <;> rfl
theorem pull_forged (w : DWorld) (n : Int) : (pullW w n).Forged = w.Forged := by unfold pullW; split <;> rfl
theorem inv_bring {w : DWorld} (hV : VWorld w) (h : WInv w) {p : DParcel} (hp : VPar p) (hs : Snt w.Ends w.Given w.Key w.Width p.Sent) (hf : (bringW w p).Forged = noB) : WInv (bringW w p) := by
  obtain ⟨_, hb⟩ := bring_forged hf
  unfold bringW
  split
  · rename_i hr
    have hb := hb hr
    obtain ⟨q, q1, q2, q3⟩ := hs
    have hw := hV.1
    have hk := hV.2.1
    have hq : readM p.Bytes w.Key w.Width = (q, true) := by rw [hb, q2]; exact read_form q1 hw hk
    rw [hq]
    have hE := hV.2.2.2.2.1
    obtain ⟨v1, n1⟩ := endAt_V hE hp.1
    obtain ⟨v2, n2⟩ := endAt_V hE (n := 3 - p.To) (by have := hp.1; omega)
    refine step_end hV h hp.1 (stp_takeE (h.pair hp.1) v1 v2 (by have := hV.2.2.2.1; omega) (fun _ hne => ?_)) _ (fun p0 h0 => ⟨p0, h0, rfl⟩)
    dsimp only at hne ⊢
    have hn1 := hp.1
    have hn2 := q1.1
    have : q.From = 3 - p.To := by omega
    unfold GenW at q3
    rw [this, three] at q3
    exact q3
  · exact h
theorem inv_pull {w : DWorld} (hV : VWorld w) (h : WInv w) {n : Int} (hn : 1 ≤ n ∧ n ≤ 2) : WInv (pullW w n) := by
  unfold pullW
  split
  · rename_i hc
    have hE := hV.2.2.2.2.1
    exact step_end hV h hn (stp_pull (h.pair hn) (endAt_V hE hn).1 (endAt_V hE (n := 3 - n) (by omega)).1 hn hV.2.2.2.2.2.2.1 hc.2) _ (fun p0 h0 => ⟨p0, h0, rfl⟩)
  · exact h
theorem inv_push {w : DWorld} (hV : VWorld w) (h : WInv w) {n : Int} (hn : 1 ≤ n ∧ n ≤ 2) (t : ByteArray) : WInv (pushW w n t) := by
  unfold pushW
  split
  · rename_i hc
    have hE := hV.2.2.2.2.1
    exact step_end hV h hn (stp_push (h.pair hn) (endAt_V hE hn).1 (endAt_V hE (n := 3 - n) (by omega)).1 hn hc.2) _ (fun p0 h0 => ⟨p0, h0, rfl⟩)
  · exact h
theorem forged_doW {w : DWorld} {v : DEvent} (h : (doW w v).Forged = noB) : w.Forged = noB := by
  unfold doW at h
  split at h
  · exact h
  split at h
  · split at h
    · split at h
      · unfold parDo at h
        split at h
        · exact (bring_forged h).1
        · repeat' split at h
          all_goals exact h
      · exact h
    · exact h
  split at h
  · unfold endDo at h
    split at h
    · exact h
    split at h
    · exact h
    split at h
    · rwa [push_forged] at h
    · rwa [pull_forged] at h
  · exact h
theorem inv_doW {w : DWorld} (hV : VWorld w) (h : WInv w) (v : DEvent) (hf : (doW w v).Forged = noB) : WInv (doW w v) := by
  have hE := hV.2.2.2.2.1
  unfold doW at hf ⊢
  split
  · exact inv_tick hV h
  rename_i k1
  rw [if_neg k1] at hf
  split
  · rename_i k2
    rw [if_pos k2] at hf
    split
    · rename_i k3
      rw [if_pos k3] at hf
      split
      · rename_i p hp
        rw [hp] at hf
        dsimp only at hf
        have hm := List.mem_of_getElem? hp
        have hvp := hV.2.2.2.2.2.1 p hm
        have mem : ∀ i (q : DParcel), q.Sent = p.Sent → ∀ p1 ∈ w.Flight.set i q, ∃ p0 ∈ w.Flight, p1.Sent = p0.Sent := fun i q e p1 h1 => by
          rcases List.mem_or_eq_of_mem_set h1 with h' | h'
          · exact ⟨p1, h', rfl⟩
          · exact ⟨p, hm, by rw [h', e]⟩
        have era : ∀ i, ∀ p1 ∈ w.Flight.eraseIdx i, ∃ p0 ∈ w.Flight, p1.Sent = p0.Sent := fun i p1 h1 => ⟨p1, List.mem_of_mem_eraseIdx h1, rfl⟩
        unfold parDo at hf ⊢
        split
        · rename_i k4
          rw [if_pos k4] at hf
          have hel : (w.Flight.eraseIdx v.A.toNat).length ≤ 1000 := by have := List.length_eraseIdx_le w.Flight v.A.toNat; have := hV.2.2.1; omega
          exact inv_bring (setFl_V hV hel (erase_V hV.2.2.2.2.2.1 _)) (same_end h (era _)) hvp (h.fl p hm) hf
        split
        · split
          · exact same_end h (fun p1 h1 => by
              rcases List.mem_append.mp h1 with h1 | h1
              · exact ⟨p1, h1, rfl⟩
              · simp only [List.mem_singleton] at h1; exact ⟨p, hm, by rw [h1]⟩)
          · exact h
        split
        · exact same_end h (era _)
        split
        · split
          · exact same_end h (mem _ _ rfl)
          · exact h
        split
        · split
          · exact same_end h (mem _ _ rfl)
          · exact h
        · exact same_end h (mem _ _ rfl)
      · exact h
    · exact h
  rename_i k2
  split
  · rename_i k3
    have hn := k3.2
    obtain ⟨v1, n1⟩ := endAt_V hE hn
    obtain ⟨v2, n2⟩ := endAt_V hE (n := 3 - v.A) (by omega)
    unfold endDo
    split
    · exact step_end hV h hn (stp_fall (h.pair hn) v1 v2) _ (fun p0 h0 => ⟨p0, h0, rfl⟩)
    split
    · exact step_end hV h hn (stp_rise (h.pair hn) v1 v2) _ (fun p0 h0 => ⟨p0, h0, rfl⟩)
    split
    · exact inv_push hV h hn _
    · exact inv_pull hV h hn
  · exact h
theorem inv_new {b : ByteArray} {wd : Int} (hb : b.size ≤ 30) (hw : 1 ≤ wd ∧ wd ≤ 8) : WInv (newW b wd) := by
  unfold newW
  rw [if_pos ⟨hw, hb⟩]
  have e : ∀ m, 1 ≤ m ∧ m ≤ 2 → endAt m [newM 1, newM 2] = newM m ∧ newM m = ⟨m, true, 1, 0, 0, false, noSend, noTake⟩ := fun m hm => by
    have : m = 1 ∨ m = 2 := by omega
    rcases this with rfl | rfl <;> exact ⟨rfl, rfl⟩
  refine ⟨fun n hn => ?_, fun p hp => by cases hp⟩
  dsimp only
  rw [(e n hn).1, (e (3 - n) (by omega)).1, (e n hn).2, (e (3 - n) (by omega)).2]
  exact ⟨(by show (0 : Int) ≤ 1; omega), fun r hr => (by cases hr), fun r hr => (by cases hr), fun h => absurd rfl h, fun h => absurd rfl h, fun A B => ⟨[], rfl⟩, fun h => (by cases h), fun h => (by cases h), fun h => (by cases h)⟩
theorem reach_inv {f s : Nat} {w : DWorld} (h : Reach f s w) (hf : w.Forged = noB) : WInv w := by
  induction h with
  | new h1 h2 => exact inv_new h1 h2
  | step v hw ih => exact inv_doW hw.V (ih (forged_doW hf)) v hf
  | more _ _ _ ih => exact ih hf
/-! ### right -/
theorem right_of (G : List DRecord) : ∀ (t pre : List DRecord), (∀ r ∈ t, ∃ m, recsOf G (kf r) = recsOf (pre ++ t) (kf r) ++ m) → rightL G pre t = true
  | [], pre, h => rfl
  | r :: t, pre, h => by
    simp only [rightL, Bool.and_eq_true, decide_eq_true_eq]
    refine ⟨?_, right_of G t (pre ++ [r]) (fun u hu => by
      obtain ⟨m, hm⟩ := h u (List.mem_cons_of_mem _ hu)
      exact ⟨m, by rw [hm]; simp⟩)⟩
    obtain ⟨m, hm⟩ := h r (List.mem_cons_self ..)
    rw [hm]
    have e : recsOf (pre ++ r :: t) (kf r) = recsOf pre (kf r) ++ r.Text :: recsOf t (kf r) := by
      have : recsOf (pre ++ r :: t) (kf r) = recsOf pre (kf r) ++ recsOf (r :: t) (kf r) := by unfold recsOf; rw [List.filter_append, List.map_append]
      rw [this, recsOf_cons, if_pos rfl]
    rw [e]
    simp
theorem inv_right {w : DWorld} (hV : VWorld w) (h : WInv w) : rightM w = true := by
  unfold rightM
  rw [decide_eq_true hV, Bool.true_and]
  refine right_of _ _ _ (fun r hr => ?_)
  have := (hV.2.2.2.2.2.2.2 r hr).1
  exact (h.two r.From this).rt r.A r.B
end Km.X
namespace Km.X
open Go Km
set_option linter.unusedVariables false
set_option linter.unusedSimpArgs false
/-! ### what only grows -/
structure MonE (x x' : DEnd) : Prop where
  life : x'.Life = x.Life
  up : x'.Up = x.Up
  peer : x.Peer ≤ x'.Peer
  base : x'.Peer = x.Peer → x.Send.Base ≤ x'.Send.Base ∧ x'.Send.Base + x'.Send.Items.length = x.Send.Base + x.Send.Items.length
  next : x'.Peer = x.Peer → x.Take.Next ≤ x'.Take.Next ∧ ∀ s, Had x.Take s → Had x'.Take s
theorem MonE.refl (x : DEnd) : MonE x x := ⟨rfl, rfl, Int.le_refl _, fun _ => ⟨Int.le_refl _, rfl⟩, fun _ => ⟨Int.le_refl _, fun _ h => h⟩⟩
theorem MonE.trans {x y z : DEnd} (h : MonE x y) (g : MonE y z) : MonE x z := by
  have h1 := h.peer
  have g1 := g.peer
  refine ⟨g.life.trans h.life, g.up.trans h.up, by omega, fun e => ?_, fun e => ?_⟩
  · obtain ⟨a, b⟩ := h.base (by omega)
    obtain ⟨c, d⟩ := g.base (by omega)
    exact ⟨by omega, by omega⟩
  · obtain ⟨a, b⟩ := h.next (by omega)
    obtain ⟨c, d⟩ := g.next (by omega)
    exact ⟨by omega, fun s hs => d s (b s hs)⟩
/-- but for a tick: times and what is sent are as they were -/
structure FrzE (x x' : DEnd) : Prop where
  since : x'.Since = x.Since
  items : x'.Peer = x.Peer → x'.Send.Base = x.Send.Base → ∀ (k : Nat) (z : DItem), x'.Send.Items[k]? = some z → ∃ u, x.Send.Items[k]? = some u ∧ z.Since = u.Since
theorem FrzE.refl (x : DEnd) : FrzE x x := ⟨rfl, fun _ _ k z hz => ⟨z, hz, rfl⟩⟩
theorem FrzE.trans {x y z : DEnd} (m1 : MonE x y) (m2 : MonE y z) (h : FrzE x y) (g : FrzE y z) : FrzE x z := by
  have h1 := m1.peer
  have g1 := m2.peer
  refine ⟨g.since.trans h.since, fun e b k u hu => ?_⟩
  have b1 := (m1.base (by omega)).1
  have b2 := (m2.base (by omega)).1
  obtain ⟨v, hv, e1⟩ := g.items (by omega) (by omega) k u hu
  obtain ⟨w, hw, e2⟩ := h.items (by omega) (by omega) k v hv
  exact ⟨w, hw, e1.trans e2⟩
theorem tick_mon {x : DEnd} (hv : VEnd x) : MonE x (tickE x).End := by
  obtain ⟨e1, e2, e3, e4, e5⟩ := tickE_same hv
  obtain ⟨g1, g2⟩ := tickS_base hv
  refine ⟨e1, e2, by omega, fun _ => ?_, fun _ => ?_⟩
  · rcases e5 with e | e <;> rw [e]
    · rw [g1, g2]; exact ⟨Int.le_refl _, rfl⟩
    · exact ⟨Int.le_refl _, rfl⟩
  · rw [e4]; exact ⟨Int.le_refl _, fun _ h => h⟩
theorem word_mon (s : DSend) (hS : VSend s) (n m : Int) : s.Base ≤ (wordM s n m).Base ∧ (wordM s n m).Base + (wordM s n m).Items.length = s.Base + s.Items.length ∧ ((wordM s n m).Base = s.Base → ∀ (k : Nat) (z : DItem), (wordM s n m).Items[k]? = some z → ∃ u, s.Items[k]? = some u ∧ z.Since = u.Since) := by
  unfold wordM
  rw [if_pos hS]
  have hfr := frontL_le s.Items
  split
  · rename_i hc
    refine ⟨hc.1, ?_, fun e k z hz => ?_⟩
    · dsimp only; rw [hasL_length, List.length_drop]; omega
    · dsimp only at e hz
      rw [e, Int.sub_self, Int.toNat_zero, List.drop_zero, hasL_get] at hz
      cases hu : s.Items[k]? with
      | none => rw [hu] at hz; cases hz
      | some u =>
        rw [hu, Option.map_some] at hz
        refine ⟨u, rfl, ?_⟩
        split at hz <;> (cases hz; rfl)
  · exact ⟨Int.le_refl _, rfl, fun _ k z hz => ⟨z, hz, rfl⟩⟩
theorem met_mon (x : DEnd) (p : DPacket) : MonE x (metE x p) ∧ FrzE x (metE x p) := by
  unfold metE
  split
  · rename_i h
    refine ⟨⟨rfl, rfl, by dsimp only; omega, fun e => ?_, fun e => ?_⟩, ⟨rfl, fun e => ?_⟩⟩ <;> (dsimp only at e; omega)
  · exact ⟨MonE.refl x, FrzE.refl x⟩
theorem body_mon {x : DEnd} (hv : VEnd x) {p : DPacket} (hf : Fits p) {P : List DPart} {g : List ByteArray} (hP : P.length ≤ 1000000) (ht : TInv P x.Take g) (hd : p.Kind = 2 → p.Yours = x.Life → P[p.Seq.toNat]? = some ⟨p.Part, p.Last⟩) :
    MonE x (bodyE x p).End ∧ FrzE x (bodyE x p).End := by
  unfold bodyE
  split
  · rename_i hl
    split
    · obtain ⟨a, b, c⟩ := word_mon x.Send hv.2.2.2.2.1 p.Next p.Mask
      exact ⟨⟨rfl, rfl, Int.le_refl _, fun _ => ⟨a, b⟩, fun _ => ⟨Int.le_refl _, fun _ h => h⟩⟩, ⟨rfl, fun _ e => c e⟩⟩
    · rename_i hk
      have hk2 : p.Kind = 2 ∧ (0 ≤ p.Seq ∧ p.Seq ≤ 999999) ∧ p.Part.size ≤ 20 := by
        rcases hf.2.2.2 with g | g
        · exact absurd g.1 hk
        · exact ⟨g.1, g.2.2.2.1, g.2.2.2.2⟩
      obtain ⟨t1, t2, t3, t4⟩ := part_all ht hk2.2.1.1 (hd hk2.1 hl) hk2.2.2 hP
      exact ⟨⟨rfl, rfl, Int.le_refl _, fun _ => ⟨Int.le_refl _, rfl⟩, fun _ => ⟨t2, t3⟩⟩, ⟨rfl, fun _ _ k z hz => ⟨z, hz, rfl⟩⟩⟩
  · exact ⟨⟨rfl, rfl, Int.le_refl _, fun _ => ⟨Int.le_refl _, rfl⟩, fun _ => ⟨Int.le_refl _, fun _ h => h⟩⟩, ⟨rfl, fun _ _ k z hz => ⟨z, hz, rfl⟩⟩⟩
theorem take_mon {n : Int} {x y : DEnd} {Gi Ta : List DRecord} (h : Two n x y Gi Ta) (hv : VEnd x) (hy : VEnd y) (hgl : Gi.length ≤ 400) {p : DPacket} (hg : x.Up = true → ¬ p.From = x.Number → Gen (3 - n) y x Gi p) : MonE x (takeE x p).End ∧ FrzE x (takeE x p).End := by
  unfold takeE
  rw [if_pos hv]
  split
  · rename_i hc
    obtain ⟨c1, c2, c3, c4⟩ := hc
    have hg := hg c1 c3
    have s1 := stp_met h hv hy c1 hg
    obtain ⟨v1, v2⟩ := metE_V hv c1 c2
    have hpe := metE_peer hv c2 c4
    have hp0 : (metE x p).Peer ≠ 0 := by have := c2.2.1; omega
    obtain ⟨m1, f1⟩ := met_mon x p
    obtain ⟨m2, f2⟩ := body_mon v1 c2 (by have := ptsG_len Gi (3 - n) (metE x p).Peer (metE x p).Life; omega) (s1.two.2.tk hp0) (fun hk hl => by
      have := hg.d hk
      rw [hl, ← hpe] at this; exact this)
    exact ⟨m1.trans m2, f1.trans m1 m2 f2⟩
  · exact ⟨MonE.refl x, FrzE.refl x⟩
theorem push_mon {x : DEnd} (hv : VEnd x) {t : ByteArray} (hc : (pushE x t).Code = 0) : (pushE x t).End.Send.Base = x.Send.Base ∧ (pushE x t).End.Take = x.Take := by
  obtain ⟨f1, f2, f3⟩ := pushE_form hc
  rw [f1]
  refine ⟨?_, rfl⟩
  unfold pushE at hc
  rw [if_pos hv, if_pos f2, if_neg f3] at hc
  dsimp only
  unfold pushM at hc ⊢
  split
  · rename_i g; rw [if_pos g] at hc
    split
    · rfl
    · rename_i g2; rw [if_neg g2] at hc; simp at hc
  · rename_i g; rw [if_neg g] at hc; simp at hc
theorem pull_mon {n : Int} {x y : DEnd} {Gi Ta : List DRecord} (h : Two n x y Gi Ta) (hv : VEnd x) (hc : (pullE x).Code = 0) : MonE x (pullE x).End ∧ FrzE x (pullE x).End := by
  obtain ⟨f1, f2, f3⟩ := pullE_form hc
  obtain ⟨_, _, hp0, _⟩ := pullE_V hv hc
  obtain ⟨t1, t2, t3⟩ := pull_all (h.2.tk hp0) f3
  rw [f1]
  exact ⟨⟨rfl, rfl, Int.le_refl _, fun _ => ⟨Int.le_refl _, rfl⟩, fun _ => ⟨t2, t3⟩⟩, ⟨rfl, fun _ _ k z hz => ⟨z, hz, rfl⟩⟩⟩
/-! ### neither becomes less (for two worlds, one event apart) -/
def Keeps (x x' : DEnd) : Prop := x.Up = true → x'.Up = true → x.Life = x'.Life → x.Peer = x'.Peer → x.Send.Base ≤ x'.Send.Base ∧ x.Take.Next ≤ x'.Take.Next
theorem MonE.keeps {x x' : DEnd} (h : MonE x x') : Keeps x x' := fun _ _ _ e => ⟨(h.base e.symm).1, (h.next e.symm).1⟩
theorem Keeps.refl (x : DEnd) : Keeps x x := fun _ _ _ _ => ⟨Int.le_refl _, Int.le_refl _⟩
theorem keeps_on {l : List DEnd} (hl : VEnds l) {n : Int} (hn : 1 ≤ n ∧ n ≤ 2) {x : DEnd} (hx : Keeps (endAt n l) x) : ∀ m, 1 ≤ m ∧ m ≤ 2 → Keeps (endAt m l) (endAt m (onEnd n x l)) := fun m hm => by
  rw [endAt_on' hl hn hm]
  split
  · rename_i e; rw [e]; exact hx
  · exact Keeps.refl _
theorem keeps_doW {w : DWorld} (hV : VWorld w) (h : WInv w) (v : DEvent) (hf : (doW w v).Forged = noB) : ∀ m, 1 ≤ m ∧ m ≤ 2 → Keeps (endAt m w.Ends) (endAt m (doW w v).Ends) := by
  have hE := hV.2.2.2.2.1
  have same : ∀ m : Int, 1 ≤ m ∧ m ≤ 2 → Keeps (endAt m w.Ends) (endAt m w.Ends) := fun m _ => Keeps.refl _
  unfold doW at hf ⊢
  split
  · intro m hm
    have hv := (endAt_V hE hm).1
    have ee : endAt m (tickW w).Ends = (tickE (endAt m w.Ends)).End := by
      have : m = 1 ∨ m = 2 := by omega
      rcases this with rfl | rfl <;> rfl
    rw [ee]
    exact (tick_mon hv).keeps
  rename_i k1
  rw [if_neg k1] at hf
  split
  · rename_i k2
    rw [if_pos k2] at hf
    split
    · rename_i k3
      rw [if_pos k3] at hf
      split
      · rename_i p hp
        rw [hp] at hf
        dsimp only at hf
        have hm := List.mem_of_getElem? hp
        have hvp := hV.2.2.2.2.2.1 p hm
        unfold parDo at hf ⊢
        split
        · rename_i k4
          rw [if_pos k4] at hf
          obtain ⟨_, hb⟩ := bring_forged hf
          unfold bringW
          split
          · rename_i hr
            have hb := hb hr
            obtain ⟨q, q1, q2, q3⟩ := h.fl p hm
            have hq : readM p.Bytes w.Key w.Width = (q, true) := by rw [hb, q2]; exact read_form q1 hV.1 hV.2.1
            obtain ⟨v1, n1⟩ := endAt_V hE hvp.1
            obtain ⟨v2, n2⟩ := endAt_V hE (n := 3 - p.To) (by have := hvp.1; omega)
            refine keeps_on hE hvp.1 (take_mon (h.pair hvp.1) v1 v2 (by have := hV.2.2.2.1; omega) (fun _ hne => ?_)).1.keeps
            change ¬ (readM p.Bytes w.Key w.Width).1.From = (endAt p.To w.Ends).Number at hne
            show Gen _ _ _ _ (readM p.Bytes w.Key w.Width).1
            rw [hq] at hne ⊢
            dsimp only at hne ⊢
            have hn1 := hvp.1
            have hn2 := q1.1
            have : q.From = 3 - p.To := by omega
            unfold GenW at q3
            rw [this, three] at q3
            exact q3
          · exact same
        · repeat' split
          all_goals exact same
      · exact same
    · exact same
  rename_i k2
  split
  · rename_i k3
    have hn := k3.2
    obtain ⟨v1, n1⟩ := endAt_V hE hn
    unfold endDo
    split
    · refine keeps_on hE hn (fun _ hu => ?_)
      unfold fallM at hu; rw [if_pos v1] at hu; cases hu
    split
    · refine keeps_on hE hn (fun hu _ => ?_)
      unfold riseM; rw [if_pos v1, if_pos hu]
      exact fun _ _ => ⟨Int.le_refl _, Int.le_refl _⟩
    split
    · unfold pushW
      split
      · rename_i hc
        refine keeps_on hE hn (fun _ _ _ _ => ?_)
        obtain ⟨e1, e2⟩ := push_mon v1 hc.2
        rw [e1, e2]; exact ⟨Int.le_refl _, Int.le_refl _⟩
      · exact same
    · unfold pullW
      split
      · rename_i hc
        exact keeps_on hE hn (pull_mon (h.pair hn) v1 hc.2).1.keeps
      · exact same
  · exact same
end Km.X
namespace Km.X
open Go Km
set_option linter.unusedVariables false
set_option linter.unusedSimpArgs false
/-! ### drawn events -/
def falls (L : List DEvent) : Nat := (L.filter (fun v => decide (v.Kind = 8))).length
theorem falls_app (L M : List DEvent) : falls (L ++ M) = falls L + falls M := by unfold falls; rw [List.filter_append, List.length_append]
def EvL (b f : Nat) (L : List DEvent) : Prop := L.length ≤ b ∧ falls L ≤ f
theorem dv17 (x0 x1 : Int) (Q : List DEvent → Prop) (r : DL1Rd) (n : Int) (hr : Rd n r) (hn : n ≤ 900000) (L : List DEvent) (hL : L.length ≤ 5000)
    (go : ∀ L' r', L'.length ≤ L.length + 2 → falls L' ≤ falls L → Rd (n + 1) r' → Wp (fun k => spec_DrawEvents_l6 k x0 x1 r'.b r'.p L') Q) : Wp (fun k => spec_DrawEvents_l17 k x0 x1 r.b r.p L) Q := by
  refine Wp.step ?_
  simp only [spec_DrawEvents_l17]
  refine Wp.pick hr (by omega) (by omega) (fun q r1 q0 q1 h1 => ?_)
  simp only [cbeq]
  refine Wp.ite (fun _ => ?_) (fun _ => go L r1 (by omega) (Nat.le_refl _) h1)
  refine Wp.opt (app_ok (by simp; omega)) ?_
  exact go _ r1 (by simp) (by rw [falls_app]; exact Nat.le_refl _) h1
theorem dv14 (x0 x1 x2 : Int) (Q : List DEvent → Prop) (b : List Int) (p : Int) : ∀ (d : Nat) (L : List DEvent), L.length + d ≤ 5000 →
    (∀ L', L'.length ≤ L.length + d → falls L' ≤ falls L → Wp (fun k => spec_DrawEvents_l10 k x0 x1 (IntKind.wrap .i64 (x2 - 1)) b p L') Q) → Wp (fun k => spec_DrawEvents_l14 k x0 x1 x2 (d : Int) b p L) Q
  | 0, L, hL, go => by
    refine Wp.step ?_
    simp only [spec_DrawEvents_l14]
    exact Wp.dec (fun g => by omega) (fun _ => go L (by omega) (Nat.le_refl _))
  | d + 1, L, hL, go => by
    refine Wp.step ?_
    simp only [spec_DrawEvents_l14]
    refine Wp.dec (fun _ => ?_) (fun g => by omega)
    refine Wp.opt (app_ok (by simp; omega)) ?_
    rw [w64' (n := ((d + 1 : Nat) : Int) - 1) (by omega) (by omega), show ((d + 1 : Nat) : Int) - 1 = (d : Int) by omega]
    refine dv14 x0 x1 x2 Q b p d _ (by simp; omega) (fun L' h1 h2 => go L' (by simp at h1; omega) ?_)
    rw [falls_app] at h2
    exact h2
theorem dv10 (x0 x1 : Int) (Q : List DEvent → Prop) (L0 : List DEvent) (n0 : Int) (hn0 : n0 ≤ 800000)
    (go : ∀ L' r', L'.length ≤ L0.length + 27 → falls L' ≤ falls L0 → Rd (n0 + 6) r' → Wp (fun k => spec_DrawEvents_l6 k x0 x1 r'.b r'.p L') Q) (hL0 : L0.length ≤ 4000) : ∀ (d : Nat) (L : List DEvent) (r : DL1Rd) (n : Int), d ≤ 5 → L.length + 5 * d ≤ L0.length + 25 → falls L ≤ falls L0 → Rd n r → n + d ≤ n0 + 5 →
    Wp (fun k => spec_DrawEvents_l10 k x0 x1 (d : Int) r.b r.p L) Q
  | 0, L, r, n, hd, hL, hf, hr, hn => by
    refine Wp.step ?_
    simp only [spec_DrawEvents_l10]
    refine Wp.dec (fun g => by omega) (fun _ => ?_)
    exact dv17 x0 x1 Q r n hr (by omega) L (by omega) (fun L' r' h1 h2 h3 => go L' r' (by omega) (by omega) (h3.mono (by omega)))
  | d + 1, L, r, n, hd, hL, hf, hr, hn => by
    refine Wp.step ?_
    simp only [spec_DrawEvents_l10]
    refine Wp.dec (fun _ => ?_) (fun g => by omega)
    refine Wp.opt (app_ok (by simp; omega)) ?_
    refine Wp.pick hr (by omega) (by omega) (fun q r1 q0 q1 h1 => ?_)
    dsimp only
    have := dv14 x0 x1 ((d + 1 : Nat) : Int) Q r1.b r1.p q.toNat (L ++ [⟨1, 0, 0, 0, (⟨#[]⟩ : ByteArray)⟩]) (by simp; omega) (fun L' h2 h3 => by
      rw [w64' (n := ((d + 1 : Nat) : Int) - 1) (by omega) (by omega), show ((d + 1 : Nat) : Int) - 1 = (d : Int) by omega]
      simp at h2
      rw [falls_app] at h3
      have h3 : falls L' ≤ falls L := h3
      exact dv10 x0 x1 Q L0 n0 hn0 go hL0 d L' r1 (n + 1) (by omega) (by omega) (by omega) h1 (by omega))
    rw [Int.toNat_of_nonneg q0] at this
    exact this
theorem dv5 (x0 : Int) (hx0 : x0 ≤ 59) : ∀ (d : Nat) (x1 : Int) (L : List DEvent) (r : DL1Rd) (n : Int), d = (x0 - x1).toNat → 0 ≤ x1 → Rd n r → 0 ≤ n → n + 100 * d ≤ 500000 → L.length + 28 * d ≤ 3000 →
    Wp (fun k => spec_DrawEvents_l5 k x0 x1 r.b r.p L) (EvL (L.length + 28 * d) (falls L + d))
  | 0, x1, L, r, n, hd, h0, hr, hn, hn', hL => by
    refine Wp.step ?_
    simp only [spec_DrawEvents_l5]
    exact Wp.dec (fun g => by omega) (fun _ => Wp.ret ⟨by omega, by omega⟩)
  | d + 1, x1, L, r, n, hd, h0, hr, hn, hn', hL => by
    refine Wp.step ?_
    simp only [spec_DrawEvents_l5]
    refine Wp.dec (fun _ => ?_) (fun g => by omega)
    refine Wp.bind (l7Event_ok r n hr (by omega)) ?_
    rintro ⟨v, r1⟩ ⟨hv, h1⟩
    dsimp only at hv h1 ⊢
    refine Wp.opt (app_ok (by simp; omega)) ?_
    have hf1 : falls (L ++ [v]) ≤ falls L + 1 := by
      rw [falls_app]
      have : falls [v] ≤ 1 := by unfold falls; have := List.length_filter_le (fun v : DEvent => decide (v.Kind = 8)) [v]; simpa using this
      omega
    have nx : ∀ L' r', L'.length ≤ L.length + 28 → falls L' ≤ falls L + 1 → Rd (n + 100) r' → Wp (fun k => spec_DrawEvents_l6 k x0 x1 r'.b r'.p L') (EvL (L.length + 28 * (d + 1)) (falls L + (d + 1))) := fun L' r' h2 h3 h4 => by
      refine Wp.step ?_
      simp only [spec_DrawEvents_l6]
      rw [w64' (n := x1 + 1) (by omega) (by omega)]
      refine (dv5 x0 hx0 d (x1 + 1) L' r' (n + 100) (by omega) (by omega) h4 (by omega) (by omega) (by omega)).mono fun v hv => ⟨by have := hv.1; omega, by have := hv.2; omega⟩
    refine Wp.pick h1 (by omega) (by omega) (fun q r2 q0 q1 h2 => ?_)
    simp only [cbeq]
    have hLl : (L ++ [v]).length = L.length + 1 := by simp
    refine Wp.ite (fun _ => ?_) (fun _ => ?_)
    · refine Wp.pick h2 (by omega) (by omega) (fun q r3 q0 q1 h3 => ?_)
      dsimp only
      have := dv10 x0 x1 _ (L ++ [v]) (n + 52) (by omega) (fun L' r' g1 g2 g3 => nx L' r' (by omega) (by omega) (g3.mono (by omega))) (by omega) q.toNat (L ++ [v]) r3 (n + 52) (by omega) (by omega) (Nat.le_refl _) (h3.mono (by omega)) (by omega)
      rw [Int.toNat_of_nonneg q0] at this
      exact this
    · exact dv17 x0 x1 _ r2 _ h2 (by omega) _ (by omega) (fun L' r' g1 g2 g3 => nx L' r' (by omega) (by omega) (g3.mono (by omega)))
theorem drawEvents_ok (a : List Int) (h : ∀ y ∈ a, wf_byte y) : Wp (fun k => spec_DrawEvents k a) (EvL 2000 59) := by
  unfold spec_DrawEvents
  refine Wp.bind (open_ok a h) (fun r h0 => ?_)
  refine Wp.pick h0 (by omega) (by omega) (fun q r1 q0 q1 h1 => ?_)
  dsimp only
  rw [w64' (n := 10 + q) (by omega) (by omega)]
  refine (dv5 (10 + q) (by omega) (10 + q).toNat 0 [] r1 1 (by omega) (by omega) (h1.mono (by omega)) (by omega) (by omega) (by simp; omega)).mono fun v hv => ⟨?_, ?_⟩
  · have := hv.1; simp at this; omega
  · have := hv.2; change _ ≤ 0 + _ at this; omega
end Km.X
namespace Km.X
open Go Km
set_option linter.unusedVariables false
set_option linter.unusedSimpArgs false
def forgeM (w : DWorld) (v : DEvent) : Bool := if v.Kind = 2 ∧ 0 ≤ v.A then (match w.Flight[v.A.toNat]? with | some p => decide (¬ p.Bytes = p.Sent) && (readM p.Bytes w.Key w.Width).2 | none => false) else false
theorem wForgery_ok (w : DWorld) (h : VWorld w) (v : DEvent) : Wp (fun k => laws_wForgery k w v) (· = forgeM w v) := by
  unfold laws_wForgery forgeM
  simp only [cbne, cbdec, cbseq]
  refine Wp.ite (fun h1 => ?_) (fun h1 => Wp.ret (by rw [if_neg (fun g => h1 g.1)]))
  refine Wp.ite (fun h2 => Wp.ret (by rw [if_neg (fun g => by have := g.2; omega)])) (fun h2 => ?_)
  rw [if_pos ⟨h1, by omega⟩]
  refine Wp.ite (fun h3 => Wp.ret (by rw [List.getElem?_eq_none (by omega)])) (fun h3 => ?_)
  have hlt : v.A.toNat < w.Flight.length := by omega
  have e2 : w.Flight[v.A.toNat]? = some w.Flight[v.A.toNat] := List.getElem?_eq_getElem hlt
  have e1 : idx w.Flight v.A = some w.Flight[v.A.toNat] := by
    have := idx_at hlt
    rwa [Int.toNat_of_nonneg (by omega)] at this
  have hp := h.2.2.2.2.2.1 _ (List.getElem_mem hlt)
  simp only [e1, e2, Option.bind_some]
  refine Wp.ite (fun h4 => Wp.ret (by simp [h4])) (fun h4 => ?_)
  refine Wp.bind (specRead_ok _ _ _ (by have := hp.2.2; omega)) (fun _ q => ?_); subst q
  exact Wp.ret (by simp [h4])
theorem forge_no {w : DWorld} {v : DEvent} (hf : w.Forged = noB) (h : forgeM w v = false) : (doW w v).Forged = noB := by
  unfold doW
  split
  · exact hf
  split
  · split
    · split
      · rename_i h1 h2 h3 _ p hp
        unfold parDo
        split
        · rename_i h4
          unfold forgeM at h
          rw [if_pos ⟨h4, h3⟩, hp] at h
          simp only [Bool.and_eq_false_iff, decide_eq_false_iff_not, Decidable.not_not] at h
          unfold bringW
          split
          · rename_i hr
            dsimp only
            rw [if_neg]
            · exact hf
            · rintro ⟨g1, g2⟩
              rcases h with h | h
              · exact g1 h
              · change (readM p.Bytes w.Key w.Width).2 = true at hr
                rw [h] at hr; cases hr
          · exact hf
        · repeat' split
          all_goals exact hf
      · exact hf
    · exact hf
  split
  · unfold endDo
    repeat' split
    all_goals first | exact hf | (rw [push_forged]; exact hf) | (rw [pull_forged]; exact hf)
  · exact hf
theorem safe14 (x0 : Int) (K : ByteArray) (W : Int) (Fo : ByteArray) (L : List DEvent) (K' : ByteArray) (W' : Int) (Fo' : ByteArray) (E : List DEnd) (F : List DParcel) (G T : List DRecord) (E' : List DEnd) (F' : List DParcel) (G' T' : List DRecord)
    (x1 : Int) (h01 : x1 = 0 ∨ x1 = 1) (a b o : DEnd) (i1 : idx E' x1 = some a) (i2 : idx E' (1 - x1) = some b) (i3 : idx E x1 = some o) (g1 : E'[x1.toNat]? = some a) (g2 : E'[(1 - x1).toNat]? = some b) (g3 : E[x1.toNat]? = some o)
    (c1 : a.Up = true → b.Up = true → a.Peer = b.Life → b.Peer = a.Life → a.Send.Base ≤ b.Take.Next) (c2 : Keeps o a)
    (nx : Wp (fun k => laws_FnSafe_l14 k x0 (x1 + 1) K W Fo L K' W' Fo' E F G T E' F' G' T') (· = true)) :
    Wp (fun k => laws_FnSafe_l14 k x0 x1 K W Fo L K' W' Fo' E F G T E' F' G' T') (· = true) := by
  refine Wp.step ?_
  simp only [laws_FnSafe_l14]
  rw [w64' (n := 1 - x1) (by omega) (by omega), w64' (n := x1 + 1) (by omega) (by omega)]
  refine Wp.dec (fun _ => ?_) (fun g => by omega)
  simp only [i1, i2, i3, g1, g2, g3, Option.bind_some, cbeq, cbdec]
  unfold Keeps at c2
  repeat' (first
    | exact nx
    | refine Wp.bif (fun _ => ?_) (fun _ => ?_)
    | refine Wp.ite (fun _ => ?_) (fun _ => ?_))
  all_goals first
    | (exfalso; have := c1 (by assumption) (by assumption) (by assumption) (by assumption); omega)
    | (exfalso; have := c2 (by assumption) (by assumption) (by assumption) (by assumption); omega)
theorem safe6 (L : List DEvent) : ∀ (d : Nat) (x0 : Int) (w : DWorld), d = (60 - x0).toNat → 0 ≤ x0 → VWorld w → (w.Forged = noB → WInv w) →
    Wp (fun k => laws_FnSafe_l6 k x0 w.Key w.Width w.Forged L w.Ends w.Flight w.Given w.Taken) (· = true)
  | d, x0, w, hd, h0, hV, hI => by
    have done : Wp (fun k => (spec_ValidWorld k (⟨w.Key, w.Width, w.Ends, w.Flight, w.Forged, w.Given, w.Taken⟩ : DWorld)).bind fun r => some r) (· = true) := by
      refine Wp.bind (specValidWorld_ok w (vw_hist hV)) (fun _ e => ?_); subst e
      exact Wp.ret (decide_eq_true hV)
    refine Wp.step ?_
    simp only [laws_FnSafe_l6, cbdec, cbnot, cbseq]
    refine Wp.ite (fun h1 => ?_) (fun _ => done)
    refine Wp.ite (fun h2 => ?_) (fun _ => done)
    refine Wp.ite (fun hf => ?_) (fun _ => Wp.ret rfl)
    have hlt : x0.toNat < L.length := by omega
    have e2 : L[x0.toNat]? = some L[x0.toNat] := List.getElem?_eq_getElem hlt
    have e1 : idx L x0 = some L[x0.toNat] := by
      have := idx_at hlt
      rwa [Int.toNat_of_nonneg (by omega)] at this
    simp only [e1, e2, Option.bind_some]
    generalize L[x0.toNat] = v at e1 e2
    refine Wp.bind (wForgery_ok w hV v) (fun _ q => ?_); subst q
    refine Wp.bif (fun _ => Wp.ret rfl) (fun hg => ?_)
    have hf' : w.Forged = noB := hf
    have hx1 := doW_V hV v
    have hx2 := forge_no hf' hg
    have hI1 := hI hf'
    have hx3 := inv_doW hV hI1 v hx2
    simp only [both_self]
    refine Wp.bind (implDo_ok w (vw_hist hV) v) (fun x hx => ?_)
    have hx : x = doW w v := by rw [hx]; unfold doM; rw [if_pos hV]
    subst hx
    have hr := inv_right hx1 hx3
    obtain ⟨a, b, hab, va, na, vb, nb⟩ := vends_two hx1.2.2.2.2.1
    obtain ⟨oa, ob, hob, _⟩ := vends_two hV.2.2.2.2.1
    have hk := keeps_doW hV hI1 v hx2
    have hk1 := hk 1 (by omega)
    have hk2 := hk 2 (by omega)
    have hd1 := (hx3.two 1 (by omega)).p1
    have hd2 := (hx3.two 2 (by omega)).p1
    simp only [cbne]
    refine Wp.ite (fun _ => ?_) (fun g => absurd (by rw [hab]; rfl) g)
    refine Wp.bind (implRight_ok _ (vw_hist hx1)) (fun _ e => ?_); subst e
    rw [hr]
    simp only [cond_true]
    refine Wp.bind (specRight_ok _ (vw_hist hx1)) (fun _ e => ?_); subst e
    rw [hr]
    simp only [cond_true]
    rw [hab, hob] at hk1 hk2
    rw [hab] at hd1 hd2
    have fin : Wp (fun k => laws_FnSafe_l14 k x0 2 w.Key w.Width w.Forged L (doW w v).Key (doW w v).Width (doW w v).Forged w.Ends w.Flight w.Given w.Taken (doW w v).Ends (doW w v).Flight (doW w v).Given (doW w v).Taken) (· = true) := by
      refine Wp.step ?_
      simp only [laws_FnSafe_l14]
      refine Wp.dec (fun g => by omega) (fun _ => ?_)
      rw [w64' (n := x0 + 1) (by omega) (by omega)]
      match d, hd with
      | 0, hd => omega
      | d + 1, hd => exact safe6 L d (x0 + 1) (doW w v) (by omega) (by omega) hx1 (fun _ => hx3)
    refine safe14 x0 _ _ _ L _ _ _ _ _ _ _ _ _ _ _ 0 (.inl rfl) a b oa (by rw [hab]; rfl) (by rw [hab]; rfl) (by rw [hob]; rfl) (by rw [hab]; rfl) (by rw [hab]; rfl) (by rw [hob]; rfl) (fun _ _ e1 e2 => (hd1 e1 e2).1) hk1 ?_
    refine safe14 x0 _ _ _ L _ _ _ _ _ _ _ _ _ _ _ 1 (.inr rfl) b a ob (by rw [hab]; rfl) (by rw [hab]; rfl) (by rw [hob]; rfl) (by rw [hab]; rfl) (by rw [hab]; rfl) (by rw [hob]; rfl) (fun _ _ e1 e2 => (hd2 e1 e2).1) hk2 fin
theorem exact_FnSafe (a b : List Int) (h0 : a.length ≤ maxLen ∧ ∀ y ∈ a, wf_byte y) (h1 : b.length ≤ maxLen ∧ ∀ y ∈ b, wf_byte y) : ∃ k, laws_FnSafe k a b = some true := by
  refine Wp.exists ?_
  unfold laws_FnSafe
  refine Wp.dec (fun _ => Wp.ret rfl) (fun _ => ?_)
  refine Wp.dec (fun _ => Wp.ret rfl) (fun _ => ?_)
  refine Wp.bind (drawReached_ok a h0.2) (fun w hw => ?_)
  refine Wp.bind (drawEvents_ok b h1.2) (fun L _ => ?_)
  exact safe6 L 60 0 w (by omega) (by omega) hw.V (reach_inv hw)
end Km.X
