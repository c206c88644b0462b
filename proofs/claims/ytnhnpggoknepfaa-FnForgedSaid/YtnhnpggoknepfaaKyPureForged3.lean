/- A part of the proof of FnForged: plain laws of these functions. There is no condition. -/
import Derived.Test.YtnhnpggoknepfaaKyPureForged1
import Derived.Test.YtnhnpggoknepfaaKyPureForged2
import Derived.Test.YtnhnpggoknepfaaKxDef2
namespace Km.X
open Go Km
set_option linter.unusedVariables false
set_option linter.unusedSimpArgs false
/-! ### what a take has, in terms of Join -/
theorem joinL_append : ∀ (ps qs : List DPart) (o : ByteArray) (out g : List ByteArray) (o' : ByteArray), joinL ps o out = (g, o', true) → joinL (ps ++ qs) o out = joinL qs o' g
  | [], qs, o, out, g, o', h => by
    simp only [joinL, Prod.mk.injEq] at h
    obtain ⟨rfl, rfl, _⟩ := h; rfl
  | p :: ps, qs, o, out, g, o', h => by
    simp only [joinL, List.cons_append] at h ⊢
    split at h
    · simp only [Prod.mk.injEq] at h; exact absurd h.2.2 (by simp)
    · rename_i h1
      rw [if_neg h1]
      split at h
      · rename_i h2; rw [if_pos h2]; exact joinL_append ps qs _ _ _ _ h
      · rename_i h2; rw [if_neg h2]; exact joinL_append ps qs _ _ _ _ h
theorem joinL_out : ∀ (ps : List DPart) (o : ByteArray) (out g : List ByteArray) (o' : ByteArray), joinL ps o out = (g, o', true) → ∃ m, g = out ++ m
  | [], o, out, g, o', h => by
    simp only [joinL, Prod.mk.injEq] at h
    exact ⟨[], by rw [← h.1]; simp⟩
  | p :: ps, o, out, g, o', h => by
    simp only [joinL] at h
    split at h
    · simp only [Prod.mk.injEq] at h; exact absurd h.2.2 (by simp)
    · split at h
      · obtain ⟨m, hm⟩ := joinL_out ps _ _ _ _ h
        exact ⟨[o ++ p.Text] ++ m, by rw [hm]; simp⟩
      · exact joinL_out ps _ _ _ _ h
structure TInv (P : List DPart) (t : DTake) (g : List ByteArray) : Prop where
  V : VTake t
  M : ∀ x ∈ t.Held, 0 ≤ x.Seq ∧ P[x.Seq.toNat]? = some x.Part
  N : t.Next ≤ P.length
  J : joinL (P.take t.Next.toNat) noB [] = (g ++ t.Ready, t.Open, true)
theorem TInv.len {P : List DPart} {t : DTake} {g : List ByteArray} (h : TInv P t g) (hP : P.length ≤ 1000) : g.length + t.Ready.length ≤ 1000 := by
  have := (joinL_sm (P.take t.Next.toNat) noB [] (by simp [noB_size]) (fun y hy => by simp at hy)).1
  rw [h.J] at this
  simp only [List.length_append, List.length_nil, List.length_take] at this
  omega
/-- a beginning of the messages -/
theorem TInv.pre {P : List DPart} {t : DTake} {g : List ByteArray} (h : TInv P t g) {T : List ByteArray} {ot : ByteArray} (hT : joinL P noB [] = (T, ot, true)) : ∃ m, T = (g ++ t.Ready) ++ m := by
  have := joinL_append _ (P.drop t.Next.toNat) _ _ _ _ h.J
  rw [List.take_append_drop, hT] at this
  exact joinL_out _ _ _ _ _ this.symm
/-- the next part goes, but for a full row of messages -/
theorem joinL_head {p : DPart} {ps : List DPart} {o : ByteArray} {out : List ByteArray} {T : List ByteArray} {ot : ByteArray} (h : joinL (p :: ps) o out = (T, ot, true)) : p.Text.size ≤ 20 ∧ o.size + p.Text.size ≤ 200 := by
  simp only [joinL] at h
  split at h
  · simp only [Prod.mk.injEq] at h; exact absurd h.2.2 (by simp)
  · omega
theorem TInv.fit {P : List DPart} {t : DTake} {g : List ByteArray} (h : TInv P t g) {T : List ByteArray} {ot : ByteArray} (hT : joinL P noB [] = (T, ot, true)) {p : DPart} (hp : P[t.Next.toNat]? = some p) : t.Open.size + p.Text.size ≤ 200 := by
  have := joinL_append _ (P.drop t.Next.toNat) _ _ _ _ h.J
  rw [List.take_append_drop, hT] at this
  obtain ⟨hlt, e⟩ := List.getElem?_eq_some_iff.mp hp
  rw [List.drop_eq_getElem_cons hlt, e] at this
  exact (joinL_head this.symm).2
end Km.X
namespace Km.X
open Go Km
set_option linter.unusedVariables false
set_option linter.unusedSimpArgs false
theorem wTake_loop (n : Int) (o : ByteArray) (r : List ByteArray) : ∀ (t pre : List DHeld), (pre ++ t).length ≤ 1000 → Wp (fun k => laws_wTake_l4 k (pre.length : Int) n (pre ++ t) o r n (pre ++ t) o r) (· = true)
  | [], pre, hl => by
    refine Wp.step ?_
    simp only [laws_wTake_l4, List.append_nil]
    have hn' : ¬ (pre.length : Int) < (pre.length : Int) := by omega
    simp only [cbdec, if_neg hn']
    exact Wp.ret rfl
  | x :: t, pre, hl => by
    refine Wp.step ?_
    have hl' := hl
    simp only [List.length_append, List.length_cons] at hl
    simp only [laws_wTake_l4]
    simp only [cbdec, lt_mid, if_true, idx_mid, Option.bind_some, beq_self_eq_true, Bool.and_self, Bool.not_true, cond_false]
    rw [w64' (by omega) (by omega)]
    have ih := wTake_loop n o r t (pre ++ [x]) (by simpa using hl')
    rw [← mid_succ, ← mid_len] at ih
    exact ih
theorem wTake_ok (t : DTake) (h : VTake t) : Wp (fun k => laws_wTake k t t) (· = true) := by
  unfold laws_wTake
  simp only [cbne, if_true, cbnot, cbseq]
  refine Wp.bind (wTexts_ok _ (by have := h.2.2.2.1; omega)) (fun _ q => ?_); subst q
  simp only [cond_true]
  exact wTake_loop _ _ _ t.Held [] (by have := h.2.1; simp; omega)
section
variable {P : List DPart} {T : List ByteArray} {ot : ByteArray} (hT : joinL P noB [] = (T, ot, true)) (hP : P.length ≤ 60)
include hT hP
end
end Km.X
namespace Km.X
open Go Km
set_option linter.unusedVariables false
set_option linter.unusedSimpArgs false
theorem wSend_loop (b : Int) : ∀ (t pre : List DItem), (pre ++ t).length ≤ 1000 → Wp (fun k => laws_wSend_l4 k (pre.length : Int) b (pre ++ t) b (pre ++ t)) (· = true)
  | [], pre, hl => by
    refine Wp.step ?_
    simp only [laws_wSend_l4, List.append_nil]
    have hn' : ¬ (pre.length : Int) < (pre.length : Int) := by omega
    simp only [cbdec, if_neg hn']
    exact Wp.ret rfl
  | x :: t, pre, hl => by
    refine Wp.step ?_
    have hl' := hl
    simp only [List.length_append, List.length_cons] at hl
    simp only [laws_wSend_l4]
    simp only [cbdec, lt_mid, if_true, idx_mid, Option.bind_some, beq_self_eq_true, Bool.and_self, Bool.not_true, cond_false]
    rw [w64' (by omega) (by omega)]
    have ih := wSend_loop b t (pre ++ [x]) (by simpa using hl')
    rw [← mid_succ, ← mid_len] at ih
    exact ih
theorem wSend_ok (s : DSend) (h : VSend s) : Wp (fun k => laws_wSend k s s) (· = true) := by
  unfold laws_wSend
  simp only [cbne, if_true]
  exact wSend_loop s.Base s.Items [] (by have := h.1; show s.Items.length ≤ 1000; omega)
end Km.X
namespace Km.X
open Go Km
set_option linter.unusedVariables false
set_option linter.unusedSimpArgs false
/-! ### a valid world is itself -/
theorem wEnd_ok (e : DEnd) (h : VEnd e) : Wp (fun k => laws_wEnd k e e) (· = true) := by
  unfold laws_wEnd
  simp only [cbeq, cbbeq, if_true]
  refine Wp.bind (wSend_ok _ h.2.2.2.2.1) (fun _ q => ?_); subst q
  simp only [cond_true]
  refine Wp.bind (wTake_ok _ h.2.2.2.2.2.1) (fun _ q => ?_); subst q
  exact Wp.ret rfl
theorem wRecords_loop : ∀ (t pre : List DRecord), (pre ++ t).length ≤ 1000 → Wp (fun k => laws_wRecords_l4 k (pre ++ t) (pre ++ t) (pre.length : Int)) (· = true)
  | [], pre, hl => by
    refine Wp.step ?_
    simp only [laws_wRecords_l4, List.append_nil]
    exact Wp.dec (fun g => by omega) (fun _ => Wp.ret rfl)
  | x :: t, pre, hl => by
    have hl' := hl
    simp only [List.length_append, List.length_cons] at hl
    refine Wp.step ?_
    simp only [laws_wRecords_l4]
    refine Wp.dec (fun _ => ?_) (fun g => absurd (by simp; omega) g)
    simp only [idx_mid, Option.bind_some, beq_self_eq_true, Bool.and_self, Bool.not_true, cond_false]
    rw [w64' (by omega) (by omega)]
    have := wRecords_loop t (pre ++ [x]) (by simpa using hl')
    simpa using this
theorem wRecords_ok (l : List DRecord) (h : l.length ≤ 1000) : Wp (fun k => laws_wRecords k l l) (· = true) := by
  unfold laws_wRecords
  simp only [cbne, if_true]
  exact wRecords_loop l [] (by simpa using h)
theorem wW9 (K Fo : ByteArray) (W : Int) (Es : List DEnd) (Gi Ta : List DRecord) : ∀ (t pre : List DParcel), (pre ++ t).length ≤ 2000 → Wp (fun k => laws_wWorld_l9 k (pre.length : Int) K W Es (pre ++ t) Fo Gi Ta K W Es (pre ++ t) Fo Gi Ta) (· = true)
  | [], pre, hl => by
    refine Wp.step ?_
    simp only [laws_wWorld_l9, List.append_nil]
    exact Wp.dec (fun g => by omega) (fun _ => Wp.ret rfl)
  | x :: t, pre, hl => by
    have hl' := hl
    simp only [List.length_append, List.length_cons] at hl
    refine Wp.step ?_
    simp only [laws_wWorld_l9]
    refine Wp.dec (fun _ => ?_) (fun g => absurd (by simp; omega) g)
    simp only [idx_mid, Option.bind_some, beq_self_eq_true, Bool.and_self, Bool.not_true, cond_false]
    rw [w64' (by omega) (by omega)]
    have := wW9 K Fo W Es Gi Ta t (pre ++ [x]) (by simpa using hl')
    simpa using this
theorem wW4 (K Fo : ByteArray) (W : Int) (Fl : List DParcel) (Gi Ta : List DRecord) (hF : Fl.length ≤ 2000) : ∀ (t pre : List DEnd), (pre ++ t).length ≤ 1000 → (∀ e ∈ t, VEnd e) → Wp (fun k => laws_wWorld_l4 k (pre.length : Int) K W (pre ++ t) Fl Fo Gi Ta K W (pre ++ t) Fl Fo Gi Ta) (· = true)
  | [], pre, hl, hv => by
    refine Wp.step ?_
    simp only [laws_wWorld_l4, List.append_nil]
    exact Wp.dec (fun g => by omega) (fun _ => wW9 K Fo W pre Gi Ta Fl [] (by simpa using hF))
  | x :: t, pre, hl, hv => by
    have hl' := hl
    simp only [List.length_append, List.length_cons] at hl
    refine Wp.step ?_
    simp only [laws_wWorld_l4]
    refine Wp.dec (fun _ => ?_) (fun g => absurd (by simp; omega) g)
    simp only [idx_mid, Option.bind_some]
    refine Wp.bind (wEnd_ok x (hv x (by simp))) (fun _ q => ?_); subst q
    simp only [Bool.not_true, cond_false]
    rw [w64' (by omega) (by omega)]
    have := wW4 K Fo W Fl Gi Ta hF t (pre ++ [x]) (by simpa using hl') (fun e he => hv e (by simp [he]))
    simpa using this
theorem wWorld_ok (w : DWorld) (h : VWorld w ∨ w = noWorld) : Wp (fun k => laws_wWorld k w w) (· = true) := by
  have hs : (w.Given.length ≤ 1000 ∧ w.Taken.length ≤ 1000) ∧ w.Flight.length ≤ 2000 ∧ w.Ends.length ≤ 1000 ∧ ∀ e ∈ w.Ends, VEnd e := by
    rcases h with h | rfl
    · have h4 := h.2.2.2.1
      have h3 := h.2.2.1
      obtain ⟨e, f, he, a1, _, a2, _⟩ := vends_two h.2.2.2.2.1
      refine ⟨by omega, by omega, by rw [he]; simp, fun x hx => ?_⟩
      rw [he] at hx
      simp only [List.mem_cons, List.not_mem_nil, or_false] at hx
      rcases hx with rfl | rfl
      · exact a1
      · exact a2
    · exact ⟨⟨by simp [noWorld], by simp [noWorld]⟩, by simp [noWorld], by simp [noWorld], fun e he => by simp [noWorld] at he⟩
  unfold laws_wWorld
  simp only [cbnot, cbseq, cbne, if_true]
  refine Wp.bind (wRecords_ok _ hs.1.1) (fun _ q => ?_); subst q
  simp only [cond_true]
  refine Wp.bind (wRecords_ok _ hs.1.2) (fun _ q => ?_); subst q
  simp only [cond_true]
  exact wW4 w.Key w.Forged w.Width w.Flight w.Given w.Taken hs.2.1 w.Ends [] (by simpa using hs.2.2.1) hs.2.2.2
/-! ### how far a take can have come -/
theorem flowT_next : ∀ (h : List DHeld) (n : Int) (o : ByteArray) (r : List ByteArray), (flowT h n o r).Next ≤ n + h.length
  | [], n, o, r => by simp [flowT]
  | x :: t, n, o, r => by
    simp only [flowT]
    split
    · split
      · have := flowT_next t (n + 1) noB (r ++ [o ++ x.Part.Text]); simp; omega
      · have := flowT_next t (n + 1) (o ++ x.Part.Text) r; simp; omega
    · simp; omega
theorem partM_next {t : DTake} (h : VTake t) (q : Int) (p : DPart) : (partM t q p).Next ≤ t.Next + 9 := by
  unfold partM
  rw [if_pos h]
  split
  · rename_i hq
    split
    · omega
    · rename_i l hl
      have hs := (insT_sm hq.1.2.2 hq.2 (VTake.small h) hl).2
      have := flowT_next l t.Next t.Open t.Ready
      have := h.2.1
      omega
  · omega
theorem pullM_next {t : DTake} (h : VTake t) : (pullM t).1.Next ≤ t.Next + 9 := by
  unfold pullM
  rw [if_pos h]
  split
  · dsimp only; omega
  · rename_i s rs _
    have := flowT_next t.Held t.Next t.Open rs
    have := h.2.1
    dsimp only; omega
theorem take0 {e : DEnd} (h : VEnd e) : 0 ≤ e.Take.Next := h.2.2.2.2.2.1.1.1
theorem takeE_next {e : DEnd} (h : VEnd e) (p : DPacket) : (takeE e p).End.Take.Next ≤ e.Take.Next + 9 := by
  have h0 := take0 h
  unfold takeE
  rw [if_pos h]
  split
  · rename_i hc
    have hm := (metE_V (p := p) h hc.1 hc.2.1).1
    have hmn : (metE e p).Take.Next ≤ e.Take.Next := by
      unfold metE; split
      · exact h0
      · exact Int.le_refl _
    unfold bodyE
    split
    · split
      · dsimp only; omega
      · have := partM_next hm.2.2.2.2.2.1 p.Seq ⟨p.Part, p.Last⟩
        dsimp only; omega
    · dsimp only; omega
  · dsimp only; omega
theorem tickE_take {e : DEnd} (h : VEnd e) : (tickE e).End.Take = e.Take := by
  unfold tickE
  rw [if_pos h]
  split
  · split <;> rfl
  · rfl
theorem pushE_take {e : DEnd} {t : ByteArray} (hc : (pushE e t).Code = 0) : (pushE e t).End.Take = e.Take := by
  unfold pushE at hc ⊢
  split
  · rename_i h1; rw [if_pos h1] at hc
    split
    · rename_i h2; rw [if_pos h2] at hc
      split
      · rename_i h3; rw [if_pos h3] at hc; cases hc
      · rename_i h3; rw [if_neg h3] at hc
        split
        · rfl
        · rename_i h4; rw [if_neg h4] at hc; exact absurd hc h4
    · rename_i h2; rw [if_neg h2] at hc; cases hc
  · rename_i h1; rw [if_neg h1] at hc; cases hc
def EB (B : Int) (l : List DEnd) : Prop := ∀ n, 1 ≤ n ∧ n ≤ 2 → (endAt n l).Take.Next ≤ B
theorem endAt_on {l : List DEnd} (h : VEnds l) {n m : Int} (hn : 1 ≤ n ∧ n ≤ 2) (hm : 1 ≤ m ∧ m ≤ 2) (x : DEnd) : endAt m (onEnd n x l) = if m = n then x else endAt m l := by
  obtain ⟨e, f, rfl, _⟩ := vends_two h
  by_cases h1 : n = 1
  · subst h1
    by_cases h2 : m = 1
    · subst h2; simp [endAt, onEnd]
    · simp [endAt, onEnd, h2]
  · by_cases h2 : m = 1
    · subst h2; rw [if_neg (fun g => h1 g.symm)]; simp [endAt, onEnd, h1]
    · have : m = n := by omega
      subst this; simp [endAt, onEnd, h1]
theorem EB_on {l : List DEnd} (h : VEnds l) {B C : Int} (hB : EB B l) (hC : B ≤ C) {n : Int} (hn : 1 ≤ n ∧ n ≤ 2) {x : DEnd} (hx : x.Take.Next ≤ C) : EB C (onEnd n x l) := fun m hm => by
  rw [endAt_on h hn hm]
  split
  · exact hx
  · have := hB m hm; omega
theorem EB_mono {l : List DEnd} {B C : Int} (hB : EB B l) (hC : B ≤ C) : EB C l := fun m hm => by have := hB m hm; omega
theorem EB_bring {w : DWorld} (h : VWorld w) {p : DParcel} (hp : VPar p) {B : Int} (hB : EB B w.Ends) : EB (B + 9) (bringW w p).Ends := by
  unfold bringW
  split
  · refine EB_on h.2.2.2.2.1 hB (by omega) hp.1 ?_
    have := takeE_next (endAt_V h.2.2.2.2.1 hp.1).1 (readM p.Bytes w.Key w.Width).1
    have := hB _ hp.1
    omega
  · exact EB_mono hB (by omega)
theorem EB_doW {w : DWorld} (h : VWorld w) (v : DEvent) {B : Int} (h0 : 0 ≤ B) (hB : EB B w.Ends) : EB (B + 9) (doW w v).Ends := by
  have h5 := h.2.2.2.2.1
  have same : EB (B + 9) w.Ends := EB_mono hB (by omega)
  unfold doW
  split
  · intro m hm
    have e1 := tickE_take (endAt_V h5 (n := 1) (by omega)).1
    have e2 := tickE_take (endAt_V h5 (n := 2) (by omega)).1
    have b1 := hB 1 (by omega)
    have b2 := hB 2 (by omega)
    have ee : endAt m (tickW w).Ends = if m = 1 then (tickE (endAt 1 w.Ends)).End else (tickE (endAt 2 w.Ends)).End := rfl
    rw [ee]
    split
    · rw [e1]; omega
    · rw [e2]; omega
  split
  · split
    · split
      · rename_i p hp
        have hvp := h.2.2.2.2.2.1 p (List.mem_of_getElem? hp)
        have hs : ∀ fl, EB (B + 9) (setFl w fl).Ends := fun fl => same
        unfold parDo
        split
        · exact EB_bring (setFl_V h (by have := List.length_eraseIdx_le w.Flight v.A.toNat; have := h.2.2.1; omega) (erase_V h.2.2.2.2.2.1 _)) hvp hB
        split
        · split
          · exact hs _
          · exact same
        split
        · exact hs _
        split
        · split
          · exact hs _
          · exact same
        split
        · split
          · exact hs _
          · exact same
        · exact hs _
      · exact same
    · exact same
  split
  · rename_i hk
    have hn := hk.2
    have hv := (endAt_V h5 hn).1
    have hb := hB _ hn
    have ht := take0 hv
    unfold endDo
    split
    · refine EB_on h5 hB (by omega) hn ?_
      unfold fallM; rw [if_pos hv]; show (0 : Int) ≤ _; omega
    split
    · refine EB_on h5 hB (by omega) hn ?_
      unfold riseM; rw [if_pos hv]
      split
      · omega
      · split
        · omega
        · show (0 : Int) ≤ _; omega
    split
    · unfold pushW
      split
      · rename_i hc
        refine EB_on h5 hB (by omega) hn ?_
        rw [pushE_take hc.2]; omega
      · exact same
    · unfold pullW
      split
      · rename_i hc
        refine EB_on h5 hB (by omega) hn ?_
        have hpn := pullM_next hv.2.2.2.2.2.1
        have e1 : (pullE (endAt v.A w.Ends)).End.Take = (pullM (endAt v.A w.Ends).Take).1 := by
          have hc2 := hc.2
          unfold pullE at hc2 ⊢
          rw [if_pos hv] at hc2 ⊢
          split at hc2
          · rename_i hu; rw [if_pos hu]
            split at hc2
            · rename_i hq; rw [if_pos hq]
            · cases hc2
          · cases hc2
        rw [e1]; omega
      · exact same
  · exact same
theorem reach_next {f s : Nat} {w : DWorld} (h : Reach f s w) : EB (9 * s) w.Ends := by
  induction h with
  | @new b wd h1 h2 =>
    intro m hm
    unfold newW
    rw [if_pos ⟨h2, h1⟩]
    unfold endAt newM
    dsimp only
    split <;> simp [noTake]
  | @step n m w v hw ih =>
    refine EB_mono (EB_doW hw.V v (by omega) ih) (by omega)
  | @more n m n' m' w h1 h2 hw ih => exact EB_mono ih (by omega)
end Km.X
namespace Km.X
open Go Km
set_option linter.unusedVariables false
set_option linter.unusedSimpArgs false
def madeUp : ByteArray := ⟨#[109, 97, 100, 101, 32, 117, 112]⟩
def somethingElse : ByteArray := ⟨#[115, 111, 109, 101, 116, 104, 105, 110, 103, 32, 101, 108, 115, 101]⟩
theorem forged_core (w : DWorld) (hw : VWorld w) (hF : w.Forged = noB) (hl : w.Flight.length < 1000) (to : Int) (ht : 1 ≤ to ∧ to ≤ 2) (a b : DEnd) (ha : VEnd a) (hb : VEnd b) (hn : b.Take.Next ≤ 999999) :
    Wp (fun k => (impl_FormPacket k (⟨2, 3 - to, a.Life, b.Life, 0, 0, b.Take.Next, true, madeUp⟩ : DPacket) w.Key w.Width).bind fun r8 =>
        (app 40 w.Flight ([(⟨to, somethingElse, r8⟩ : DParcel)] : List DParcel)).bind fun l9 =>
        (impl_Do k (⟨w.Key, w.Width, w.Ends, l9, w.Forged, w.Given, w.Taken⟩ : DWorld) (⟨2, (IntKind.wrap .i64 ((l9.length : Int) - 1)), 0, 0, (⟨#[]⟩ : ByteArray)⟩ : DEvent)).bind fun r10 =>
        bif (!(r8.toList == (⟨#[]⟩ : ByteArray).toList)) then
          bif (r10.Forged.toList == r8.toList) then
            (spec_Do k (⟨w.Key, w.Width, w.Ends, l9, w.Forged, w.Given, w.Taken⟩ : DWorld) (⟨2, (IntKind.wrap .i64 ((l9.length : Int) - 1)), 0, 0, (⟨#[]⟩ : ByteArray)⟩ : DEvent)).bind fun r11 =>
            (laws_wWorld k r10 r11).bind fun r12 =>
            some r12
          else
            some false
        else
          some false) (· = true) := by
  have hfit : Fits (⟨2, 3 - to, a.Life, b.Life, 0, 0, b.Take.Next, true, madeUp⟩ : DPacket) :=
    ⟨by dsimp only; omega, ha.2.1, by have := hb.2.1; dsimp only; omega, .inr ⟨rfl, rfl, rfl, by have := hb.2.2.2.2.2.1.1; dsimp only; omega, (by decide : (7 : Nat) ≤ 20)⟩⟩
  refine Wp.bind (implForm_ok _ _ _) (fun s hs => ?_)
  generalize hp : (⟨2, 3 - to, a.Life, b.Life, 0, 0, b.Take.Next, true, madeUp⟩ : DPacket) = p at hfit hs
  have hpt : p.Part = madeUp ∧ p.Kind = 2 := by rw [← hp]; exact ⟨rfl, rfl⟩
  have hsz : 19 ≤ s.size ∧ s.size ≤ 100 := by
    rw [hs]
    have h1 := form_size hfit hw.1 hw.2.1
    have h2 := form_small p w.Key w.Width
    have h3 : (bodyP p).size = 18 := by
      unfold bodyP; rw [if_neg (by omega), hpt.1]
      simp only [ByteArray.size_append, headP_size, N_size]; rfl
    have := hw.1
    omega
  refine Wp.opt (app_ok (by simp; omega)) ?_
  have hvp : VPars (w.Flight ++ [(⟨to, somethingElse, s⟩ : DParcel)]) := fun q hq => by
    simp only [List.mem_append, List.mem_cons, List.not_mem_nil, or_false] at hq
    rcases hq with hq | rfl
    · exact hw.2.2.2.2.2.1 q hq
    · exact ⟨ht, (by decide : (14 : Nat) ≤ 100), hsz.2⟩
  have hw' : VWorld (setFl w (w.Flight ++ [(⟨to, somethingElse, s⟩ : DParcel)])) := setFl_V hw (by simp; omega) hvp
  have hx : IntKind.wrap .i64 (((w.Flight ++ [(⟨to, somethingElse, s⟩ : DParcel)]).length : Int) - 1) = (w.Flight.length : Int) := by
    rw [List.length_append, w64' (by omega) (by simp; omega)]; simp
  rw [hx]
  have hd : doM (setFl w (w.Flight ++ [(⟨to, somethingElse, s⟩ : DParcel)])) ⟨2, (w.Flight.length : Int), 0, 0, noB⟩ = bringW w ⟨to, somethingElse, s⟩ := by
    unfold doM
    rw [if_pos hw', doW_par (p := ⟨to, somethingElse, s⟩) (by dsimp only; omega) (by dsimp only; omega) (by simp [setFl])]
    unfold parDo
    rw [if_pos rfl]
    have e : (setFl w (w.Flight ++ [(⟨to, somethingElse, s⟩ : DParcel)])).Flight.eraseIdx (w.Flight.length : Int).toNat = w.Flight := by
      simp [setFl, List.eraseIdx_append_of_length_le]
    dsimp only
    rw [e]; rfl
  refine Wp.bind (implDo_ok _ (vw_hist hw') _) (fun x hx' => ?_)
  have hx2 : x = bringW w ⟨to, somethingElse, s⟩ := by rw [hx']; exact hd
  have hsn : s ≠ noB := fun e => by rw [e] at hsz; exact absurd hsz.1 (by decide)
  have hse : s ≠ somethingElse := fun e => by rw [e] at hsz; exact absurd hsz.1 (by decide)
  have hfo : x.Forged = s := by
    rw [hx2]; unfold bringW
    dsimp only
    rw [hs, read_form hfit hw.1 hw.2.1, if_pos rfl]
    dsimp only
    rw [if_pos ⟨fun e => hse (by rw [hs]; exact e), hF⟩]
  simp only [cbnot, cbseq]
  refine Wp.ite (fun e => absurd e hsn) (fun _ => ?_)
  refine Wp.ite (fun _ => ?_) (fun e => absurd hfo e)
  refine Wp.bind (specDo_ok _ (vw_hist hw') _) (fun y hy => ?_)
  have hy2 : y = x := by rw [hy, hx']
  rw [hy2]
  refine Wp.bind (wWorld_ok x (.inl (by rw [hx']; exact doM_V hw' _))) (fun _ e => ?_); subst e
  exact Wp.ret rfl
theorem exact_FnForged (a : List Int) (h0 : a.length ≤ maxLen ∧ ∀ y ∈ a, wf_byte y) : ∃ k, laws_FnForged k a = some true := by
  have h := h0.2
  refine Wp.exists ?_
  unfold laws_FnForged
  refine Wp.dec (fun _ => Wp.ret rfl) (fun hlen => ?_)
  refine Wp.bind (drawReached_ok a h) (fun w hr => ?_)
  have hw := hr.V
  have hnx := reach_next hr
  simp only [cbnot, cbseq]
  have val : Wp (fun k => (impl_ValidWorld k w).bind fun x => some x) (· = true) := by
    refine Wp.bind (implValidWorld_ok w (vw_hist hw)) (fun _ e => ?_); subst e
    exact Wp.ret (decide_eq_true hw)
  refine Wp.ite (fun hF => ?_) (fun _ => val)
  refine Wp.dec (fun _ => val) (fun hl => ?_)
  refine Wp.opt (qrem_nn (by omega) (by omega)) ?_
  obtain ⟨e, f, he, a1, _, a2, _⟩ := vends_two hw.2.2.2.2.1
  have n1 := hnx 1 (by omega)
  have n2 := hnx 2 (by omega)
  rw [he] at n1 n2
  simp only [endAt, if_true] at n1 n2
  have hq : (a.length : Int) % 2 = 0 ∨ (a.length : Int) % 2 = 1 := by omega
  rcases hq with hq | hq
  · rw [hq]
    have := forged_core w hw hF (by omega) 1 (by omega) f e a2 a1 (by omega)
    have i1 : idx w.Ends (IntKind.wrap .i64 (2 - (IntKind.wrap .i64 (1 + 0)))) = some f := by rw [he]; rfl
    have i2 : w.Ends[(Int.toNat (IntKind.wrap .i64 (2 - (IntKind.wrap .i64 (1 + 0)))))]? = some f := by rw [he]; rfl
    have i3 : idx w.Ends (IntKind.wrap .i64 ((IntKind.wrap .i64 (1 + 0)) - 1)) = some e := by rw [he]; rfl
    have i4 : w.Ends[(Int.toNat (IntKind.wrap .i64 ((IntKind.wrap .i64 (1 + 0)) - 1)))]? = some e := by rw [he]; rfl
    simp only [i1, i2, i3, i4, Option.bind_some]
    rw [show IntKind.wrap .i64 (1 + 0) = 1 by rfl, show IntKind.wrap .i64 (3 - 1) = 3 - 1 by rfl]
    simp only [cbnot, cbseq] at this
    exact this
  · rw [hq]
    have := forged_core w hw hF (by omega) 2 (by omega) e f a1 a2 (by simp at n2; omega)
    have i1 : idx w.Ends (IntKind.wrap .i64 (2 - (IntKind.wrap .i64 (1 + 1)))) = some e := by rw [he]; rfl
    have i2 : w.Ends[(Int.toNat (IntKind.wrap .i64 (2 - (IntKind.wrap .i64 (1 + 1)))))]? = some e := by rw [he]; rfl
    have i3 : idx w.Ends (IntKind.wrap .i64 ((IntKind.wrap .i64 (1 + 1)) - 1)) = some f := by rw [he]; rfl
    have i4 : w.Ends[(Int.toNat (IntKind.wrap .i64 ((IntKind.wrap .i64 (1 + 1)) - 1)))]? = some f := by rw [he]; rfl
    simp only [i1, i2, i3, i4, Option.bind_some]
    rw [show IntKind.wrap .i64 (1 + 1) = 2 by rfl, show IntKind.wrap .i64 (3 - 2) = 3 - 2 by rfl]
    simp only [cbnot, cbseq] at this
    exact this
end Km.X
