/- A part of the proof of FnCalm: plain laws of these functions. There is no condition. -/
import Derived.Test.YtnhnpggoknepfaaGreatKyPureCalm2
import Derived.Test.YtnhnpggoknepfaaGreatKyPureCalm1
import Derived.Test.YtnhnpggoknepfaaGreatKxDef2
namespace Km.X
open Go Km
set_option linter.unusedVariables false
set_option linter.unusedSimpArgs false
/-! ### drawn takes -/
def DTk (m : Int) (v : DTake × DL1Rd) : Prop := VTake v.1 ∧ Rd m v.2
theorem vt_len {t : DTake} (h : VTake t) : t.Held.length ≤ 1048576 ∧ t.Ready.length ≤ 1048576 := by have := h.2.1; have := h.2.2.2.1; omega
theorem t3 (e : ByteArray) (c : Int) (g : ByteArray) (y : List DHeld) (z : List ByteArray) : ∀ (d : Nat) (n : Int) (r : DL1Rd) (t : DTake), VTake t → Rd n r → n + 10 * d ≤ 800000 →
    Wp (fun k => spec_l5Draw_l3 k (d : Int) r.b r.p c e t.Next t.Open y z t.Held t.Ready) (DTk (n + 10 * d))
  | 0, n, r, t, ht, hr, hn => by
    refine Wp.step ?_
    simp only [spec_l5Draw_l3]
    refine Wp.dec (fun g => by omega) (fun _ => ?_)
    refine Wp.bind (l5Copy_ok t (vt_len ht).1 (vt_len ht).2) (fun x hx => ?_); rw [hx]
    exact Wp.ret ⟨ht, hr.mono (by omega)⟩
  | d + 1, n, r, t, ht, hr, hn => by
    have hn0 : 0 ≤ n := by have := hr.2.2; omega
    have l4 : ∀ (t' : DTake) (r' : DL1Rd), VTake t' → Rd (n + 10) r' → Wp (fun k => spec_l5Draw_l4 k ((d + 1 : Nat) : Int) r'.b r'.p c e t'.Next t'.Open y z t'.Held t'.Ready) (DTk (n + 10 * ((d + 1 : Nat) : Int))) := fun t' r' h1 h2 => by
      refine Wp.step ?_
      simp only [spec_l5Draw_l4]
      rw [w64' (n := ((d + 1 : Nat) : Int) - 1) (by omega) (by omega), show ((d + 1 : Nat) : Int) - 1 = (d : Int) by omega]
      exact (t3 e c g y z d (n + 10) r' t' h1 h2 (by omega)).mono fun v hv => ⟨hv.1, hv.2.mono (by omega)⟩
    have l9 : ∀ (q : Int) (r' : DL1Rd), Rd (n + 5) r' → Wp (fun k => spec_l5Draw_l9 k ((d + 1 : Nat) : Int) q r'.b r'.p c e t.Next t.Open y z t.Held t.Ready) (DTk (n + 10 * ((d + 1 : Nat) : Int))) := fun q r' h2 => by
      refine Wp.step ?_
      simp only [spec_l5Draw_l9]
      refine Wp.pick h2 (by omega) (by omega) (fun q1 r1 q10 q11 h1 => ?_)
      dsimp only
      refine Wp.from q10 (by simp; omega) (fun u hu => ?_)
      simp only [List.mem_cons, List.not_mem_nil, or_false] at hu
      refine Wp.bind (many_ok _ _ 20 (by omega) (by show 1 * _ ≤ 20; omega) (by omega)) (fun m hm => ?_)
      refine Wp.pick h1 (by omega) (by omega) (fun q2 r2 q20 q21 h3 => ?_)
      refine Wp.bind (specPart_ok t _ _) (fun x hx => ?_)
      exact l4 x r2 (by rw [hx]; exact partM_V _ _ _) (h3.mono (by omega))
    refine Wp.step ?_
    simp only [spec_l5Draw_l3]
    refine Wp.dec (fun _ => ?_) (fun g => by omega)
    refine Wp.pick hr (by omega) (by omega) (fun q1 r1 q10 q11 h1 => ?_)
    simp only [cbeq]
    refine Wp.ite (fun _ => ?_) (fun _ => ?_)
    · refine Wp.bind (specPull_ok t) (fun x hx => ?_)
      exact l4 x.1 r1 (by rw [hx]; exact (pullM_ok t).1) (h1.mono (by omega))
    · refine Wp.pick h1 (by omega) (by omega) (fun q2 r2 q20 q21 h2 => ?_)
      dsimp only
      refine Wp.ite (fun _ => ?_) (fun _ => l9 _ r2 (h2.mono (by omega)))
      refine Wp.pick h2 (by omega) (by omega) (fun q3 r3 q30 q31 h3 => ?_)
      exact l9 _ r3 (h3.mono (by omega))
theorem l5Draw_ok (r : DL1Rd) (n : Int) (hr : Rd n r) (hn : n ≤ 700000) : Wp (fun k => spec_l5Draw k r) (DTk (n + 300)) := by
  unfold spec_l5Draw
  refine Wp.pick hr (by omega) (by omega) (fun q1 r1 q10 q11 h1 => ?_)
  dsimp only
  refine Wp.from q10 (by simp; omega) (fun u hu => ?_)
  simp only [List.mem_cons, List.not_mem_nil, or_false] at hu
  refine Wp.pick h1 (by omega) (by omega) (fun q2 r2 q20 q21 h2 => ?_)
  dsimp only
  have hv : VTake ⟨u, [], noB, []⟩ := ⟨by dsimp only; omega, by simp, by simp [noB_size], by simp, fun s hs => by simp at hs, trivial, fun x hx => by simp at hx⟩
  have := t3 noB 0 noB [] [] q2.toNat (n + 2) r2 ⟨u, [], noB, []⟩ hv (h2.mono (by omega)) (by omega)
  rw [Int.toNat_of_nonneg q20] at this
  exact this.mono fun v hv => ⟨hv.1, hv.2.mono (by omega)⟩
theorem t20 (m : Int) (r : DL1Rd) (c n : Int) (e o : ByteArray) (y : List DHeld) (z : List ByteArray) (h : List DHeld) (s : List ByteArray) (hr : Rd m r) : Wp (fun k => spec_l5Spoil_l20 k r.b r.p c e n o y z h s) (fun v => Rd m v.2) := by
  refine Wp.step ?_
  simp only [spec_l5Spoil_l20]
  exact Wp.ret hr
theorem t15 (m x0 : Int) (r : DL1Rd) (c n : Int) (e o : ByteArray) (y : List DHeld) (z : List ByteArray) (h : List DHeld) (hr : Rd m r) (hx : x0 ≤ 100) : ∀ (d : Nat) (s : List ByteArray), d = (x0 - s.length).toNat → s.length ≤ 1000 → Wp (fun k => spec_l5Spoil_l15 k x0 r.b r.p c e n o y z h s) (fun v => Rd m v.2)
  | 0, s, hd, hs => by
    refine Wp.step ?_
    simp only [spec_l5Spoil_l15]
    exact Wp.dec (fun g => by omega) (fun _ => t20 m r c n e o y z h s hr)
  | d + 1, s, hd, hs => by
    refine Wp.step ?_
    simp only [spec_l5Spoil_l15]
    refine Wp.dec (fun _ => ?_) (fun g => by omega)
    refine Wp.opt (app_ok (by simp; omega)) ?_
    exact t15 m x0 r c n e o y z h hr hx d (s ++ [noB]) (by simp; omega) (by simp; omega)
theorem l5Spoil_ok (r : DL1Rd) (t : DTake) (n : Int) (hr : Rd n r) (hn : n ≤ 800000) (ht : VTake t) : Wp (fun k => spec_l5Spoil k r t) (fun v => Rd (n + 10) v.2) := by
  unfold spec_l5Spoil
  refine Wp.bind (l5Copy_ok t (vt_len ht).1 (vt_len ht).2) (fun x hx => ?_); have e' := hx.symm; subst e'
  have hl := ht.2.1
  have hl' := ht.2.2.2.1
  refine Wp.pick hr (by omega) (by omega) (fun q1 r1 q10 q11 h1 => ?_)
  simp only [cbeq, both_self, cbdec]
  refine Wp.ite (fun _ => ?_) (fun _ => ?_)
  · refine Wp.pick h1 (by omega) (by omega) (fun q2 r2 q20 q21 h2 => ?_)
    dsimp only
    refine Wp.from2 q20 (by simp; omega) (fun y hy => ?_)
    exact t20 _ r2 _ _ _ _ _ _ _ _ (h2.mono (by omega))
  refine Wp.ite (fun _ => ?_) (fun _ => ?_)
  · refine Wp.pick h1 (by omega) (by omega) (fun q2 r2 q20 q21 h2 => ?_)
    refine Wp.opt (app_ok (by simp; omega)) ?_
    exact t20 _ r2 _ _ _ _ _ _ _ _ (h2.mono (by omega))
  refine Wp.ite (fun _ => ?_) (fun _ => ?_)
  · refine Wp.pick h1 (by omega) (by omega) (fun q2 r2 q20 q21 h2 => ?_)
    dsimp only
    rw [w64' (n := 200 + q2) (by omega) (by omega)]
    refine Wp.bind (many_ok _ _ 201 (by omega) (by show 1 * _ ≤ 201; omega) (by omega)) (fun m hm => ?_)
    exact t20 _ r2 _ _ _ _ _ _ _ _ (h2.mono (by omega))
  refine Wp.ite (fun _ => ?_) (fun _ => ?_)
  · refine Wp.pick h1 (by omega) (by omega) (fun q2 r2 q20 q21 h2 => ?_)
    dsimp only
    rw [w64' (n := 200 + q2) (by omega) (by omega)]
    refine Wp.bind (many_ok _ _ 201 (by omega) (by show 1 * _ ≤ 201; omega) (by omega)) (fun m hm => ?_)
    refine Wp.opt (app_ok (by simp; omega)) ?_
    exact t20 _ r2 _ _ _ _ _ _ _ _ (h2.mono (by omega))
  refine Wp.ite (fun _ => ?_) (fun _ => ?_)
  · refine Wp.pick h1 (by omega) (by omega) (fun q2 r2 q20 q21 h2 => ?_)
    dsimp only
    rw [w64' (n := 4 + q2) (by omega) (by omega)]
    exact t15 _ _ r2 _ _ _ _ _ _ _ (h2.mono (by omega)) (by omega) _ _ rfl (by omega)
  refine Wp.ite (fun _ => ?_) (fun _ => ?_)
  · refine Wp.ite (fun hp => ?_) (fun _ => t20 _ r1 _ _ _ _ _ _ _ _ (h1.mono (by omega)))
    refine Wp.pick h1 (by omega) (by omega) (fun q2 r2 q20 q21 h2 => ?_)
    dsimp only
    rw [w64' (n := 20 + q2) (by omega) (by omega)]
    refine Wp.bind (many_ok _ _ 21 (by omega) (by show 1 * _ ≤ 21; omega) (by omega)) (fun m hm => ?_)
    refine Wp.from2 (by omega) (by omega) (fun y hy => ?_)
    exact t20 _ r2 _ _ _ _ _ _ _ _ (h2.mono (by omega))
  · refine Wp.ite (fun hp => ?_) (fun _ => t20 _ r1 _ _ _ _ _ _ _ _ (h1.mono (by omega)))
    refine Wp.from2 (by omega) (by omega) (fun y hy => ?_)
    refine Wp.opt (app_ok (by simp; omega)) ?_
    exact t20 _ r1 _ _ _ _ _ _ _ _ (h1.mono (by omega))
theorem l5Any_ok (r : DL1Rd) (n : Int) (hr : Rd n r) (hn : n ≤ 700000) : Wp (fun k => spec_l5Any k r) (fun v => Rd (n + 320) v.2) := by
  unfold spec_l5Any
  refine Wp.bind (l5Draw_ok r n hr hn) (fun t ht => ?_)
  refine Wp.pick ht.2 (by omega) (by omega) (fun q1 r1 q10 q11 h1 => ?_)
  simp only [cbeq]
  refine Wp.ite (fun _ => ?_) (fun _ => Wp.ret (h1.mono (by omega)))
  refine Wp.bind (l5Spoil_ok r1 t.1 _ h1 (by omega) ht.1) (fun v hv => ?_)
  exact Wp.ret (hv.mono (by omega))
/-! ### drawn ends -/
theorem e20 (m : Int) (r : DL1Rd) (hr : Rd m r) (a : Int) (b : Bool) (c d e : Int) (f : Bool) (g h : Int) (i : ByteArray) (a' : Int) (b' : Bool) (c' d' e' : Int) (f' : Bool) (g' h' : Int) (i' : ByteArray) (l1 : List DItem) (l2 : List DHeld) (l3 : List ByteArray) (l4 : List DItem) (l5 : List DHeld) (l6 : List ByteArray) :
    Wp (fun k => spec_l6Spoil_l20 k r.b r.p a b c d e f g h i a' b' c' d' e' f' g' h' i' l1 l2 l3 l4 l5 l6) (fun v => Rd m v.2) := by
  refine Wp.step ?_
  simp only [spec_l6Spoil_l20]
  exact Wp.ret hr
theorem l6Spoil_ok (r : DL1Rd) (e : DEnd) (n : Int) (hr : Rd n r) (hn : 0 ≤ n ∧ n ≤ 300000) (he : VEnd e) : Wp (fun k => spec_l6Spoil k r e) (fun v => Rd (n + 400) v.2) := by
  unfold spec_l6Spoil
  refine Wp.bind (l6Copy_ok e he) (fun x hx => ?_); have e' := hx.symm; subst e'
  refine Wp.pick hr (by omega) (by omega) (fun q1 r1 q10 q11 h1 => ?_)
  simp only [cbeq]
  refine Wp.ite (fun _ => ?_) (fun _ => ?_)
  · refine Wp.pick h1 (by omega) (by omega) (fun q2 r2 q20 q21 h2 => ?_)
    exact e20 _ r2 (h2.mono (by omega)) ..
  refine Wp.ite (fun _ => e20 _ r1 (h1.mono (by omega)) ..) (fun _ => ?_)
  refine Wp.ite (fun _ => ?_) (fun _ => ?_)
  · refine Wp.pick h1 (by omega) (by omega) (fun q2 r2 q20 q21 h2 => ?_)
    dsimp only
    refine Wp.from q20 (by simp; omega) (fun y hy => ?_)
    exact e20 _ r2 (h2.mono (by omega)) ..
  refine Wp.ite (fun _ => ?_) (fun _ => ?_)
  · refine Wp.pick h1 (by omega) (by omega) (fun q2 r2 q20 q21 h2 => ?_)
    dsimp only
    refine Wp.from q20 (by simp; omega) (fun y hy => ?_)
    exact e20 _ r2 (h2.mono (by omega)) ..
  refine Wp.ite (fun _ => ?_) (fun _ => ?_)
  · refine Wp.pick h1 (by omega) (by omega) (fun q2 r2 q20 q21 h2 => ?_)
    dsimp only
    refine Wp.from q20 (by simp; omega) (fun y hy => ?_)
    exact e20 _ r2 (h2.mono (by omega)) ..
  refine Wp.ite (fun _ => e20 _ r1 (h1.mono (by omega)) ..) (fun _ => ?_)
  refine Wp.ite (fun _ => ?_) (fun _ => ?_)
  · refine Wp.bind (l4Any_ok r1 _ h1 (by omega)) (fun v hv => ?_)
    exact e20 _ v.2 (Rd.mono hv (by omega)) ..
  refine Wp.ite (fun _ => ?_) (fun _ => ?_)
  · refine Wp.bind (l5Any_ok r1 _ h1 (by omega)) (fun v hv => ?_)
    exact e20 _ v.2 (Rd.mono hv (by omega)) ..
  · refine Wp.bind (l5Spoil_ok r1 _ _ h1 (by omega) he.2.2.2.2.2.1) (fun v hv => ?_)
    exact e20 _ v.2 (Rd.mono hv (by omega)) ..
end Km.X
namespace Km.X
open Go Km
set_option linter.unusedVariables false
set_option linter.unusedSimpArgs false
/-! ### what is true of both ends stays so -/
def EP (P : DEnd → Prop) (l : List DEnd) : Prop := ∀ n, 1 ≤ n ∧ n ≤ 2 → P (endAt n l)
theorem endAt_on' {l : List DEnd} (h : VEnds l) {n m : Int} (hn : 1 ≤ n ∧ n ≤ 2) (hm : 1 ≤ m ∧ m ≤ 2) (x : DEnd) : endAt m (onEnd n x l) = if m = n then x else endAt m l := by
  obtain ⟨e, f, rfl, _⟩ := vends_two h
  by_cases h1 : n = 1
  · subst h1
    by_cases h2 : m = 1
    · subst h2; simp [endAt, onEnd]
    · simp [endAt, onEnd, h2]
  · by_cases h2 : m = 1
    · subst h2; rw [if_neg (fun g => h1 g.symm)]; simp [endAt, onEnd, h1]
    · have : m = n := by omega
      subst this; simp [endAt, onEnd, h1]
theorem EP_on {P : DEnd → Prop} {l : List DEnd} (h : VEnds l) (hB : EP P l) {n : Int} (hn : 1 ≤ n ∧ n ≤ 2) {x : DEnd} (hx : P x) : EP P (onEnd n x l) := fun m hm => by
  rw [endAt_on' h hn hm]
  split
  · exact hx
  · exact hB m hm
theorem EP_doW {P P' : DEnd → Prop} {w : DWorld} (h : VWorld w) (v : DEvent) (hP : EP P w.Ends)
    (H0 : ∀ e, VEnd e → P e → P' e) (H1 : ∀ e, VEnd e → P e → P' (tickE e).End) (H2 : ∀ e p, VEnd e → P e → P' (takeE e p).End) (H3 : ∀ e t, VEnd e → P e → (pushE e t).Code = 0 → P' (pushE e t).End)
    (H4 : ∀ e, VEnd e → P e → (pullE e).Code = 0 → P' (pullE e).End) (H5 : ∀ e, VEnd e → P e → P' (riseM e)) (H6 : ∀ e, VEnd e → P e → v.Kind = 8 → P' (fallM e)) : EP P' (doW w v).Ends := by
  have h5 := h.2.2.2.2.1
  have same : EP P' w.Ends := fun n hn => H0 _ (endAt_V h5 hn).1 (hP n hn)
  have br : ∀ w' : DWorld, w'.Ends = w.Ends → ∀ p, VPar p → EP P' (bringW w' p).Ends := fun w' hw' p hp => by
    unfold bringW
    split
    · dsimp only
      rw [hw']
      exact EP_on h5 same hp.1 (H2 _ _ (endAt_V h5 hp.1).1 (hP _ hp.1))
    · rw [hw']; exact same
  unfold doW
  split
  · intro m hm
    have ee : endAt m (tickW w).Ends = if m = 1 then (tickE (endAt 1 w.Ends)).End else (tickE (endAt 2 w.Ends)).End := rfl
    rw [ee]
    split
    · exact H1 _ (endAt_V h5 (by omega)).1 (hP 1 (by omega))
    · exact H1 _ (endAt_V h5 (by omega)).1 (hP 2 (by omega))
  split
  · split
    · split
      · rename_i p hp
        have hvp := h.2.2.2.2.2.1 p (List.mem_of_getElem? hp)
        have hs : ∀ fl, EP P' (setFl w fl).Ends := fun fl => same
        unfold parDo
        split
        · exact br (setFl w (w.Flight.eraseIdx v.A.toNat)) rfl p hvp
        split
        · split
          · exact hs _
          · exact same
        split
        · exact hs _
        split
        · split
          · exact hs _
          · exact same
        split
        · split
          · exact hs _
          · exact same
        · exact hs _
      · exact same
    · exact same
  split
  · rename_i hk
    have hn := hk.2
    have hv := (endAt_V h5 hn).1
    have hb := hP _ hn
    unfold endDo
    split
    · rename_i h8
      exact EP_on h5 same hn (H6 _ hv hb h8)
    split
    · exact EP_on h5 same hn (H5 _ hv hb)
    split
    · unfold pushW
      split
      · rename_i hc
        exact EP_on h5 same hn (H3 _ _ hv hb hc.2)
      · exact same
    · unfold pullW
      split
      · rename_i hc
        exact EP_on h5 same hn (H4 _ hv hb hc.2)
      · exact same
  · exact same
/-! ### lives -/
def lifeU (e : DEnd) : Int := e.Life + if e.Up = true then 0 else 1
theorem tickE_life {e : DEnd} (h : VEnd e) : (tickE e).End.Life = e.Life ∧ (tickE e).End.Up = e.Up := by
  unfold tickE
  rw [if_pos h]
  split
  · split <;> exact ⟨rfl, rfl⟩
  · exact ⟨rfl, rfl⟩
theorem metE_life (e : DEnd) (p : DPacket) : (metE e p).Life = e.Life ∧ (metE e p).Up = e.Up := by unfold metE; split <;> exact ⟨rfl, rfl⟩
theorem bodyE_life (e : DEnd) (p : DPacket) : (bodyE e p).End.Life = e.Life ∧ (bodyE e p).End.Up = e.Up := by
  unfold bodyE
  split
  · split <;> exact ⟨rfl, rfl⟩
  · exact ⟨rfl, rfl⟩
theorem takeE_life {e : DEnd} (h : VEnd e) (p : DPacket) : (takeE e p).End.Life = e.Life ∧ (takeE e p).End.Up = e.Up := by
  unfold takeE
  rw [if_pos h]
  split
  · have h1 := metE_life e p
    have h2 := bodyE_life (metE e p) p
    exact ⟨h2.1.trans h1.1, h2.2.trans h1.2⟩
  · exact ⟨rfl, rfl⟩
theorem pushE_form {e : DEnd} {t : ByteArray} (hc : (pushE e t).Code = 0) : (pushE e t).End = ⟨e.Number, e.Up, e.Life, e.Peer, e.Since, e.Owes, (pushM e.Send t).1, e.Take⟩ ∧ e.Up = true ∧ e.Peer ≠ 0 := by
  unfold pushE at hc ⊢
  split
  · rename_i h1; rw [if_pos h1] at hc
    split
    · rename_i h2; rw [if_pos h2] at hc
      split
      · rename_i h3; rw [if_pos h3] at hc; cases hc
      · rename_i h3; rw [if_neg h3] at hc
        split
        · exact ⟨rfl, h2, h3⟩
        · rename_i h4; rw [if_neg h4] at hc; exact absurd hc h4
    · rename_i h2; rw [if_neg h2] at hc; cases hc
  · rename_i h1; rw [if_neg h1] at hc; cases hc
theorem pullE_form {e : DEnd} (hc : (pullE e).Code = 0) : pullE e = ⟨0, ⟨e.Number, e.Up, e.Life, e.Peer, e.Since, true, e.Send, (pullM e.Take).1⟩, [], (pullM e.Take).2.1⟩ ∧ e.Up = true ∧ (pullM e.Take).2.2 = true := by
  unfold pullE at hc ⊢
  split
  · rename_i h1; rw [if_pos h1] at hc
    split
    · rename_i h2; rw [if_pos h2] at hc
      split
      · rename_i h3; exact ⟨rfl, h2, h3⟩
      · rename_i h3; rw [if_neg h3] at hc; cases hc
    · rename_i h2; rw [if_neg h2] at hc; cases hc
  · rename_i h1; rw [if_neg h1] at hc; cases hc
theorem riseM_life {e : DEnd} (h : VEnd e) : lifeU (riseM e) ≤ lifeU e := by
  unfold riseM
  rw [if_pos h]
  split
  · exact Int.le_refl _
  · rename_i hu
    split
    · exact Int.le_refl _
    · unfold lifeU; dsimp only; rw [if_neg hu]; simp
theorem fallM_life {e : DEnd} (h : VEnd e) : lifeU (fallM e) ≤ lifeU e + 1 := by
  unfold fallM
  rw [if_pos h]
  unfold lifeU
  simp
  split <;> omega
theorem life_eq {e f : DEnd} (h : f.Life = e.Life ∧ f.Up = e.Up) : lifeU f = lifeU e := by unfold lifeU; rw [h.1, h.2]
theorem reach_life {f s : Nat} {w : DWorld} (h : Reach f s w) : EP (fun e => lifeU e ≤ 1 + f) w.Ends := by
  induction h with
  | @new b wd h1 h2 =>
    intro m hm
    unfold newW
    rw [if_pos ⟨h2, h1⟩]
    unfold endAt newM lifeU
    dsimp only
    split <;> simp
  | @step n m w v hw ih =>
    refine EP_doW (P := fun e => lifeU e ≤ 1 + (n : Int)) hw.V v ih ?_ ?_ ?_ ?_ ?_ ?_ ?_
    · intro e _ he; split <;> omega
    · intro e hv he; rw [life_eq (tickE_life hv)]; split <;> omega
    · intro e p hv he; rw [life_eq (takeE_life hv p)]; split <;> omega
    · intro e t hv he hc; rw [life_eq (e := e) (by rw [(pushE_form hc).1]; exact ⟨rfl, rfl⟩)]; split <;> omega
    · intro e hv he hc; rw [life_eq (e := e) (by rw [(pullE_form hc).1]; exact ⟨rfl, rfl⟩)]; split <;> omega
    · intro e hv he; have := riseM_life hv; split <;> omega
    · intro e hv he hk; have := fallM_life hv; rw [if_pos hk]; omega
  | @more n m n' m' w h1 h2 hw ih =>
    intro k hk
    have := ih k hk
    dsimp only at this ⊢
    omega
/-! ### what was given was given in lives that were -/
theorem given_doW {w : DWorld} (h : VWorld w) (v : DEvent) : (doW w v).Given = w.Given ∨ ∃ n t, (1 ≤ n ∧ n ≤ 2) ∧ (pushE (endAt n w.Ends) t).Code = 0 ∧ (doW w v).Given = w.Given ++ [⟨n, (endAt n w.Ends).Life, (endAt n w.Ends).Peer, t⟩] := by
  unfold doW
  split
  · exact .inl rfl
  split
  · split
    · split
      · unfold parDo
        repeat' split
        all_goals first | exact .inl rfl | (unfold bringW; split <;> exact .inl rfl)
      · exact .inl rfl
    · exact .inl rfl
  split
  · rename_i hk
    unfold endDo
    split
    · exact .inl rfl
    split
    · exact .inl rfl
    split
    · unfold pushW
      split
      · rename_i hc
        exact .inr ⟨v.A, v.Text, hk.2, hc.2, rfl⟩
      · exact .inl rfl
    · unfold pullW
      split <;> exact .inl rfl
  · exact .inl rfl
theorem reach_given {f s : Nat} {w : DWorld} (h : Reach f s w) : ∀ r ∈ w.Given, r.A ≤ 1 + (f : Int) := by
  induction h with
  | @new b wd h1 h2 =>
    intro r hr
    unfold newW at hr
    rw [if_pos ⟨h2, h1⟩] at hr
    cases hr
  | @step n m w v hw ih =>
    intro r hr
    have hb : r.A ≤ 1 + (n : Int) := by
      rcases given_doW hw.V v with e | ⟨k, t, hk, hc, e⟩
      · rw [e] at hr; exact ih r hr
      · rw [e] at hr
        simp only [List.mem_append, List.mem_cons, List.not_mem_nil, or_false] at hr
        rcases hr with hr | rfl
        · exact ih r hr
        · have := reach_life hw k hk
          dsimp only at this ⊢
          unfold lifeU at this
          rw [if_pos (pushE_form hc).2.1] at this
          omega
    split <;> omega
  | @more n m n' m' w h1 h2 hw ih =>
    intro r hr
    have := ih r hr
    omega
/-! ### calm rounds give nothing -/
end Km.X
namespace Km.X
open Go Km
set_option linter.unusedVariables false
set_option linter.unusedSimpArgs false
/-! ### drawn worlds, valid or not -/
def HistB (w : DWorld) : Prop := (w.Given.length ≤ 500 ∧ w.Taken.length ≤ 500) ∧ (∀ r ∈ w.Taken, r.Text.size ≤ 1000) ∧ ∀ r ∈ w.Given, r.A ≤ 999
def AnyP (m : Int) (v : DWorld × DL1Rd) : Prop := HistB v.1 ∧ Rd m v.2
theorem hist_V {w : DWorld} (h : VWorld w) (hg : ∀ r ∈ w.Given, r.A ≤ 999) : HistB w := by
  have h4 := h.2.2.2.1
  exact ⟨by omega, fun r hr => by have := (h.2.2.2.2.2.2.2 r hr).2.2.2; omega, hg⟩
theorem given_app {l : List DRecord} (h : ∀ r ∈ l, r.A ≤ 999) {x : DRecord} (hx : x.A ≤ 999) : ∀ r ∈ l ++ [x], r.A ≤ 999 := fun r hr => by
  simp only [List.mem_append, List.mem_cons, List.not_mem_nil, or_false] at hr
  rcases hr with hr | rfl
  · exact h r hr
  · exact hx
theorem hist_big {w : DWorld} (h : HistB w) : w.Given.length ≤ 1048576 ∧ w.Taken.length ≤ 1048576 := by have := h.1; omega
theorem taken_app {l : List DRecord} (h : ∀ r ∈ l, r.Text.size ≤ 1000) {x : DRecord} (hx : x.Text.size ≤ 1000) : ∀ r ∈ l ++ [x], r.Text.size ≤ 1000 := fun r hr => by
  simp only [List.mem_append, List.mem_cons, List.not_mem_nil, or_false] at hr
  rcases hr with hr | rfl
  · exact h r hr
  · exact hx
section
variable (a b : ByteArray) (z : Int) (E2 : List DEnd) (F2 : List DParcel) (G2 T2 : List DRecord) (K Fo : ByteArray) (W : Int) (Es : List DEnd) (Gi : List DRecord)
theorem w20 (m x0 : Int) (r : DL1Rd) (Fl : List DParcel) (hr : Rd m r) (hx : x0 ≤ 450) (hg : Gi.length ≤ 500) (hga : ∀ r ∈ Gi, r.A ≤ 999) : ∀ (d : Nat) (Ta : List DRecord), d = (x0 - Ta.length).toNat → Ta.length ≤ 450 → (∀ r ∈ Ta, r.Text.size ≤ 1000) → Wp (fun k => spec_l7Spoil_l20 k x0 r.b r.p a z b K W Fo E2 F2 G2 T2 Es Fl Gi Ta) (AnyP m)
  | 0, Ta, hd, hs, ht => by
    refine Wp.step ?_
    simp only [spec_l7Spoil_l20]
    exact Wp.dec (fun g => by omega) (fun _ => Wp.ret ⟨⟨⟨hg, by dsimp only; omega⟩, ht, hga⟩, hr⟩)
  | d + 1, Ta, hd, hs, ht => by
    refine Wp.step ?_
    simp only [spec_l7Spoil_l20]
    refine Wp.dec (fun _ => ?_) (fun g => by omega)
    refine Wp.opt (app_ok (by simp; omega)) ?_
    exact w20 m x0 r Fl hr hx hg hga d (Ta ++ [⟨1, 1, 1, noB⟩]) (by simp; omega) (by simp; omega) (taken_app ht (Nat.zero_le _))
theorem w4 (m x0 : Int) (r : DL1Rd) (Ta : List DRecord) (hr : Rd m r) (hx : x0 ≤ 1001) (hh : (Gi.length ≤ 500 ∧ Ta.length ≤ 500) ∧ (∀ r ∈ Ta, r.Text.size ≤ 1000) ∧ ∀ r ∈ Gi, r.A ≤ 999) : ∀ (d : Nat) (Fl : List DParcel), d = (x0 - Fl.length).toNat → Fl.length ≤ 1001 → Wp (fun k => spec_l7Spoil_l4 k x0 r.b r.p a z b K W Fo E2 F2 G2 T2 Es Fl Gi Ta) (AnyP m)
  | 0, Fl, hd, hs => by
    refine Wp.step ?_
    simp only [spec_l7Spoil_l4]
    exact Wp.dec (fun g => by omega) (fun _ => Wp.ret ⟨hh, hr⟩)
  | d + 1, Fl, hd, hs => by
    refine Wp.step ?_
    simp only [spec_l7Spoil_l4]
    refine Wp.dec (fun _ => ?_) (fun g => by omega)
    refine Wp.opt (app_ok (by simp; omega)) ?_
    exact w4 m x0 r Ta hr hx hh d (Fl ++ [⟨1, noB, noB⟩]) (by simp; omega) (by simp; omega)
theorem a20 (m : Int) (r : DL1Rd) (hr : Rd m r) (Fl : List DParcel) (Ta : List DRecord) (hh : (Gi.length ≤ 500 ∧ Ta.length ≤ 500) ∧ (∀ r ∈ Ta, r.Text.size ≤ 1000) ∧ ∀ r ∈ Gi, r.A ≤ 999) : Wp (fun k => spec_l7Any_l20 k r.b r.p a z b K W Fo E2 F2 G2 T2 Es Fl Gi Ta) (AnyP m) := by
  refine Wp.step ?_
  simp only [spec_l7Any_l20]
  exact Wp.ret ⟨hh, hr⟩
theorem a7 (x0 : Int) (hx : x0 ≤ 1000) (Ta : List DRecord) (hh : (Gi.length ≤ 500 ∧ Ta.length ≤ 500) ∧ (∀ r ∈ Ta, r.Text.size ≤ 1000) ∧ ∀ r ∈ Gi, r.A ≤ 999) : ∀ (d : Nat) (m : Int) (r : DL1Rd) (Fl : List DParcel), Rd m r → m + d ≤ 900000 → d = (x0 - Fl.length).toNat → Fl.length ≤ 1000 → Wp (fun k => spec_l7Any_l7 k x0 r.b r.p a z b K W Fo E2 F2 G2 T2 Es Fl Gi Ta) (AnyP (m + d))
  | 0, m, r, Fl, hr, hm, hd, hs => by
    refine Wp.step ?_
    simp only [spec_l7Any_l7]
    exact Wp.dec (fun g => by omega) (fun _ => a20 a b z E2 F2 G2 T2 K Fo W Es Gi _ r (hr.mono (by omega)) Fl Ta hh)
  | d + 1, m, r, Fl, hr, hm, hd, hs => by
    refine Wp.step ?_
    simp only [spec_l7Any_l7]
    refine Wp.dec (fun _ => ?_) (fun g => by omega)
    refine Wp.pick hr (by omega) (by omega) (fun q r1 q0 q1 h1 => ?_)
    refine Wp.opt (app_ok (by simp; omega)) ?_
    exact (a7 x0 hx Ta hh d (m + 1) r1 _ h1 (by omega) (by simp; omega) (by simp; omega)).mono fun v hv => ⟨hv.1, hv.2.mono (by omega)⟩
theorem a11 (m x0 : Int) (r : DL1Rd) (Fl : List DParcel) (hr : Rd m r) (hx : x0 ≤ 450) (hg : Gi.length ≤ 500) (hga : ∀ r ∈ Gi, r.A ≤ 999) : ∀ (d : Nat) (Ta : List DRecord), d = (x0 - Ta.length).toNat → Ta.length ≤ 450 → (∀ r ∈ Ta, r.Text.size ≤ 1000) → Wp (fun k => spec_l7Any_l11 k x0 r.b r.p a z b K W Fo E2 F2 G2 T2 Es Fl Gi Ta) (AnyP m)
  | 0, Ta, hd, hs, ht => by
    refine Wp.step ?_
    simp only [spec_l7Any_l11]
    exact Wp.dec (fun g => by omega) (fun _ => a20 a b z E2 F2 G2 T2 K Fo W Es Gi _ r hr Fl Ta ⟨⟨hg, by omega⟩, ht, hga⟩)
  | d + 1, Ta, hd, hs, ht => by
    refine Wp.step ?_
    simp only [spec_l7Any_l11]
    refine Wp.dec (fun _ => ?_) (fun g => by omega)
    refine Wp.opt (app_ok (by simp; omega)) ?_
    exact a11 m x0 r Fl hr hx hg hga d (Ta ++ [⟨1, 1, 1, noB⟩]) (by simp; omega) (by simp; omega) (taken_app ht (Nat.zero_le _))
theorem a18 (m : Int) (r : DL1Rd) (hr : Rd m r) (hm : m ≤ 900000) (Fl : List DParcel) (Ta : List DRecord) (hh : (Gi.length ≤ 500 ∧ Ta.length ≤ 500) ∧ (∀ r ∈ Ta, r.Text.size ≤ 1000) ∧ ∀ r ∈ Gi, r.A ≤ 999) : Wp (fun k => spec_l7Any_l18 k r.b r.p a z b K W Fo E2 F2 G2 T2 Es Fl Gi Ta) (AnyP (m + 1)) := by
  refine Wp.step ?_
  simp only [spec_l7Any_l18]
  refine Wp.pick hr (by omega) (by omega) (fun q r1 q0 q1 h1 => ?_)
  simp only [cbeq]
  refine Wp.ite (fun _ => ?_) (fun _ => ?_)
  · exact a20 a b z E2 F2 G2 T2 K _ W Es Gi _ r1 h1 Fl Ta hh
  · exact a20 a b z E2 F2 G2 T2 K Fo W Es Gi _ r1 h1 Fl Ta hh
end
theorem l7Spoil_ok (r : DL1Rd) (w : DWorld) (n : Int) (hr : Rd n r) (hn : 0 ≤ n ∧ n ≤ 200000) (hw : VWorld w) (hga : ∀ r ∈ w.Given, r.A ≤ 999) : Wp (fun k => spec_l7Spoil k r w) (AnyP (n + 500)) := by
  unfold spec_l7Spoil
  refine Wp.bind (specCopyW_ok w hw) (fun x hx => ?_); have e' := hx.symm; subst e'
  obtain ⟨e, f, he, a1, _, a2, _⟩ := vends_two hw.2.2.2.2.1
  have hh := hist_V hw hga
  have h3 := hw.2.2.1
  have h4 := hw.2.2.2.1
  refine Wp.pick hr (by omega) (by omega) (fun q1 r1 q10 q11 h1 => ?_)
  simp only [cbeq]
  refine Wp.ite (fun _ => ?_) (fun _ => ?_)
  · refine Wp.pick h1 (by omega) (by omega) (fun q2 r2 q20 q21 h2 => ?_)
    dsimp only
    rw [w64' (n := 30 + q2) (by omega) (by omega)]
    refine Wp.bind (many_ok _ _ 31 (by omega) (by show 1 * _ ≤ 31; omega) (by omega)) (fun m hm => ?_)
    exact Wp.ret ⟨hh, h2.mono (by omega)⟩
  refine Wp.ite (fun _ => ?_) (fun _ => ?_)
  · refine Wp.pick h1 (by omega) (by omega) (fun q2 r2 q20 q21 h2 => ?_)
    exact Wp.ret ⟨hh, h2.mono (by omega)⟩
  refine Wp.ite (fun _ => ?_) (fun _ => ?_)
  · refine Wp.pick h1 (by omega) (by omega) (fun q2 r2 q20 q21 h2 => ?_)
    dsimp only
    refine Wp.opt (x := e) (by rw [he]; rfl) ?_
    refine Wp.opt (x := e) (by rw [he]; rfl) ?_
    refine Wp.bind (l6Spoil_ok r2 e _ h2 (by omega) a1) (fun v hv => ?_)
    refine Wp.from2 q20 (by rw [he]; simp; omega) (fun y hy => ?_)
    exact Wp.ret ⟨hh, Rd.mono hv (by omega)⟩
  refine Wp.ite (fun _ => ?_) (fun _ => ?_)
  · refine Wp.pick h1 (by omega) (by omega) (fun q2 r2 q20 q21 h2 => ?_)
    refine Wp.opt (wnd_ok ⟨by omega, q20, by rw [he]; simp; omega⟩) ?_
    exact Wp.ret ⟨hh, h2.mono (by omega)⟩
  refine Wp.ite (fun _ => ?_) (fun _ => ?_)
  · refine Wp.pick h1 (by omega) (by omega) (fun q2 r2 q20 q21 h2 => ?_)
    dsimp only
    refine Wp.from q20 (by simp; omega) (fun y hy => ?_)
    refine Wp.pick h2 (by omega) (by omega) (fun q3 r3 q30 q31 h3 => ?_)
    dsimp only
    rw [w64' (n := 100 + q3) (by omega) (by omega)]
    refine Wp.bind (many_ok _ _ 101 (by omega) (by show 1 * _ ≤ 101; omega) (by omega)) (fun m hm => ?_)
    refine Wp.opt (app_ok (by simp; omega)) ?_
    exact Wp.ret ⟨hh, h3.mono (by omega)⟩
  refine Wp.ite (fun _ => ?_) (fun _ => ?_)
  · refine Wp.pick h1 (by omega) (by omega) (fun q2 r2 q20 q21 h2 => ?_)
    refine Wp.pick h2 (by omega) (by omega) (fun q3 r3 q30 q31 h3 => ?_)
    refine Wp.pick h3 (by omega) (by omega) (fun q4 r4 q40 q41 h4' => ?_)
    dsimp only
    rw [w64' (n := 200 + q4) (by omega) (by omega)]
    refine Wp.bind (many_ok _ _ 201 (by omega) (by show 1 * _ ≤ 201; omega) (by omega)) (fun m hm => ?_)
    refine Wp.opt (app_ok (by simp; omega)) ?_
    exact Wp.ret ⟨⟨⟨by simp; omega, hh.1.2⟩, hh.2.1, given_app hh.2.2 (by dsimp only; omega)⟩, h4'.mono (by omega)⟩
  refine Wp.ite (fun _ => ?_) (fun _ => ?_)
  · refine Wp.pick h1 (by omega) (by omega) (fun q2 r2 q20 q21 h2 => ?_)
    dsimp only
    rw [w64' (n := 400 + q2) (by omega) (by omega), w64' (n := 400 + q2 - (w.Given.length : Int)) (by omega) (by omega)]
    exact w20 noB noB 0 [] [] [] [] _ _ _ _ _ _ _ r2 _ (h2.mono (by omega)) (by omega) hh.1.1 hh.2.2 _ _ rfl (by omega) hh.2.1
  · refine Wp.pick h1 (by omega) (by omega) (fun q2 r2 q20 q21 h2 => ?_)
    dsimp only
    rw [w64' (n := 1000 + q2) (by omega) (by omega)]
    exact w4 noB noB 0 [] [] [] [] _ _ _ _ _ _ _ r2 _ (h2.mono (by omega)) (by omega) hh _ _ rfl (by omega)
theorem l7Any_ok (r : DL1Rd) (n : Int) (hr : Rd n r) (hn : 0 ≤ n ∧ n ≤ 100000) : Wp (fun k => spec_l7Any k r) (AnyP (n + 5000)) := by
  unfold spec_l7Any
  refine Wp.bind (l7Reached_ok r n hr (by omega)) (fun w hw => ?_)
  have hv := hw.1.V
  obtain ⟨e, f, he, a1, _, a2, _⟩ := vends_two hv.2.2.2.2.1
  have hga : ∀ r ∈ w.1.Given, r.A ≤ 999 := fun r hr => by have := reach_given hw.1 r hr; omega
  have hh := hist_V hv hga
  have h3 := hv.2.2.1
  have h4 := hv.2.2.2.1
  refine Wp.pick hw.2 (by omega) (by omega) (fun q1 r1 q10 q11 h1 => ?_)
  simp only [cbeq]
  refine Wp.ite (fun _ => ?_) (fun _ => ?_)
  · refine Wp.bind (l7Spoil_ok r1 w.1 _ h1 (by omega) hv hga) (fun v hv => ?_)
    exact Wp.ret ⟨hv.1, hv.2.mono (by omega)⟩
  refine Wp.ite (fun _ => ?_) (fun _ => ?_)
  · refine Wp.pick h1 (by omega) (by omega) (fun q2 r2 q20 q21 h2 => ?_)
    dsimp only
    rw [w64' (n := 1000 - q2) (by omega) (by omega)]
    exact (a7 noB noB 0 [] [] [] [] _ _ _ _ _ _ (by omega) _ hh _ _ r2 _ h2 (by omega) rfl h3).mono fun v hv => ⟨hv.1, hv.2.mono (by omega)⟩
  refine Wp.ite (fun _ => ?_) (fun _ => ?_)
  · refine Wp.pick h1 (by omega) (by omega) (fun q2 r2 q20 q21 h2 => ?_)
    dsimp only
    rw [w64' (n := 400 - q2) (by omega) (by omega), w64' (n := 400 - q2 - (w.1.Given.length : Int)) (by omega) (by omega)]
    exact a11 noB noB 0 [] [] [] [] _ _ _ _ _ _ _ r2 _ (h2.mono (by omega)) (by omega) hh.1.1 hh.2.2 _ _ rfl (by omega) hh.2.1
  refine Wp.ite (fun _ => ?_) (fun _ => ?_)
  · refine Wp.pick h1 (by omega) (by omega) (fun q2 r2 q20 q21 h2 => ?_)
    dsimp only
    have g : ∀ i : Int, (i = 0 ∨ i = 1) → ∃ y, idx w.1.Ends i = some y ∧ w.1.Ends[i.toNat]? = some y := fun i hi => by
      rw [he]
      rcases hi with rfl | rfl
      · exact ⟨e, rfl, rfl⟩
      · exact ⟨f, rfl, rfl⟩
    rw [w64' (n := 1 + q2) (by omega) (by omega), w64' (n := 2 - (1 + q2)) (by omega) (by omega), w64' (n := 1 + q2 - 1) (by omega) (by omega)]
    obtain ⟨y1, g1, g2⟩ := g (2 - (1 + q2)) (by omega)
    obtain ⟨y2, g3, g4⟩ := g (1 + q2 - 1) (by omega)
    simp only [g1, g2, g3, g4, Option.bind_some]
    refine Wp.dec (fun _ => ?_) (fun _ => ?_)
    · refine Wp.bind (specForm_ok _ _ _) (fun s hs => ?_)
      refine Wp.opt (app_ok (by simp; omega)) ?_
      exact (a18 noB noB 0 [] [] [] [] _ _ _ _ _ _ r2 h2 (by omega) _ _ hh).mono fun v hv => ⟨hv.1, hv.2.mono (by omega)⟩
    · exact (a18 noB noB 0 [] [] [] [] _ _ _ _ _ _ r2 h2 (by omega) _ _ hh).mono fun v hv => ⟨hv.1, hv.2.mono (by omega)⟩
  · exact a20 noB noB 0 [] [] [] [] _ _ _ _ _ _ r1 (h1.mono (by omega)) _ _ hh
theorem drawCalm_ok (a : List Int) (h : ∀ y ∈ a, wf_byte y) : Wp (fun k => spec_DrawCalm k a) (fun v => HistB v.1 ∧ (-1 ≤ v.2.1 ∧ v.2.1 ≤ 38)) := by
  have l6 : ∀ (x : Int) (w : DWorld) (m : Int) (r : DL1Rd), HistB w → Rd m r → m ≤ 900000 → Wp (fun k => spec_DrawCalm_l6 k x noB 0 noB r.b r.p w.Key w.Width w.Forged [] [] [] [] w.Ends w.Flight w.Given w.Taken) (fun v => HistB v.1 ∧ (-1 ≤ v.2.1 ∧ v.2.1 ≤ 38)) := fun x w m r hw hr hm => by
    refine Wp.step ?_
    simp only [spec_DrawCalm_l6]
    refine Wp.pick hr (by omega) (by omega) (fun q1 r1 q10 q11 h1 => ?_)
    dsimp only
    rw [w64' (n := q1 - 1) (by omega) (by omega)]
    exact Wp.ret ⟨hw, by dsimp only; omega⟩
  unfold spec_DrawCalm
  refine Wp.bind (open_ok a h) (fun r h0 => ?_)
  refine Wp.bind (l7Any_ok r 0 h0 (by omega)) (fun w hw => ?_)
  refine Wp.pick hw.2 (by omega) (by omega) (fun q1 r1 q10 q11 h1 => ?_)
  refine Wp.pick h1 (by omega) (by omega) (fun q2 r2 q20 q21 h2 => ?_)
  simp only [cbeq]
  refine Wp.ite (fun _ => ?_) (fun _ => l6 _ w.1 _ r2 hw.1 h2 (by omega))
  refine Wp.pick h2 (by omega) (by omega) (fun q3 r3 q30 q31 h3 => ?_)
  dsimp only
  refine Wp.from q30 (by simp; omega) (fun y hy => ?_)
  exact l6 _ w.1 _ r3 hw.1 h3 (by omega)
end Km.X
namespace Km.X
open Go Km
set_option linter.unusedVariables false
set_option linter.unusedSimpArgs false
/-! ### what a take has, in terms of Join -/
theorem joinL_append : ∀ (ps qs : List DPart) (o : ByteArray) (out g : List ByteArray) (o' : ByteArray), joinL ps o out = (g, o', true) → joinL (ps ++ qs) o out = joinL qs o' g
  | [], qs, o, out, g, o', h => by
    simp only [joinL, Prod.mk.injEq] at h
    obtain ⟨rfl, rfl, _⟩ := h; rfl
  | p :: ps, qs, o, out, g, o', h => by
    simp only [joinL, List.cons_append] at h ⊢
    split at h
    · simp only [Prod.mk.injEq] at h; exact absurd h.2.2 (by simp)
    · rename_i h1
      rw [if_neg h1]
      split at h
      · rename_i h2; rw [if_pos h2]; exact joinL_append ps qs _ _ _ _ h
      · rename_i h2; rw [if_neg h2]; exact joinL_append ps qs _ _ _ _ h
theorem joinL_out : ∀ (ps : List DPart) (o : ByteArray) (out g : List ByteArray) (o' : ByteArray), joinL ps o out = (g, o', true) → ∃ m, g = out ++ m
  | [], o, out, g, o', h => by
    simp only [joinL, Prod.mk.injEq] at h
    exact ⟨[], by rw [← h.1]; simp⟩
  | p :: ps, o, out, g, o', h => by
    simp only [joinL] at h
    split at h
    · simp only [Prod.mk.injEq] at h; exact absurd h.2.2 (by simp)
    · split at h
      · obtain ⟨m, hm⟩ := joinL_out ps _ _ _ _ h
        exact ⟨[o ++ p.Text] ++ m, by rw [hm]; simp⟩
      · exact joinL_out ps _ _ _ _ h
structure TInv (P : List DPart) (t : DTake) (g : List ByteArray) : Prop where
  V : VTake t
  M : ∀ x ∈ t.Held, 0 ≤ x.Seq ∧ P[x.Seq.toNat]? = some x.Part
  N : t.Next ≤ P.length
  J : joinL (P.take t.Next.toNat) noB [] = (g ++ t.Ready, t.Open, true)
theorem TInv.len {P : List DPart} {t : DTake} {g : List ByteArray} (h : TInv P t g) (hP : P.length ≤ 1000) : g.length + t.Ready.length ≤ 1000 := by
  have := (joinL_sm (P.take t.Next.toNat) noB [] (by simp [noB_size]) (fun y hy => by simp at hy)).1
  rw [h.J] at this
  simp only [List.length_append, List.length_nil, List.length_take] at this
  omega
/-- a beginning of the messages -/
theorem TInv.pre {P : List DPart} {t : DTake} {g : List ByteArray} (h : TInv P t g) {T : List ByteArray} {ot : ByteArray} (hT : joinL P noB [] = (T, ot, true)) : ∃ m, T = (g ++ t.Ready) ++ m := by
  have := joinL_append _ (P.drop t.Next.toNat) _ _ _ _ h.J
  rw [List.take_append_drop, hT] at this
  exact joinL_out _ _ _ _ _ this.symm
/-- the next part goes, but for a full row of messages -/
theorem joinL_head {p : DPart} {ps : List DPart} {o : ByteArray} {out : List ByteArray} {T : List ByteArray} {ot : ByteArray} (h : joinL (p :: ps) o out = (T, ot, true)) : p.Text.size ≤ 20 ∧ o.size + p.Text.size ≤ 200 := by
  simp only [joinL] at h
  split at h
  · simp only [Prod.mk.injEq] at h; exact absurd h.2.2 (by simp)
  · omega
theorem TInv.fit {P : List DPart} {t : DTake} {g : List ByteArray} (h : TInv P t g) {T : List ByteArray} {ot : ByteArray} (hT : joinL P noB [] = (T, ot, true)) {p : DPart} (hp : P[t.Next.toNat]? = some p) : t.Open.size + p.Text.size ≤ 200 := by
  have := joinL_append _ (P.drop t.Next.toNat) _ _ _ _ h.J
  rw [List.take_append_drop, hT] at this
  obtain ⟨hlt, e⟩ := List.getElem?_eq_some_iff.mp hp
  rw [List.drop_eq_getElem_cons hlt, e] at this
  exact (joinL_head this.symm).2
end Km.X
namespace Km.X
open Go Km
set_option linter.unusedVariables false
set_option linter.unusedSimpArgs false
theorem wTake_loop (n : Int) (o : ByteArray) (r : List ByteArray) : ∀ (t pre : List DHeld), (pre ++ t).length ≤ 1000 → Wp (fun k => laws_wTake_l4 k (pre.length : Int) n (pre ++ t) o r n (pre ++ t) o r) (· = true)
  | [], pre, hl => by
    refine Wp.step ?_
    simp only [laws_wTake_l4, List.append_nil]
    have hn' : ¬ (pre.length : Int) < (pre.length : Int) := by omega
    simp only [cbdec, if_neg hn']
    exact Wp.ret rfl
  | x :: t, pre, hl => by
    refine Wp.step ?_
    have hl' := hl
    simp only [List.length_append, List.length_cons] at hl
    simp only [laws_wTake_l4]
    simp only [cbdec, lt_mid, if_true, idx_mid, Option.bind_some, beq_self_eq_true, Bool.and_self, Bool.not_true, cond_false]
    rw [w64' (by omega) (by omega)]
    have ih := wTake_loop n o r t (pre ++ [x]) (by simpa using hl')
    rw [← mid_succ, ← mid_len] at ih
    exact ih
theorem wTake_ok (t : DTake) (h : VTake t) : Wp (fun k => laws_wTake k t t) (· = true) := by
  unfold laws_wTake
  simp only [cbne, if_true, cbnot, cbseq]
  refine Wp.bind (wTexts_ok _ (by have := h.2.2.2.1; omega)) (fun _ q => ?_); subst q
  simp only [cond_true]
  exact wTake_loop _ _ _ t.Held [] (by have := h.2.1; simp; omega)
section
variable {P : List DPart} {T : List ByteArray} {ot : ByteArray} (hT : joinL P noB [] = (T, ot, true)) (hP : P.length ≤ 60)
include hT hP
end
end Km.X
namespace Km.X
open Go Km
set_option linter.unusedVariables false
set_option linter.unusedSimpArgs false
theorem wSend_loop (b : Int) : ∀ (t pre : List DItem), (pre ++ t).length ≤ 1000 → Wp (fun k => laws_wSend_l4 k (pre.length : Int) b (pre ++ t) b (pre ++ t)) (· = true)
  | [], pre, hl => by
    refine Wp.step ?_
    simp only [laws_wSend_l4, List.append_nil]
    have hn' : ¬ (pre.length : Int) < (pre.length : Int) := by omega
    simp only [cbdec, if_neg hn']
    exact Wp.ret rfl
  | x :: t, pre, hl => by
    refine Wp.step ?_
    have hl' := hl
    simp only [List.length_append, List.length_cons] at hl
    simp only [laws_wSend_l4]
    simp only [cbdec, lt_mid, if_true, idx_mid, Option.bind_some, beq_self_eq_true, Bool.and_self, Bool.not_true, cond_false]
    rw [w64' (by omega) (by omega)]
    have ih := wSend_loop b t (pre ++ [x]) (by simpa using hl')
    rw [← mid_succ, ← mid_len] at ih
    exact ih
theorem wSend_ok (s : DSend) (h : VSend s) : Wp (fun k => laws_wSend k s s) (· = true) := by
  unfold laws_wSend
  simp only [cbne, if_true]
  exact wSend_loop s.Base s.Items [] (by have := h.1; show s.Items.length ≤ 1000; omega)
end Km.X
namespace Km.X
open Go Km
set_option linter.unusedVariables false
set_option linter.unusedSimpArgs false
/-! ### a valid world is itself -/
theorem wEnd_ok (e : DEnd) (h : VEnd e) : Wp (fun k => laws_wEnd k e e) (· = true) := by
  unfold laws_wEnd
  simp only [cbeq, cbbeq, if_true]
  refine Wp.bind (wSend_ok _ h.2.2.2.2.1) (fun _ q => ?_); subst q
  simp only [cond_true]
  refine Wp.bind (wTake_ok _ h.2.2.2.2.2.1) (fun _ q => ?_); subst q
  exact Wp.ret rfl
theorem wRecords_loop : ∀ (t pre : List DRecord), (pre ++ t).length ≤ 1000 → Wp (fun k => laws_wRecords_l4 k (pre ++ t) (pre ++ t) (pre.length : Int)) (· = true)
  | [], pre, hl => by
    refine Wp.step ?_
    simp only [laws_wRecords_l4, List.append_nil]
    exact Wp.dec (fun g => by omega) (fun _ => Wp.ret rfl)
  | x :: t, pre, hl => by
    have hl' := hl
    simp only [List.length_append, List.length_cons] at hl
    refine Wp.step ?_
    simp only [laws_wRecords_l4]
    refine Wp.dec (fun _ => ?_) (fun g => absurd (by simp; omega) g)
    simp only [idx_mid, Option.bind_some, beq_self_eq_true, Bool.and_self, Bool.not_true, cond_false]
    rw [w64' (by omega) (by omega)]
    have := wRecords_loop t (pre ++ [x]) (by simpa using hl')
    simpa using this
theorem wRecords_ok (l : List DRecord) (h : l.length ≤ 1000) : Wp (fun k => laws_wRecords k l l) (· = true) := by
  unfold laws_wRecords
  simp only [cbne, if_true]
  exact wRecords_loop l [] (by simpa using h)
theorem wW9 (K Fo : ByteArray) (W : Int) (Es : List DEnd) (Gi Ta : List DRecord) : ∀ (t pre : List DParcel), (pre ++ t).length ≤ 2000 → Wp (fun k => laws_wWorld_l9 k (pre.length : Int) K W Es (pre ++ t) Fo Gi Ta K W Es (pre ++ t) Fo Gi Ta) (· = true)
  | [], pre, hl => by
    refine Wp.step ?_
    simp only [laws_wWorld_l9, List.append_nil]
    exact Wp.dec (fun g => by omega) (fun _ => Wp.ret rfl)
  | x :: t, pre, hl => by
    have hl' := hl
    simp only [List.length_append, List.length_cons] at hl
    refine Wp.step ?_
    simp only [laws_wWorld_l9]
    refine Wp.dec (fun _ => ?_) (fun g => absurd (by simp; omega) g)
    simp only [idx_mid, Option.bind_some, beq_self_eq_true, Bool.and_self, Bool.not_true, cond_false]
    rw [w64' (by omega) (by omega)]
    have := wW9 K Fo W Es Gi Ta t (pre ++ [x]) (by simpa using hl')
    simpa using this
theorem wW4 (K Fo : ByteArray) (W : Int) (Fl : List DParcel) (Gi Ta : List DRecord) (hF : Fl.length ≤ 2000) : ∀ (t pre : List DEnd), (pre ++ t).length ≤ 1000 → (∀ e ∈ t, VEnd e) → Wp (fun k => laws_wWorld_l4 k (pre.length : Int) K W (pre ++ t) Fl Fo Gi Ta K W (pre ++ t) Fl Fo Gi Ta) (· = true)
  | [], pre, hl, hv => by
    refine Wp.step ?_
    simp only [laws_wWorld_l4, List.append_nil]
    exact Wp.dec (fun g => by omega) (fun _ => wW9 K Fo W pre Gi Ta Fl [] (by simpa using hF))
  | x :: t, pre, hl, hv => by
    have hl' := hl
    simp only [List.length_append, List.length_cons] at hl
    refine Wp.step ?_
    simp only [laws_wWorld_l4]
    refine Wp.dec (fun _ => ?_) (fun g => absurd (by simp; omega) g)
    simp only [idx_mid, Option.bind_some]
    refine Wp.bind (wEnd_ok x (hv x (by simp))) (fun _ q => ?_); subst q
    simp only [Bool.not_true, cond_false]
    rw [w64' (by omega) (by omega)]
    have := wW4 K Fo W Fl Gi Ta hF t (pre ++ [x]) (by simpa using hl') (fun e he => hv e (by simp [he]))
    simpa using this
theorem wWorld_ok (w : DWorld) (h : VWorld w ∨ w = noWorld) : Wp (fun k => laws_wWorld k w w) (· = true) := by
  have hs : (w.Given.length ≤ 1000 ∧ w.Taken.length ≤ 1000) ∧ w.Flight.length ≤ 2000 ∧ w.Ends.length ≤ 1000 ∧ ∀ e ∈ w.Ends, VEnd e := by
    rcases h with h | rfl
    · have h4 := h.2.2.2.1
      have h3 := h.2.2.1
      obtain ⟨e, f, he, a1, _, a2, _⟩ := vends_two h.2.2.2.2.1
      refine ⟨by omega, by omega, by rw [he]; simp, fun x hx => ?_⟩
      rw [he] at hx
      simp only [List.mem_cons, List.not_mem_nil, or_false] at hx
      rcases hx with rfl | rfl
      · exact a1
      · exact a2
    · exact ⟨⟨by simp [noWorld], by simp [noWorld]⟩, by simp [noWorld], by simp [noWorld], fun e he => by simp [noWorld] at he⟩
  unfold laws_wWorld
  simp only [cbnot, cbseq, cbne, if_true]
  refine Wp.bind (wRecords_ok _ hs.1.1) (fun _ q => ?_); subst q
  simp only [cond_true]
  refine Wp.bind (wRecords_ok _ hs.1.2) (fun _ q => ?_); subst q
  simp only [cond_true]
  exact wW4 w.Key w.Forged w.Width w.Flight w.Given w.Taken hs.2.1 w.Ends [] (by simpa using hs.2.2.1) hs.2.2.2
end Km.X
namespace Km.X
open Go Km
set_option linter.unusedVariables false
set_option linter.unusedSimpArgs false
def flow1 : List DParcel → DWorld → DWorld
  | [], w => w
  | p :: t, w => flow1 t (bringW w p)
def round1 (w : DWorld) : DWorld := pullsW 2 4 (pullsW 1 4 (flow1 (tickW w).Flight (setFl (tickW w) [])))
def rounds1 : Nat → DWorld → DWorld
  | 0, w => w
  | d + 1, w => rounds1 d (round1 w)
theorem flow1_eq : ∀ (t : List DParcel) (h : List DKey) (w : DWorld), (flowW 1 t h w).1 = flow1 t w
  | [], h, w => rfl
  | p :: t, h, w => by
    simp only [flowW, flow1]
    rw [if_pos (Int.emod_one _), flow1_eq t]
theorem round1_eq (s : DWorld × List DKey) : (roundW 1 s).1 = round1 s.1 := by
  unfold roundW round1
  dsimp only
  rw [flow1_eq]
theorem rounds1_eq : ∀ (d : Nat) (s : DWorld × List DKey), (roundsW 1 d s).1 = rounds1 d s.1
  | 0, s => rfl
  | d + 1, s => by simp only [roundsW, rounds1]; rw [rounds1_eq d, round1_eq]
theorem rounds1_add : ∀ (a b : Nat) (w : DWorld), rounds1 (a + b) w = rounds1 b (rounds1 a w)
  | 0, b, w => by rw [Nat.zero_add]; rfl
  | a + 1, b, w => by rw [show a + 1 + b = (a + b) + 1 by omega]; simp only [rounds1]; exact rounds1_add a b (round1 w)
theorem calm1 {w : DWorld} (h : VWorld w) {n : Int} (hn : 0 ≤ n ∧ n ≤ 5000) : calmM w n 1 = rounds1 n.toNat w := by
  unfold calmM
  rw [if_pos ⟨h, by omega⟩, rounds1_eq, show min n 5000 = n by omega]
theorem pull_fl (w : DWorld) (n : Int) : (pullW w n).Flight = w.Flight := by unfold pullW; split <;> rfl
theorem pulls_fl (n : Int) : ∀ (d : Nat) (w : DWorld), (pullsW n d w).Flight = w.Flight
  | 0, w => rfl
  | d + 1, w => by
    simp only [pullsW]
    split
    · rfl
    · rw [pulls_fl n d, pull_fl]
theorem flow1_fl : ∀ (t : List DParcel) (w : DWorld), (flow1 t w).Flight = w.Flight
  | [], w => rfl
  | p :: t, w => by simp only [flow1]; rw [flow1_fl t, bring_fl]
theorem round1_fl (w : DWorld) : (round1 w).Flight = [] := by unfold round1; rw [pulls_fl, pulls_fl, flow1_fl]; rfl
theorem rounds1_fl : ∀ (d : Nat) (w : DWorld), (rounds1 (d + 1) w).Flight = []
  | 0, w => round1_fl w
  | d + 1, w => rounds1_fl d (round1 w)
theorem noWorld_V : ¬ VWorld noWorld := fun h => by have := h.1.1; simp [noWorld] at this
theorem calm_or (w : DWorld) (n ev : Int) : VWorld (calmM w n ev) ∨ calmM w n ev = noWorld := by
  by_cases h : VWorld w ∧ (1 ≤ ev ∧ ev ≤ 10)
  · exact .inl (calmM_V h.1 h.2)
  · right; unfold calmM; rw [if_neg h]
theorem calm_no {w : DWorld} (h : ¬ VWorld w) (n ev : Int) : calmM w n ev = noWorld := by unfold calmM; rw [if_neg (fun g => h g.1)]
theorem hist_or {w : DWorld} (h : VWorld w ∨ w = noWorld) : w.Given.length ≤ 1048576 ∧ w.Taken.length ≤ 1048576 := by
  rcases h with h | h
  · exact vw_hist h
  · rw [h]; exact ⟨by simp [noWorld], by simp [noWorld]⟩
theorem calm8 (more : List Int) (w : DWorld) (hb : w.Given.length ≤ 1048576 ∧ w.Taken.length ≤ 1048576) (n : Int) (hn : 0 ≤ n ∧ n ≤ 38) : Wp (fun k => laws_FnCalm_l8 k more n w.Key w.Width w.Forged w.Ends w.Flight w.Given w.Taken) (· = true) := by
  refine Wp.step ?_
  simp only [laws_FnCalm_l8]
  refine Wp.opt (qrem_nn (by omega) (by omega)) ?_
  generalize hm : (more.length : Int) % 11 = m
  have hm0 : 0 ≤ m ∧ m ≤ 10 := by omega
  rw [w64' (n := n + m) (by omega) (by omega)]
  refine Wp.bind (implCalm_ok w hb n 1) (fun x hx => ?_)
  have hxo : VWorld x ∨ x = noWorld := by rw [hx]; exact calm_or _ _ _
  refine Wp.bind (implCalm_ok x (hist_or hxo) m 1) (fun y hy => ?_)
  refine Wp.bind (implCalm_ok w hb (n + m) 1) (fun z hz => ?_)
  have hzo : VWorld z ∨ z = noWorld := by rw [hz]; exact calm_or _ _ _
  have hyz : y = z := by
    by_cases hv : VWorld w
    · have hxv : VWorld x := by rw [hx]; exact calmM_V hv (by omega)
      rw [hy, hz, calm1 hxv (by omega), calm1 hv (by omega), hx, calm1 hv (by omega), show (n + m).toNat = n.toNat + m.toNat by omega, rounds1_add]
    · rw [hy, hz, calm_no hv, hx, calm_no hv, calm_no noWorld_V]
  rw [hyz]
  refine Wp.bind (wWorld_ok z hzo) (fun _ e => ?_); subst e
  simp only [Bool.not_true, cond_false]
  refine Wp.bind (specValidWorld_ok w hb) (fun _ e => ?_); subst e
  refine Wp.not (fun hv => ?_) (fun hv => ?_)
  · have hz' : z = noWorld := by rw [hz, calm_no (of_decide_eq_false hv)]
    rw [hz']
    refine Wp.bind (wWorld_ok noWorld (.inr rfl)) (fun _ e => ?_); subst e
    exact Wp.ret rfl
  have hv := of_decide_eq_true hv
  have last : Wp (fun k => (impl_Calm k w 0 1).bind fun r12 => (laws_wWorld k r12 w).bind fun r13 => some r13) (· = true) := by
    refine Wp.bind (implCalm_ok w hb 0 1) (fun u hu => ?_)
    have hu' : u = w := by rw [hu, calm1 hv (by omega)]; rfl
    rw [hu']
    refine Wp.bind (wWorld_ok w (.inl hv)) (fun _ e => ?_); subst e
    exact Wp.ret rfl
  simp only [cbeq]
  refine Wp.ite (fun _ => last) (fun hne => ?_)
  refine Wp.ite (fun _ => last) (fun hf => ?_)
  refine absurd ?_ hf
  rw [hz, calm1 hv (by omega), show (n + m).toNat = ((n + m).toNat - 1) + 1 by omega, rounds1_fl]; rfl
theorem exact_FnCalm (a b : List Int) (h0 : a.length ≤ maxLen ∧ ∀ y ∈ a, wf_byte y) (h1 : b.length ≤ maxLen ∧ ∀ y ∈ b, wf_byte y) : ∃ k, laws_FnCalm k a b = some true := by
  have h := h0.2
  refine Wp.exists ?_
  unfold laws_FnCalm
  refine Wp.dec (fun _ => Wp.ret rfl) (fun _ => ?_)
  refine Wp.dec (fun _ => Wp.ret rfl) (fun _ => ?_)
  refine Wp.bind (drawCalm_ok a h) ?_
  rintro ⟨w, n, ev⟩ ⟨hh, hn⟩
  dsimp only at hh hn ⊢
  have hb := hist_big hh
  refine Wp.bind (implCalm_ok w hb n ev) (fun _ e => ?_); subst e
  refine Wp.bind (specCalm_ok w hb n ev) (fun _ e => ?_); subst e
  refine Wp.bind (wWorld_ok _ (calm_or w n ev)) (fun _ e => ?_); subst e
  simp only [Bool.not_true, cond_false]
  exact Wp.dec (fun _ => calm8 b w hb 0 (by omega)) (fun g => calm8 b w hb n (by omega))
end Km.X
