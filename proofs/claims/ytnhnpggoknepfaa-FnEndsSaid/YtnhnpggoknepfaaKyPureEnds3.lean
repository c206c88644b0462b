/- A part of the proof of FnEnds: plain laws of these functions. There is no condition. -/
import Derived.Test.YtnhnpggoknepfaaKyPureEnds2
import Derived.Test.YtnhnpggoknepfaaKyPureEnds1
import Derived.Test.YtnhnpggoknepfaaKxDef2
namespace Km.X
open Go Km
set_option linter.unusedVariables false
set_option linter.unusedSimpArgs false
/-! ### drawn takes -/
def DTk (m : Int) (v : DTake × DL1Rd) : Prop := VTake v.1 ∧ Rd m v.2
theorem vt_len {t : DTake} (h : VTake t) : t.Held.length ≤ 1048576 ∧ t.Ready.length ≤ 1048576 := by have := h.2.1; have := h.2.2.2.1; omega
theorem t3 (e : ByteArray) (c : Int) (g : ByteArray) (y : List DHeld) (z : List ByteArray) : ∀ (d : Nat) (n : Int) (r : DL1Rd) (t : DTake), VTake t → Rd n r → n + 10 * d ≤ 800000 →
    Wp (fun k => spec_l5Draw_l3 k (d : Int) r.b r.p c e t.Next t.Open y z t.Held t.Ready) (DTk (n + 10 * d))
  | 0, n, r, t, ht, hr, hn => by
    refine Wp.step ?_
    simp only [spec_l5Draw_l3]
    refine Wp.dec (fun g => by omega) (fun _ => ?_)
    refine Wp.bind (l5Copy_ok t (vt_len ht).1 (vt_len ht).2) (fun x hx => ?_); rw [hx]
    exact Wp.ret ⟨ht, hr.mono (by omega)⟩
  | d + 1, n, r, t, ht, hr, hn => by
    have hn0 : 0 ≤ n := by have := hr.2.2; omega
    have l4 : ∀ (t' : DTake) (r' : DL1Rd), VTake t' → Rd (n + 10) r' → Wp (fun k => spec_l5Draw_l4 k ((d + 1 : Nat) : Int) r'.b r'.p c e t'.Next t'.Open y z t'.Held t'.Ready) (DTk (n + 10 * ((d + 1 : Nat) : Int))) := fun t' r' h1 h2 => by
      refine Wp.step ?_
      simp only [spec_l5Draw_l4]
      rw [w64' (n := ((d + 1 : Nat) : Int) - 1) (by omega) (by omega), show ((d + 1 : Nat) : Int) - 1 = (d : Int) by omega]
      exact (t3 e c g y z d (n + 10) r' t' h1 h2 (by omega)).mono fun v hv => ⟨hv.1, hv.2.mono (by omega)⟩
    have l9 : ∀ (q : Int) (r' : DL1Rd), Rd (n + 5) r' → Wp (fun k => spec_l5Draw_l9 k ((d + 1 : Nat) : Int) q r'.b r'.p c e t.Next t.Open y z t.Held t.Ready) (DTk (n + 10 * ((d + 1 : Nat) : Int))) := fun q r' h2 => by
      refine Wp.step ?_
      simp only [spec_l5Draw_l9]
      refine Wp.pick h2 (by omega) (by omega) (fun q1 r1 q10 q11 h1 => ?_)
      dsimp only
      refine Wp.from q10 (by simp; omega) (fun u hu => ?_)
      simp only [List.mem_cons, List.not_mem_nil, or_false] at hu
      refine Wp.bind (many_ok _ _ 20 (by omega) (by show 1 * _ ≤ 20; omega) (by omega)) (fun m hm => ?_)
      refine Wp.pick h1 (by omega) (by omega) (fun q2 r2 q20 q21 h3 => ?_)
      refine Wp.bind (specPart_ok t _ _) (fun x hx => ?_)
      exact l4 x r2 (by rw [hx]; exact partM_V _ _ _) (h3.mono (by omega))
    refine Wp.step ?_
    simp only [spec_l5Draw_l3]
    refine Wp.dec (fun _ => ?_) (fun g => by omega)
    refine Wp.pick hr (by omega) (by omega) (fun q1 r1 q10 q11 h1 => ?_)
    simp only [cbeq]
    refine Wp.ite (fun _ => ?_) (fun _ => ?_)
    · refine Wp.bind (specPull_ok t) (fun x hx => ?_)
      exact l4 x.1 r1 (by rw [hx]; exact (pullM_ok t).1) (h1.mono (by omega))
    · refine Wp.pick h1 (by omega) (by omega) (fun q2 r2 q20 q21 h2 => ?_)
      dsimp only
      refine Wp.ite (fun _ => ?_) (fun _ => l9 _ r2 (h2.mono (by omega)))
      refine Wp.pick h2 (by omega) (by omega) (fun q3 r3 q30 q31 h3 => ?_)
      exact l9 _ r3 (h3.mono (by omega))
theorem l5Draw_ok (r : DL1Rd) (n : Int) (hr : Rd n r) (hn : n ≤ 700000) : Wp (fun k => spec_l5Draw k r) (DTk (n + 300)) := by
  unfold spec_l5Draw
  refine Wp.pick hr (by omega) (by omega) (fun q1 r1 q10 q11 h1 => ?_)
  dsimp only
  refine Wp.from q10 (by simp; omega) (fun u hu => ?_)
  simp only [List.mem_cons, List.not_mem_nil, or_false] at hu
  refine Wp.pick h1 (by omega) (by omega) (fun q2 r2 q20 q21 h2 => ?_)
  dsimp only
  have hv : VTake ⟨u, [], noB, []⟩ := ⟨by dsimp only; omega, by simp, by simp [noB_size], by simp, fun s hs => by simp at hs, trivial, fun x hx => by simp at hx⟩
  have := t3 noB 0 noB [] [] q2.toNat (n + 2) r2 ⟨u, [], noB, []⟩ hv (h2.mono (by omega)) (by omega)
  rw [Int.toNat_of_nonneg q20] at this
  exact this.mono fun v hv => ⟨hv.1, hv.2.mono (by omega)⟩
theorem t20 (m : Int) (r : DL1Rd) (c n : Int) (e o : ByteArray) (y : List DHeld) (z : List ByteArray) (h : List DHeld) (s : List ByteArray) (hr : Rd m r) : Wp (fun k => spec_l5Spoil_l20 k r.b r.p c e n o y z h s) (fun v => Rd m v.2) := by
  refine Wp.step ?_
  simp only [spec_l5Spoil_l20]
  exact Wp.ret hr
theorem t15 (m x0 : Int) (r : DL1Rd) (c n : Int) (e o : ByteArray) (y : List DHeld) (z : List ByteArray) (h : List DHeld) (hr : Rd m r) (hx : x0 ≤ 100) : ∀ (d : Nat) (s : List ByteArray), d = (x0 - s.length).toNat → s.length ≤ 1000 → Wp (fun k => spec_l5Spoil_l15 k x0 r.b r.p c e n o y z h s) (fun v => Rd m v.2)
  | 0, s, hd, hs => by
    refine Wp.step ?_
    simp only [spec_l5Spoil_l15]
    exact Wp.dec (fun g => by omega) (fun _ => t20 m r c n e o y z h s hr)
  | d + 1, s, hd, hs => by
    refine Wp.step ?_
    simp only [spec_l5Spoil_l15]
    refine Wp.dec (fun _ => ?_) (fun g => by omega)
    refine Wp.opt (app_ok (by simp; omega)) ?_
    exact t15 m x0 r c n e o y z h hr hx d (s ++ [noB]) (by simp; omega) (by simp; omega)
theorem l5Spoil_ok (r : DL1Rd) (t : DTake) (n : Int) (hr : Rd n r) (hn : n ≤ 800000) (ht : VTake t) : Wp (fun k => spec_l5Spoil k r t) (fun v => Rd (n + 10) v.2) := by
  unfold spec_l5Spoil
  refine Wp.bind (l5Copy_ok t (vt_len ht).1 (vt_len ht).2) (fun x hx => ?_); have e' := hx.symm; subst e'
  have hl := ht.2.1
  have hl' := ht.2.2.2.1
  refine Wp.pick hr (by omega) (by omega) (fun q1 r1 q10 q11 h1 => ?_)
  simp only [cbeq, both_self, cbdec]
  refine Wp.ite (fun _ => ?_) (fun _ => ?_)
  · refine Wp.pick h1 (by omega) (by omega) (fun q2 r2 q20 q21 h2 => ?_)
    dsimp only
    refine Wp.from2 q20 (by simp; omega) (fun y hy => ?_)
    exact t20 _ r2 _ _ _ _ _ _ _ _ (h2.mono (by omega))
  refine Wp.ite (fun _ => ?_) (fun _ => ?_)
  · refine Wp.pick h1 (by omega) (by omega) (fun q2 r2 q20 q21 h2 => ?_)
    refine Wp.opt (app_ok (by simp; omega)) ?_
    exact t20 _ r2 _ _ _ _ _ _ _ _ (h2.mono (by omega))
  refine Wp.ite (fun _ => ?_) (fun _ => ?_)
  · refine Wp.pick h1 (by omega) (by omega) (fun q2 r2 q20 q21 h2 => ?_)
    dsimp only
    rw [w64' (n := 200 + q2) (by omega) (by omega)]
    refine Wp.bind (many_ok _ _ 201 (by omega) (by show 1 * _ ≤ 201; omega) (by omega)) (fun m hm => ?_)
    exact t20 _ r2 _ _ _ _ _ _ _ _ (h2.mono (by omega))
  refine Wp.ite (fun _ => ?_) (fun _ => ?_)
  · refine Wp.pick h1 (by omega) (by omega) (fun q2 r2 q20 q21 h2 => ?_)
    dsimp only
    rw [w64' (n := 200 + q2) (by omega) (by omega)]
    refine Wp.bind (many_ok _ _ 201 (by omega) (by show 1 * _ ≤ 201; omega) (by omega)) (fun m hm => ?_)
    refine Wp.opt (app_ok (by simp; omega)) ?_
    exact t20 _ r2 _ _ _ _ _ _ _ _ (h2.mono (by omega))
  refine Wp.ite (fun _ => ?_) (fun _ => ?_)
  · refine Wp.pick h1 (by omega) (by omega) (fun q2 r2 q20 q21 h2 => ?_)
    dsimp only
    rw [w64' (n := 4 + q2) (by omega) (by omega)]
    exact t15 _ _ r2 _ _ _ _ _ _ _ (h2.mono (by omega)) (by omega) _ _ rfl (by omega)
  refine Wp.ite (fun _ => ?_) (fun _ => ?_)
  · refine Wp.ite (fun hp => ?_) (fun _ => t20 _ r1 _ _ _ _ _ _ _ _ (h1.mono (by omega)))
    refine Wp.pick h1 (by omega) (by omega) (fun q2 r2 q20 q21 h2 => ?_)
    dsimp only
    rw [w64' (n := 20 + q2) (by omega) (by omega)]
    refine Wp.bind (many_ok _ _ 21 (by omega) (by show 1 * _ ≤ 21; omega) (by omega)) (fun m hm => ?_)
    refine Wp.from2 (by omega) (by omega) (fun y hy => ?_)
    exact t20 _ r2 _ _ _ _ _ _ _ _ (h2.mono (by omega))
  · refine Wp.ite (fun hp => ?_) (fun _ => t20 _ r1 _ _ _ _ _ _ _ _ (h1.mono (by omega)))
    refine Wp.from2 (by omega) (by omega) (fun y hy => ?_)
    refine Wp.opt (app_ok (by simp; omega)) ?_
    exact t20 _ r1 _ _ _ _ _ _ _ _ (h1.mono (by omega))
theorem l5Any_ok (r : DL1Rd) (n : Int) (hr : Rd n r) (hn : n ≤ 700000) : Wp (fun k => spec_l5Any k r) (fun v => Rd (n + 320) v.2) := by
  unfold spec_l5Any
  refine Wp.bind (l5Draw_ok r n hr hn) (fun t ht => ?_)
  refine Wp.pick ht.2 (by omega) (by omega) (fun q1 r1 q10 q11 h1 => ?_)
  simp only [cbeq]
  refine Wp.ite (fun _ => ?_) (fun _ => Wp.ret (h1.mono (by omega)))
  refine Wp.bind (l5Spoil_ok r1 t.1 _ h1 (by omega) ht.1) (fun v hv => ?_)
  exact Wp.ret (hv.mono (by omega))
/-! ### drawn ends -/
theorem e20 (m : Int) (r : DL1Rd) (hr : Rd m r) (a : Int) (b : Bool) (c d e : Int) (f : Bool) (g h : Int) (i : ByteArray) (a' : Int) (b' : Bool) (c' d' e' : Int) (f' : Bool) (g' h' : Int) (i' : ByteArray) (l1 : List DItem) (l2 : List DHeld) (l3 : List ByteArray) (l4 : List DItem) (l5 : List DHeld) (l6 : List ByteArray) :
    Wp (fun k => spec_l6Spoil_l20 k r.b r.p a b c d e f g h i a' b' c' d' e' f' g' h' i' l1 l2 l3 l4 l5 l6) (fun v => Rd m v.2) := by
  refine Wp.step ?_
  simp only [spec_l6Spoil_l20]
  exact Wp.ret hr
theorem l6Spoil_ok (r : DL1Rd) (e : DEnd) (n : Int) (hr : Rd n r) (hn : 0 ≤ n ∧ n ≤ 300000) (he : VEnd e) : Wp (fun k => spec_l6Spoil k r e) (fun v => Rd (n + 400) v.2) := by
  unfold spec_l6Spoil
  refine Wp.bind (l6Copy_ok e he) (fun x hx => ?_); have e' := hx.symm; subst e'
  refine Wp.pick hr (by omega) (by omega) (fun q1 r1 q10 q11 h1 => ?_)
  simp only [cbeq]
  refine Wp.ite (fun _ => ?_) (fun _ => ?_)
  · refine Wp.pick h1 (by omega) (by omega) (fun q2 r2 q20 q21 h2 => ?_)
    exact e20 _ r2 (h2.mono (by omega)) ..
  refine Wp.ite (fun _ => e20 _ r1 (h1.mono (by omega)) ..) (fun _ => ?_)
  refine Wp.ite (fun _ => ?_) (fun _ => ?_)
  · refine Wp.pick h1 (by omega) (by omega) (fun q2 r2 q20 q21 h2 => ?_)
    dsimp only
    refine Wp.from q20 (by simp; omega) (fun y hy => ?_)
    exact e20 _ r2 (h2.mono (by omega)) ..
  refine Wp.ite (fun _ => ?_) (fun _ => ?_)
  · refine Wp.pick h1 (by omega) (by omega) (fun q2 r2 q20 q21 h2 => ?_)
    dsimp only
    refine Wp.from q20 (by simp; omega) (fun y hy => ?_)
    exact e20 _ r2 (h2.mono (by omega)) ..
  refine Wp.ite (fun _ => ?_) (fun _ => ?_)
  · refine Wp.pick h1 (by omega) (by omega) (fun q2 r2 q20 q21 h2 => ?_)
    dsimp only
    refine Wp.from q20 (by simp; omega) (fun y hy => ?_)
    exact e20 _ r2 (h2.mono (by omega)) ..
  refine Wp.ite (fun _ => e20 _ r1 (h1.mono (by omega)) ..) (fun _ => ?_)
  refine Wp.ite (fun _ => ?_) (fun _ => ?_)
  · refine Wp.bind (l4Any_ok r1 _ h1 (by omega)) (fun v hv => ?_)
    exact e20 _ v.2 (Rd.mono hv (by omega)) ..
  refine Wp.ite (fun _ => ?_) (fun _ => ?_)
  · refine Wp.bind (l5Any_ok r1 _ h1 (by omega)) (fun v hv => ?_)
    exact e20 _ v.2 (Rd.mono hv (by omega)) ..
  · refine Wp.bind (l5Spoil_ok r1 _ _ h1 (by omega) he.2.2.2.2.2.1) (fun v hv => ?_)
    exact e20 _ v.2 (Rd.mono hv (by omega)) ..
theorem e9 (m : Int) (r : DL1Rd) (hr : Rd m r) (a : Int) (b : Bool) (c d e : Int) (f : Bool) (g h : Int) (i : ByteArray) (a' : Int) (b' : Bool) (c' d' e' : Int) (f' : Bool) (g' : Int) (l1 : List DItem) (h' : Int) (l2 : List DHeld) (i' : ByteArray) (l3 : List ByteArray) (l4 : List DItem) (l5 : List DHeld) (l6 : List ByteArray) :
    Wp (fun k => spec_l6Any_l9 k r.b r.p a b c d e f g h i a' b' c' d' e' f' g' l1 h' l2 i' l3 l4 l5 l6) (fun v => Rd m v.2) := by
  refine Wp.step ?_
  simp only [spec_l6Any_l9]
  exact Wp.ret hr
theorem l6Any_ok (r : DL1Rd) (n : Int) (hr : Rd n r) (hn : 0 ≤ n ∧ n ≤ 200000) : Wp (fun k => spec_l6Any k r) (fun v => Rd (n + 3500) v.2) := by
  unfold spec_l6Any
  refine Wp.bind (l7Reached_ok r n hr (by omega)) (fun w hw => ?_)
  obtain ⟨e, f, he, a1, _, a2, _⟩ := vends_two hw.1.V.2.2.2.2.1
  refine Wp.pick hw.2 (by omega) (by omega) (fun q1 r1 q10 q11 h1 => ?_)
  dsimp only
  refine Wp.from2 q10 (by rw [he]; simp; omega) (fun y hy => ?_)
  have hv : VEnd y := by
    rw [he] at hy
    simp only [List.mem_cons, List.not_mem_nil, or_false] at hy
    rcases hy with rfl | rfl
    · exact a1
    · exact a2
  refine Wp.pick h1 (by omega) (by omega) (fun q2 r2 q20 q21 h2 => ?_)
  simp only [cbeq]
  refine Wp.ite (fun _ => ?_) (fun _ => ?_)
  · refine Wp.bind (l6Spoil_ok r2 y _ h2 (by omega) hv) (fun v hv => ?_)
    exact Wp.ret (Rd.mono hv (by omega))
  refine Wp.ite (fun _ => ?_) (fun _ => e9 _ r2 (h2.mono (by omega)) ..)
  refine Wp.pick h2 (by omega) (by omega) (fun q3 r3 q30 q31 h3 => ?_)
  refine Wp.bif (fun _ => ?_) (fun _ => e9 _ r3 (h3.mono (by omega)) ..)
  refine Wp.pick h3 (by omega) (by omega) (fun q4 r4 q40 q41 h4 => ?_)
  dsimp only
  refine Wp.from q40 (by simp; omega) (fun y hy => ?_)
  exact e9 _ r4 (h4.mono (by omega)) ..
end Km.X
namespace Km.X
open Go Km
set_option linter.unusedVariables false
set_option linter.unusedSimpArgs false
/-! ### an end, and what it is given -/
theorem de16 (x0 : Int) (x1 : Bool) (x2 : Int) (x3 : Int) (x4 : Int) (x5 : Bool) (x6 : Int) (x7 : Int) (x8 : ByteArray) (x9 : Int) (x10 : Int) (x11 : Int) (x12 : Int) (x13 : Int) (x14 : Int) (x15 : Int) (x16 : Bool) (x17 : ByteArray) (x18 : Int) (x19 : Bool) (x20 : Int) (x21 : Int) (x22 : Int) (x23 : Bool) (x24 : Int) (x25 : List DItem) (x26 : Int) (x27 : List DHeld) (x28 : ByteArray) (x29 : List ByteArray) (x30 : Int) (x31 : Int) (x32 : Int) (x33 : Int) (x34 : Int) (x35 : Int) (x36 : Int) (x37 : Bool) (x38 : ByteArray) (x39 : List DItem) (x40 : List DHeld) (x41 : List ByteArray) : Wp (fun k => spec_DrawEndTake_l16 k x0 x1 x2 x3 x4 x5 x6 x7 x8 x9 x10 x11 x12 x13 x14 x15 x16 x17 x18 x19 x20 x21 x22 x23 x24 x25 x26 x27 x28 x29 x30 x31 x32 x33 x34 x35 x36 x37 x38 x39 x40 x41) (fun _ => True) := by
  refine Wp.step ?_
  simp only [spec_DrawEndTake_l16]
  exact Wp.ret trivial
theorem de14 (r : DL1Rd) (n : Int) (hr : Rd n r) (hn : n ≤ 100000) (x0 : Int) (x1 : Bool) (x2 : Int) (x3 : Int) (x4 : Int) (x5 : Bool) (x6 : Int) (x7 : Int) (x8 : ByteArray) (x9 : Int) (x10 : Int) (x11 : Int) (x12 : Int) (x13 : Int) (x14 : Int) (x15 : Int) (x16 : Bool) (x17 : ByteArray) (x20 : Int) (x21 : Bool) (x22 : Int) (x23 : Int) (x24 : Int) (x25 : Bool) (x26 : Int) (x27 : List DItem) (x28 : Int) (x29 : List DHeld) (x30 : ByteArray) (x31 : List ByteArray) (x32 : Int) (x33 : Int) (x34 : Int) (x35 : Int) (x36 : Int) (x37 : Int) (x38 : Int) (x39 : Bool) (x40 : ByteArray) (x41 : List DItem) (x42 : List DHeld) (x43 : List ByteArray) (hp : x40.size ≤ 20) : Wp (fun k => spec_DrawEndTake_l14 k x0 x1 x2 x3 x4 x5 x6 x7 x8 x9 x10 x11 x12 x13 x14 x15 x16 x17 r.b r.p x20 x21 x22 x23 x24 x25 x26 x27 x28 x29 x30 x31 x32 x33 x34 x35 x36 x37 x38 x39 x40 x41 x42 x43) (fun _ => True) := by
  refine Wp.step ?_
  simp only [spec_DrawEndTake_l14]
  refine Wp.pick hr (by omega) (by omega) (fun q r1 q0 q1 h1 => ?_)
  simp only [cbeq]
  refine Wp.ite (fun _ => ?_) (fun _ => de16 ..)
  refine Wp.bind (l2Spoil_ok r1 _ _ h1 (by omega) hp) (fun v hv => ?_)
  exact de16 ..
theorem de10 (r : DL1Rd) (n : Int) (hr : Rd n r) (hn : n ≤ 90000) (x0 : Int) (x1 : Bool) (x2 : Int) (x3 : Int) (x4 : Int) (x5 : Bool) (x6 : Int) (x7 : Int) (x8 : ByteArray) (x9 : Int) (x10 : Int) (x11 : Int) (x12 : Int) (x13 : Int) (x14 : Int) (x15 : Int) (x16 : Bool) (x17 : ByteArray) (x20 : Int) (x21 : Bool) (x22 : Int) (x23 : Int) (x24 : Int) (x25 : Bool) (x26 : Int) (x27 : List DItem) (x28 : Int) (x29 : List DHeld) (x30 : ByteArray) (x31 : List ByteArray) (x32 : Int) (x33 : Int) (x34 : Int) (x35 : Int) (x36 : Int) (x37 : Int) (x38 : Int) (x39 : Bool) (x40 : ByteArray) (x41 : List DItem) (x42 : List DHeld) (x43 : List ByteArray) (hp : x40.size ≤ 20) : Wp (fun k => spec_DrawEndTake_l10 k x0 x1 x2 x3 x4 x5 x6 x7 x8 x9 x10 x11 x12 x13 x14 x15 x16 x17 r.b r.p x20 x21 x22 x23 x24 x25 x26 x27 x28 x29 x30 x31 x32 x33 x34 x35 x36 x37 x38 x39 x40 x41 x42 x43) (fun _ => True) := by
  refine Wp.step ?_
  simp only [spec_DrawEndTake_l10, cbeq]
  refine Wp.ite (fun _ => ?_) (fun _ => ?_)
  · refine Wp.pick hr (by omega) (by omega) (fun q r1 q0 q1 h1 => ?_)
    refine Wp.pick h1 (by omega) (by omega) (fun q r2 q0 q1 h2 => ?_)
    exact de14 r2 _ h2 (by omega) (hp := hp) ..
  · refine Wp.pick hr (by omega) (by omega) (fun q r1 q0 q1 h1 => ?_)
    exact de14 r1 _ h1 (by omega) (hp := hp) ..
theorem drawEndTake_ok (a : List Int) (h : ∀ y ∈ a, wf_byte y) : Wp (fun k => spec_DrawEndTake k a) (fun _ => True) := by
  unfold spec_DrawEndTake
  refine Wp.bind (open_ok a h) (fun r h0 => ?_)
  refine Wp.bind (l6Any_ok r 0 h0 (by omega)) (fun e he => ?_)
  refine Wp.bind (l2Draw_ok e.2 _ he (by omega)) (fun p hp => ?_)
  have hpp := fits_part hp.1
  refine Wp.pick hp.2 (by omega) (by omega) (fun q1 r1 q10 q11 h1 => ?_)
  dsimp only
  refine Wp.dec (fun _ => ?_) (fun _ => de14 r1 _ h1 (by omega) (hp := hpp) ..)
  refine Wp.pick h1 (by omega) (by omega) (fun q2 r2 q20 q21 h2 => ?_)
  dsimp only
  refine Wp.from q20 (by simp; omega) (fun y hy => ?_)
  refine Wp.pick h2 (by omega) (by omega) (fun q3 r3 q30 q31 h3 => ?_)
  simp only [cbeq]
  refine Wp.ite (fun _ => ?_) (fun _ => ?_)
  · exact de10 r3 _ h3 (by omega) (hp := hpp) ..
  · exact de10 r3 _ h3 (by omega) (hp := hpp) ..
theorem drawEndPush_ok (a : List Int) (h : ∀ y ∈ a, wf_byte y) : Wp (fun k => spec_DrawEndPush k a) (fun _ => True) := by
  unfold spec_DrawEndPush
  refine Wp.bind (open_ok a h) (fun r h0 => ?_)
  refine Wp.bind (l6Any_ok r 0 h0 (by omega)) (fun e he => ?_)
  refine Wp.pick he (by omega) (by omega) (fun q1 r1 q10 q11 h1 => ?_)
  simp only [cbeq]
  refine Wp.ite (fun _ => ?_) (fun _ => ?_)
  · refine Wp.pick h1 (by omega) (by omega) (fun q2 r2 q20 q21 h2 => ?_)
    dsimp only
    rw [w64' (n := 200 + q2) (by omega) (by omega)]
    refine Wp.bind (many_ok _ _ 201 (by omega) (by show 1 * _ ≤ 201; omega) (by omega)) (fun m hm => ?_)
    exact Wp.ret trivial
  · refine Wp.bind (message_ok r1 _ h1 (by omega)) (fun v hv => ?_)
    exact Wp.ret trivial
end Km.X
namespace Km.X
open Go Km
set_option linter.unusedVariables false
set_option linter.unusedSimpArgs false
/-! ### what a take has, in terms of Join -/
theorem joinL_append : ∀ (ps qs : List DPart) (o : ByteArray) (out g : List ByteArray) (o' : ByteArray), joinL ps o out = (g, o', true) → joinL (ps ++ qs) o out = joinL qs o' g
  | [], qs, o, out, g, o', h => by
    simp only [joinL, Prod.mk.injEq] at h
    obtain ⟨rfl, rfl, _⟩ := h; rfl
  | p :: ps, qs, o, out, g, o', h => by
    simp only [joinL, List.cons_append] at h ⊢
    split at h
    · simp only [Prod.mk.injEq] at h; exact absurd h.2.2 (by simp)
    · rename_i h1
      rw [if_neg h1]
      split at h
      · rename_i h2; rw [if_pos h2]; exact joinL_append ps qs _ _ _ _ h
      · rename_i h2; rw [if_neg h2]; exact joinL_append ps qs _ _ _ _ h
theorem joinL_out : ∀ (ps : List DPart) (o : ByteArray) (out g : List ByteArray) (o' : ByteArray), joinL ps o out = (g, o', true) → ∃ m, g = out ++ m
  | [], o, out, g, o', h => by
    simp only [joinL, Prod.mk.injEq] at h
    exact ⟨[], by rw [← h.1]; simp⟩
  | p :: ps, o, out, g, o', h => by
    simp only [joinL] at h
    split at h
    · simp only [Prod.mk.injEq] at h; exact absurd h.2.2 (by simp)
    · split at h
      · obtain ⟨m, hm⟩ := joinL_out ps _ _ _ _ h
        exact ⟨[o ++ p.Text] ++ m, by rw [hm]; simp⟩
      · exact joinL_out ps _ _ _ _ h
structure TInv (P : List DPart) (t : DTake) (g : List ByteArray) : Prop where
  V : VTake t
  M : ∀ x ∈ t.Held, 0 ≤ x.Seq ∧ P[x.Seq.toNat]? = some x.Part
  N : t.Next ≤ P.length
  J : joinL (P.take t.Next.toNat) noB [] = (g ++ t.Ready, t.Open, true)
theorem TInv.len {P : List DPart} {t : DTake} {g : List ByteArray} (h : TInv P t g) (hP : P.length ≤ 1000) : g.length + t.Ready.length ≤ 1000 := by
  have := (joinL_sm (P.take t.Next.toNat) noB [] (by simp [noB_size]) (fun y hy => by simp at hy)).1
  rw [h.J] at this
  simp only [List.length_append, List.length_nil, List.length_take] at this
  omega
/-- a beginning of the messages -/
theorem TInv.pre {P : List DPart} {t : DTake} {g : List ByteArray} (h : TInv P t g) {T : List ByteArray} {ot : ByteArray} (hT : joinL P noB [] = (T, ot, true)) : ∃ m, T = (g ++ t.Ready) ++ m := by
  have := joinL_append _ (P.drop t.Next.toNat) _ _ _ _ h.J
  rw [List.take_append_drop, hT] at this
  exact joinL_out _ _ _ _ _ this.symm
/-- the next part goes, but for a full row of messages -/
theorem joinL_head {p : DPart} {ps : List DPart} {o : ByteArray} {out : List ByteArray} {T : List ByteArray} {ot : ByteArray} (h : joinL (p :: ps) o out = (T, ot, true)) : p.Text.size ≤ 20 ∧ o.size + p.Text.size ≤ 200 := by
  simp only [joinL] at h
  split at h
  · simp only [Prod.mk.injEq] at h; exact absurd h.2.2 (by simp)
  · omega
theorem TInv.fit {P : List DPart} {t : DTake} {g : List ByteArray} (h : TInv P t g) {T : List ByteArray} {ot : ByteArray} (hT : joinL P noB [] = (T, ot, true)) {p : DPart} (hp : P[t.Next.toNat]? = some p) : t.Open.size + p.Text.size ≤ 200 := by
  have := joinL_append _ (P.drop t.Next.toNat) _ _ _ _ h.J
  rw [List.take_append_drop, hT] at this
  obtain ⟨hlt, e⟩ := List.getElem?_eq_some_iff.mp hp
  rw [List.drop_eq_getElem_cons hlt, e] at this
  exact (joinL_head this.symm).2
end Km.X
namespace Km.X
open Go Km
set_option linter.unusedVariables false
set_option linter.unusedSimpArgs false
theorem wTake_loop (n : Int) (o : ByteArray) (r : List ByteArray) : ∀ (t pre : List DHeld), (pre ++ t).length ≤ 1000 → Wp (fun k => laws_wTake_l4 k (pre.length : Int) n (pre ++ t) o r n (pre ++ t) o r) (· = true)
  | [], pre, hl => by
    refine Wp.step ?_
    simp only [laws_wTake_l4, List.append_nil]
    have hn' : ¬ (pre.length : Int) < (pre.length : Int) := by omega
    simp only [cbdec, if_neg hn']
    exact Wp.ret rfl
  | x :: t, pre, hl => by
    refine Wp.step ?_
    have hl' := hl
    simp only [List.length_append, List.length_cons] at hl
    simp only [laws_wTake_l4]
    simp only [cbdec, lt_mid, if_true, idx_mid, Option.bind_some, beq_self_eq_true, Bool.and_self, Bool.not_true, cond_false]
    rw [w64' (by omega) (by omega)]
    have ih := wTake_loop n o r t (pre ++ [x]) (by simpa using hl')
    rw [← mid_succ, ← mid_len] at ih
    exact ih
theorem wTake_ok (t : DTake) (h : VTake t) : Wp (fun k => laws_wTake k t t) (· = true) := by
  unfold laws_wTake
  simp only [cbne, if_true, cbnot, cbseq]
  refine Wp.bind (wTexts_ok _ (by have := h.2.2.2.1; omega)) (fun _ q => ?_); subst q
  simp only [cond_true]
  exact wTake_loop _ _ _ t.Held [] (by have := h.2.1; simp; omega)
section
variable {P : List DPart} {T : List ByteArray} {ot : ByteArray} (hT : joinL P noB [] = (T, ot, true)) (hP : P.length ≤ 60)
include hT hP
end
end Km.X
namespace Km.X
open Go Km
set_option linter.unusedVariables false
set_option linter.unusedSimpArgs false
theorem wSend_loop (b : Int) : ∀ (t pre : List DItem), (pre ++ t).length ≤ 1000 → Wp (fun k => laws_wSend_l4 k (pre.length : Int) b (pre ++ t) b (pre ++ t)) (· = true)
  | [], pre, hl => by
    refine Wp.step ?_
    simp only [laws_wSend_l4, List.append_nil]
    have hn' : ¬ (pre.length : Int) < (pre.length : Int) := by omega
    simp only [cbdec, if_neg hn']
    exact Wp.ret rfl
  | x :: t, pre, hl => by
    refine Wp.step ?_
    have hl' := hl
    simp only [List.length_append, List.length_cons] at hl
    simp only [laws_wSend_l4]
    simp only [cbdec, lt_mid, if_true, idx_mid, Option.bind_some, beq_self_eq_true, Bool.and_self, Bool.not_true, cond_false]
    rw [w64' (by omega) (by omega)]
    have ih := wSend_loop b t (pre ++ [x]) (by simpa using hl')
    rw [← mid_succ, ← mid_len] at ih
    exact ih
theorem wSend_ok (s : DSend) (h : VSend s) : Wp (fun k => laws_wSend k s s) (· = true) := by
  unfold laws_wSend
  simp only [cbne, if_true]
  exact wSend_loop s.Base s.Items [] (by have := h.1; show s.Items.length ≤ 1000; omega)
end Km.X
namespace Km.X
open Go Km
set_option linter.unusedVariables false
set_option linter.unusedSimpArgs false
/-! ### a valid world is itself -/
theorem wEnd_ok (e : DEnd) (h : VEnd e) : Wp (fun k => laws_wEnd k e e) (· = true) := by
  unfold laws_wEnd
  simp only [cbeq, cbbeq, if_true]
  refine Wp.bind (wSend_ok _ h.2.2.2.2.1) (fun _ q => ?_); subst q
  simp only [cond_true]
  refine Wp.bind (wTake_ok _ h.2.2.2.2.2.1) (fun _ q => ?_); subst q
  exact Wp.ret rfl
end Km.X
namespace Km.X
open Go Km
set_option linter.unusedVariables false
set_option linter.unusedSimpArgs false
/-! ### what is true of both ends stays so -/
/-! ### lives -/
/-! ### what was given was given in lives that were -/
/-! ### calm rounds give nothing -/
end Km.X
namespace Km.X
open Go Km
set_option linter.unusedVariables false
set_option linter.unusedSimpArgs false
/-! ### what an end sends fits -/
theorem maskL_lt (n : Int) : ∀ (t : List DHeld) (p : Int) (m : Nat), WHs n p t → n - 1 ≤ p ∧ p ≤ n + 7 → m < 2 ^ (p + 1 - n).toNat → maskL n m t < 256
  | [], p, m, h, hp, hm => by
    simp only [maskL]
    have : 2 ^ (p + 1 - n).toNat ≤ 256 := pow_small (by omega)
    omega
  | x :: t, p, m, h, hp, hm => by
    simp only [maskL]
    obtain ⟨h1, h2⟩ := h
    have hx : p < x.Seq ∧ x.Seq ≤ n + 7 := by
      have := h1
      omega
    refine maskL_lt n t x.Seq _ h2 (by omega) ?_
    have e : (x.Seq + 1 - n).toNat = (x.Seq - n).toNat + 1 := by omega
    have hle : 2 ^ (p + 1 - n).toNat ≤ 2 ^ (x.Seq - n).toNat := Nat.pow_le_pow_right (by decide) (by omega)
    rw [e, Nat.pow_succ]
    omega
theorem tkM_range {t : DTake} (h : VTake t) : (tkM t).1 = t.Next ∧ (0 ≤ (tkM t).2 ∧ (tkM t).2 ≤ 255) := by
  unfold tkM
  rw [if_pos h]
  have := maskL_lt t.Next t.Held (t.Next - 1) 0 h.2.2.2.2.2.1 (by omega) (by simp)
  refine ⟨rfl, ?_, ?_⟩ <;> dsimp only <;> omega
theorem partAt_small {l : List DItem} (h : OkItems 0 l) (i : Int) : (partAt l i).Text.size ≤ 20 := by
  unfold partAt
  split
  · rename_i x hx; exact (okItems_get h _ x hx).1
  · exact Nat.zero_le _
theorem tickS_range {e : DEnd} (h : VEnd e) : ∀ q ∈ (tickS e).2, 0 ≤ q ∧ q ≤ 999999 := by
  have hS := h.2.2.2.2.1
  have hv := (tickS_V e h).1
  unfold tickS at hv ⊢
  split
  · intro q hq; cases hq
  · rename_i hp
    rw [if_neg hp] at hv
    intro q hq
    have := tickM_range e.Send hS q hq
    have := hv.2.1
    have := hv.2.2.1
    omega
theorem tickE_fits {e : DEnd} (h : VEnd e) : ∀ q ∈ (tickE e).Out, Fits q ∧ q.From = e.Number ∧ q.Mine = e.Life ∧ q.Yours = e.Peer := by
  have hr := tickS_range h
  have hv := (tickS_V e h).1
  have hw : ∀ q ∈ (tickS e).2.map (wordP e.Number e.Life e.Peer (tickS e).1.Base (tickS e).1.Items), Fits q ∧ q.From = e.Number ∧ q.Mine = e.Life ∧ q.Yours = e.Peer := fun q hq => by
    obtain ⟨i, hi, rfl⟩ := List.mem_map.mp hq
    have := hr i hi
    exact ⟨⟨h.1, h.2.1, h.2.2.1, .inr ⟨rfl, rfl, rfl, by dsimp only [wordP]; omega, partAt_small hv.2.2.2 _⟩⟩, rfl, rfl, rfl⟩
  have hk := tkM_range h.2.2.2.2.2.1
  have hn := h.2.2.2.2.2.1.1
  unfold tickE
  rw [if_pos h]
  split
  · split
    · intro q hq
      rcases List.mem_append.mp hq with hq | hq
      · exact hw q hq
      · simp only [List.mem_singleton] at hq
        subst hq
        exact ⟨⟨h.1, h.2.1, h.2.2.1, .inl ⟨rfl, by dsimp only; omega, hk.2, rfl, rfl, rfl⟩⟩, rfl, rfl, rfl⟩
    · exact hw
  · intro q hq; cases hq
theorem wPackets_loop : ∀ (t pre : List DPacket), (pre ++ t).length ≤ 1000 → Wp (fun k => laws_wPackets_l4 k (pre ++ t) (pre ++ t) (pre.length : Int)) (· = true)
  | [], pre, hl => by
    refine Wp.step ?_
    simp only [laws_wPackets_l4, List.append_nil]
    exact Wp.dec (fun g => by omega) (fun _ => Wp.ret rfl)
  | x :: t, pre, hl => by
    have hl' := hl
    simp only [List.length_append, List.length_cons] at hl
    refine Wp.step ?_
    simp only [laws_wPackets_l4]
    refine Wp.dec (fun _ => ?_) (fun g => absurd (by simp; omega) g)
    simp only [idx_mid, Option.bind_some, beq_self_eq_true, Bool.and_self, Bool.and_true, Bool.not_true, cond_false]
    rw [w64' (by omega) (by omega)]
    have := wPackets_loop t (pre ++ [x]) (by simpa using hl')
    simpa using this
theorem wEnd_no : Wp (fun k => laws_wEnd k noEnd noEnd) (· = true) := by
  unfold laws_wEnd
  simp only [cbeq, cbbeq, if_true]
  refine Wp.bind (wSend_ok _ (by decide)) (fun _ q => ?_); subst q
  simp only [cond_true]
  refine Wp.bind (wTake_ok _ noTake_V) (fun _ q => ?_); subst q
  exact Wp.ret rfl
theorem wActed_ok (x : DActed) (h : VEnd x.End ∨ x.End = noEnd) (hl : x.Out.length ≤ 1000) : Wp (fun k => laws_wActed k x x) (· = true) := by
  unfold laws_wActed
  simp only [cbeq, cbseq, if_true]
  have he : Wp (fun k => laws_wEnd k x.End x.End) (· = true) := by
    rcases h with h | h
    · exact wEnd_ok _ h
    · rw [h]; exact wEnd_no
  refine Wp.bind he (fun _ q => ?_); subst q
  simp only [cond_true]
  have : Wp (fun k => laws_wPackets k x.Out x.Out) (· = true) := by
    unfold laws_wPackets
    simp only [cbne, if_true]
    exact wPackets_loop x.Out [] (by simpa using hl)
  refine Wp.bind this (fun _ q => ?_); subst q
  exact Wp.ret rfl
end Km.X
namespace Km.X
open Go Km
set_option linter.unusedVariables false
set_option linter.unusedSimpArgs false
theorem ends16 (e : DEnd) (he : VEnd e) (x13 : Int) (x14 : Int) (x15 : Bool) (x16 : Int) (x17 : Int) (x18 : Int) (x19 : Bool) (x20 : Int) (x21 : Int) (x22 : ByteArray) (x23 : ByteArray) (x24 : List DItem) (x25 : List DHeld) (x26 : List ByteArray) : ∀ (t pre : List DPacket), (pre ++ t).length ≤ 1000 → (∀ q ∈ t, Fits q ∧ q.From = e.Number ∧ q.Mine = e.Life ∧ q.Yours = e.Peer) → Wp (fun k => laws_FnEnds_l16 k (pre.length : Int) e.Number e.Up e.Life e.Peer e.Since e.Owes e.Send.Base e.Send.Items e.Take.Next e.Take.Held e.Take.Open e.Take.Ready x13 x14 x15 x16 x17 x18 x19 x20 x21 x22 x23 x24 x25 x26 (pre ++ t)) (· = true)
  | [], pre, hl, hv => by
    refine Wp.step ?_
    simp only [laws_FnEnds_l16, List.append_nil]
    refine Wp.dec (fun g => by omega) (fun _ => ?_)
    refine Wp.bind (implFall_ok e) (fun x hx => ?_)
    refine Wp.bind (implRise_ok x) (fun y hy => ?_)
    have hf : fallM e = ⟨e.Number, false, e.Life, 0, 0, false, noSend, noTake⟩ := by unfold fallM; rw [if_pos he]
    have hfv := fallM_V e he
    have hyv : y = riseM (fallM e) := by rw [hy, hx]
    have hl2 := he.2.1
    by_cases h1 : 1000 ≤ e.Life
    · have : y = fallM e := by rw [hyv]; unfold riseM; rw [if_pos hfv, if_neg (by rw [hf]; simp), if_pos (by rw [hf]; exact h1)]
      rw [this, hf]
      simp only [beq_self_eq_true, cond_true]
      exact Wp.ret rfl
    · have hz : y = ⟨e.Number, true, e.Life + 1, 0, 0, false, noSend, noTake⟩ := by rw [hyv]; unfold riseM; rw [if_pos hfv, if_neg (by rw [hf]; simp), if_neg (by rw [hf]; exact h1), hf]
      have hyV : VEnd y := by rw [hyv]; exact riseM_V _ hfv
      have l1 : y.Life = e.Life + 1 := by rw [hz]
      have l2 : y.Up = true := by rw [hz]
      have l3 : y.Peer = 0 := by rw [hz]
      simp only [cbeq, l1, l2, l3, cond_true, if_true]
      rw [w64' (n := e.Life + 1) (by omega) (by omega)]
      refine Wp.ite (fun g => by omega) (fun _ => ?_)
      refine Wp.ite (fun _ => ?_) (fun g => absurd rfl g)
      refine Wp.bind (implValidEnd_ok y) (fun _ q => ?_); subst q
      exact Wp.ret (decide_eq_true hyV)
  | x :: t, pre, hl, hv => by
    have hl' := hl
    simp only [List.length_append, List.length_cons] at hl
    refine Wp.step ?_
    simp only [laws_FnEnds_l16]
    refine Wp.dec (fun _ => ?_) (fun g => absurd (by simp; omega) g)
    obtain ⟨f1, f2, f3, f4⟩ := hv x (by simp)
    have i2 : (pre ++ x :: t)[Int.toNat (pre.length : Int)]? = some x := by rw [Int.toNat_natCast]; simp
    simp only [idx_mid, i2, Option.bind_some]
    refine Wp.bind (implForm_ok x _ 8) (fun r hr => ?_)
    have hk : ((⟨#[107, 101, 121]⟩ : ByteArray)).size ≤ 30 := (by decide : (3 : Nat) ≤ 30)
    have hsz := form_size f1 (w := 8) (by omega) hk
    simp only [cbseq, cbne]
    refine Wp.ite (fun g => ?_) (fun _ => ?_)
    · exfalso
      rw [hr] at g
      rw [g] at hsz
      have : (noB).size = 0 := noB_size
      have e0 : ((⟨#[]⟩ : ByteArray)).size = 0 := noB_size
      rw [e0] at hsz
      omega
    refine Wp.ite (fun _ => ?_) (fun g => absurd f2 g)
    refine Wp.ite (fun _ => ?_) (fun g => absurd f3 g)
    refine Wp.ite (fun _ => ?_) (fun g => absurd f4 g)
    rw [w64' (n := (pre.length : Int) + 1) (by omega) (by omega)]
    have := ends16 e he x13 x14 x15 x16 x17 x18 x19 x20 x21 x22 x23 x24 x25 x26 t (pre ++ [x]) (by simpa using hl') (fun q hq => hv q (by simp [hq]))
    simpa using this
theorem exact_FnEnds (a : List Int) (h0 : a.length ≤ maxLen ∧ ∀ y ∈ a, wf_byte y) : ∃ k, laws_FnEnds k a = some true := by
  have h := h0.2
  refine Wp.exists ?_
  unfold laws_FnEnds
  refine Wp.dec (fun _ => Wp.ret rfl) (fun _ => ?_)
  refine Wp.bind (drawEndTake_ok a h) ?_
  rintro ⟨e, p⟩ _
  refine Wp.bind (drawEndPush_ok a h) ?_
  rintro ⟨e2, m⟩ _
  dsimp only
  refine Wp.bind (implTickE_ok e) (fun _ q => ?_); subst q
  refine Wp.bind (implTakeE_ok e p) (fun _ q => ?_); subst q
  refine Wp.bind (implPushE_ok e m) (fun _ q => ?_); subst q
  refine Wp.bind (implPullE_ok e) (fun _ q => ?_); subst q
  refine Wp.bind (specTickE_ok e) (fun _ q => ?_); subst q
  have o1 : (VEnd (tickE e).End ∨ (tickE e).End = noEnd) ∧ (tickE e).Out.length ≤ 1000 := by
    by_cases hv : VEnd e
    · exact ⟨.inl (tickE_V hv), by have := tickE_out hv; omega⟩
    · unfold tickE; rw [if_neg hv]; exact ⟨.inr rfl, by simp⟩
  have o2 : (VEnd (takeE e p).End ∨ (takeE e p).End = noEnd) ∧ (takeE e p).Out.length ≤ 1000 := by
    by_cases hv : VEnd e
    · refine ⟨.inl (takeE_V p hv), ?_⟩
      unfold takeE bodyE; rw [if_pos hv]
      repeat' split
      all_goals simp
    · unfold takeE; rw [if_neg hv]; exact ⟨.inr rfl, by simp⟩
  have o3 : (VEnd (pushE e m).End ∨ (pushE e m).End = noEnd) ∧ (pushE e m).Out.length ≤ 1000 := by
    by_cases hc : (pushE e m).Code = 0
    · by_cases hv : VEnd e
      · exact ⟨.inl (pushE_V hv hc).1, by unfold pushE; repeat' split
                                          all_goals simp⟩
      · unfold pushE at hc; rw [if_neg hv] at hc; cases hc
    · refine ⟨.inr ?_, by unfold pushE; repeat' split
                          all_goals simp⟩
      unfold pushE at hc ⊢
      repeat' split
      all_goals first | rfl | (exfalso; apply hc; simp [*])
  have o4 : (VEnd (pullE e).End ∨ (pullE e).End = noEnd) ∧ (pullE e).Out.length ≤ 1000 := by
    by_cases hc : (pullE e).Code = 0
    · by_cases hv : VEnd e
      · exact ⟨.inl (pullE_V hv hc).1, by unfold pullE; repeat' split
                                          all_goals simp⟩
      · unfold pullE at hc; rw [if_neg hv] at hc; cases hc
    · refine ⟨.inr ?_, by unfold pullE; repeat' split
                          all_goals simp⟩
      unfold pullE at hc ⊢
      repeat' split
      all_goals first | rfl | (exfalso; apply hc; simp [*])
  refine Wp.bind (wActed_ok _ o1.1 o1.2) (fun _ q => ?_); subst q
  simp only [Bool.not_true, cond_false]
  refine Wp.bind (specTakeE_ok e p) (fun _ q => ?_); subst q
  refine Wp.bind (wActed_ok _ o2.1 o2.2) (fun _ q => ?_); subst q
  simp only [Bool.not_true, cond_false]
  refine Wp.bind (specPushE_ok e m) (fun _ q => ?_); subst q
  refine Wp.bind (wActed_ok _ o3.1 o3.2) (fun _ q => ?_); subst q
  simp only [Bool.not_true, cond_false]
  refine Wp.bind (specPullE_ok e) (fun _ q => ?_); subst q
  refine Wp.bind (wActed_ok _ o4.1 o4.2) (fun _ q => ?_); subst q
  simp only [Bool.not_true, cond_false]
  refine Wp.bind (specValidEnd_ok e) (fun _ q => ?_); subst q
  refine Wp.not (fun hv => ?_) (fun hv => ?_)
  · have hv := of_decide_eq_false hv
    refine Wp.bind (implValidEnd_ok e) (fun _ q => ?_); subst q
    rw [decide_eq_false hv]
    simp only [Bool.not_false, cond_true]
    have c1 : (tickE e).Code = 1 := by unfold tickE; rw [if_neg hv]
    have c2 : (takeE e p).Code = 1 := by unfold takeE; rw [if_neg hv]
    have c3 : (pushE e m).Code = 1 := by unfold pushE; rw [if_neg hv]
    have c4 : (pullE e).Code = 1 := by unfold pullE; rw [if_neg hv]
    simp only [c1, c2, c3, c4, beq_self_eq_true, cond_true]
    exact Wp.ret rfl
  have hv := of_decide_eq_true hv
  refine Wp.bind (implValidEnd_ok _) (fun _ q => ?_); subst q
  rw [decide_eq_true (tickE_V hv)]
  simp only [Bool.not_true, cond_false]
  refine Wp.bind (implValidEnd_ok _) (fun _ q => ?_); subst q
  rw [decide_eq_true (takeE_V p hv)]
  simp only [Bool.not_true, cond_false, cbeq]
  have hout := tickE_out hv
  have fin := fun x13 x14 x15 x16 x17 x18 x19 x20 x21 x22 x23 x24 x25 x26 => ends16 e hv x13 x14 x15 x16 x17 x18 x19 x20 x21 x22 x23 x24 x25 x26 (tickE e).Out [] (by simp; omega) (tickE_fits hv)
  refine Wp.ite (fun c3 => ?_) (fun _ => ?_)
  · refine Wp.bind (implValidEnd_ok _) (fun _ q => ?_); subst q
    rw [decide_eq_true (pushE_V hv c3).1]
    simp only [Bool.not_true, cond_false]
    refine Wp.ite (fun c4 => ?_) (fun _ => fin ..)
    refine Wp.bind (implValidEnd_ok _) (fun _ q => ?_); subst q
    rw [decide_eq_true (pullE_V hv c4).1]
    simp only [Bool.not_true, cond_false]
    exact fin ..
  · refine Wp.ite (fun c4 => ?_) (fun _ => fin ..)
    refine Wp.bind (implValidEnd_ok _) (fun _ q => ?_); subst q
    rw [decide_eq_true (pullE_V hv c4).1]
    simp only [Bool.not_true, cond_false]
    exact fin ..
end Km.X
