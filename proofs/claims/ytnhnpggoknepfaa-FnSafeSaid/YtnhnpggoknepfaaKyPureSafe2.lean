/- A part of the proof of FnSafe: plain laws of these functions. There is no condition. -/
import Derived.Test.YtnhnpggoknepfaaKyPureSafe1
import Derived.Test.YtnhnpggoknepfaaKxDef1
import Derived.Test.YtnhnpggoknepfaaKxDef2
namespace Km.X
open Go Km
set_option linter.unusedVariables false
set_option linter.unusedSimpArgs false
/-! ### EndTake -/
def bodyE (e : DEnd) (p : DPacket) : DActed :=
  if p.Yours = e.Life then
    if p.Kind = 1 then ⟨0, ⟨e.Number, e.Up, e.Life, e.Peer, e.Since, e.Owes, wordM e.Send p.Next p.Mask, e.Take⟩, [], noB⟩
    else ⟨0, ⟨e.Number, e.Up, e.Life, e.Peer, e.Since, true, e.Send, partM e.Take p.Seq ⟨p.Part, p.Last⟩⟩, [], noB⟩
  else ⟨0, ⟨e.Number, e.Up, e.Life, e.Peer, e.Since, true, e.Send, e.Take⟩, [], noB⟩
def metE (e : DEnd) (p : DPacket) : DEnd := if p.Mine > e.Peer then ⟨e.Number, e.Up, e.Life, p.Mine, e.Since, true, noSend, noTake⟩ else e
def takeE (e : DEnd) (p : DPacket) : DActed :=
  if VEnd e then
    if e.Up = true ∧ Fits p ∧ ¬ p.From = e.Number ∧ ¬ p.Mine < e.Peer then bodyE (metE e p) p else ⟨0, e, [], noB⟩
  else ⟨1, noEnd, [], noB⟩
theorem specTakeE_ok (e : DEnd) (p : DPacket) : Wp (fun k => spec_EndTake k e p) (· = takeE e p) := by
  unfold spec_EndTake takeE
  refine Wp.bind (specValidEnd_ok _) (fun _ q => ?_); subst q
  simp only [cbdec, cbnot, cbeq]
  refine Wp.ite (fun h1 => ?_) (fun h1 => Wp.ret (by rw [if_neg h1]))
  rw [if_pos h1]
  refine Wp.bind (l6Copy_ok e h1) (fun r q => ?_); rw [q]
  refine Wp.bif (fun u => ?_) (fun u => Wp.ret (by rw [if_neg (fun g => by have := g.1; rw [u] at this; cases this)]))
  refine Wp.bind (l2Ok_ok p) (fun _ q => ?_); subst q
  simp only [cbdec]
  refine Wp.ite (fun h2 => ?_) (fun h2 => Wp.ret (by rw [if_neg (fun g => h2 g.2.1)]))
  refine Wp.ite (fun h3 => Wp.ret (by rw [if_neg (fun g => g.2.2.1 h3)])) (fun h3 => ?_)
  refine Wp.ite (fun h4 => Wp.ret (by rw [if_neg (fun g => g.2.2.2 h4)])) (fun h4 => ?_)
  rw [if_pos ⟨u, h2, h3, h4⟩]
  have M : ∀ (n : Int) (uu : Bool) (li pe si : Int) (ow : Bool) (b : Int) (it : List DItem) (nn : Int) (hd : List DHeld) (o : ByteArray) (rr : List ByteArray),
      Wp (fun k => spec_EndTake_l11 k p.Kind p.From p.Mine p.Yours p.Next p.Mask p.Seq p.Last p.Part 0 0 false 0 0 0 false 0 0 (⟨#[]⟩ : ByteArray) (⟨#[]⟩ : ByteArray) n uu li pe si ow b nn o ([] : List DItem) ([] : List DHeld) ([] : List ByteArray) ([] : List DPacket) it hd rr) (· = bodyE ⟨n, uu, li, pe, si, ow, ⟨b, it⟩, ⟨nn, hd, o, rr⟩⟩ p) := by
    intro n uu li pe si ow b it nn hd o rr
    refine Wp.step ?_
    simp only [spec_EndTake_l11, cbne, cbeq, bodyE]
    refine Wp.ite (fun h5 => ?_) (fun h5 => Wp.ret (by rw [if_neg h5]))
    rw [if_pos h5]
    refine Wp.ite (fun h6 => ?_) (fun h6 => ?_)
    · rw [if_pos h6]
      refine Wp.bind (specWord_ok _ _ _) (fun _ q => ?_); subst q
      exact Wp.ret rfl
    · rw [if_neg h6]
      refine Wp.bind (specPart_ok _ _ _) (fun _ q => ?_); subst q
      exact Wp.ret rfl
  unfold metE
  refine Wp.ite (fun h5 => ?_) (fun h5 => ?_)
  · rw [if_pos h5]; exact M _ _ _ _ _ _ _ _ _ _ _ _
  · rw [if_neg h5]; exact M _ _ _ _ _ _ _ _ _ _ _ _
theorem implTakeE_ok (e : DEnd) (p : DPacket) : Wp (fun k => impl_EndTake k e p) (· = takeE e p) := by
  unfold impl_EndTake takeE
  refine Wp.bind (implValidEnd_ok _) (fun _ q => ?_); subst q
  simp only [cbdec, cbnot, cbeq]
  refine Wp.ite (fun h1 => ?_) (fun h1 => Wp.ret (by rw [if_neg h1]))
  rw [if_pos h1]
  refine Wp.bind (copyEnd_ok e h1) (fun r q => ?_); rw [q]
  refine Wp.bif (fun u => ?_) (fun u => Wp.ret (by rw [if_neg (fun g => by have := g.1; rw [u] at this; cases this)]))
  refine Wp.bind (validPacket_ok p) (fun _ q => ?_); subst q
  simp only [cbdec]
  refine Wp.ite (fun h2 => ?_) (fun h2 => Wp.ret (by rw [if_neg (fun g => h2 g.2.1)]))
  refine Wp.ite (fun h3 => Wp.ret (by rw [if_neg (fun g => g.2.2.1 h3)])) (fun h3 => ?_)
  refine Wp.ite (fun h4 => Wp.ret (by rw [if_neg (fun g => g.2.2.2 h4)])) (fun h4 => ?_)
  rw [if_pos ⟨u, h2, h3, h4⟩]
  have M : ∀ (n : Int) (uu : Bool) (li pe si : Int) (ow : Bool) (b : Int) (it : List DItem) (nn : Int) (hd : List DHeld) (o : ByteArray) (rr : List ByteArray),
      Wp (fun k => impl_EndTake_l9 k p.Kind p.From p.Mine p.Yours p.Next p.Mask p.Seq p.Last p.Part 0 0 false 0 0 0 false 0 0 (⟨#[]⟩ : ByteArray) (⟨#[]⟩ : ByteArray) 0 n uu li pe si ow b nn o (⟨#[]⟩ : ByteArray) ([] : List DItem) ([] : List DHeld) ([] : List ByteArray) ([] : List DPacket) it hd rr ([] : List DPacket)) (· = bodyE ⟨n, uu, li, pe, si, ow, ⟨b, it⟩, ⟨nn, hd, o, rr⟩⟩ p) := by
    intro n uu li pe si ow b it nn hd o rr
    refine Wp.step ?_
    simp only [impl_EndTake_l9, cbne, cbeq, bodyE]
    refine Wp.ite (fun h5 => ?_) (fun h5 => Wp.ret (by rw [if_neg h5]))
    rw [if_pos h5]
    refine Wp.ite (fun h6 => ?_) (fun h6 => ?_)
    · rw [if_pos h6]
      refine Wp.bind (implWord_ok _ _ _) (fun _ q => ?_); subst q
      refine Wp.step ?_
      simp only [impl_EndTake_l16]
      exact Wp.ret rfl
    · rw [if_neg h6]
      refine Wp.bind (implPart_ok _ _ _) (fun _ q => ?_); subst q
      refine Wp.step ?_
      simp only [impl_EndTake_l16]
      exact Wp.ret rfl
  unfold metE
  refine Wp.ite (fun h5 => ?_) (fun h5 => ?_)
  · rw [if_pos h5]; exact M _ _ _ _ _ _ _ _ _ _ _ _
  · rw [if_neg h5]; exact M _ _ _ _ _ _ _ _ _ _ _ _
end Km.X
namespace Km.X
open Go Km
set_option linter.unusedVariables false
set_option linter.unusedSimpArgs false
def numL (l : List UInt8) : Int := l.foldl (fun v c => v * 256 + (c.toNat : Int)) 0
theorem pow_le8 {n : Nat} (h : n ≤ 6) : (256 : Int) ^ n ≤ 281474976710656 := by
  have : n = 0 ∨ n = 1 ∨ n = 2 ∨ n = 3 ∨ n = 4 ∨ n = 5 ∨ n = 6 := by omega
  rcases this with rfl | rfl | rfl | rfl | rfl | rfl | rfl <;> decide
theorem read_loop (s : ByteArray) : ∀ (t pre : List UInt8) (v : Int), s.data.toList = pre ++ t → s.size ≤ 6 → 0 ≤ v ∧ v < 256 ^ pre.length →
    Wp (fun k => spec_l1Read_l3 k s v (pre.length : Int)) (· = t.foldl (fun v c => v * 256 + (c.toNat : Int)) v)
  | [], pre, v, h, hs, hv => by
    refine Wp.step ?_
    have := size_mid h
    simp only [List.length_nil] at this
    simp only [spec_l1Read_l3]
    simp (disch := omega) only [cbdec, if_neg]
    exact Wp.ret rfl
  | c :: t, pre, v, h, hs, hv => by
    refine Wp.step ?_
    have hl := size_mid h
    simp only [List.length_cons] at hl
    have hp := pow_le8 (n := pre.length) (by omega)
    have hc := c.toNat_lt
    simp only [spec_l1Read_l3]
    simp (disch := omega) only [cbdec, if_pos, bidx_mid h, Option.bind_some, w64']
    have ih := read_loop s t (pre ++ [c]) (v * 256 + (c.toNat : Int)) (by simpa using h) hs (by
      rw [List.length_append, List.length_singleton, Int.pow_succ]; omega)
    rwa [← mid_len] at ih
theorem read_ok (s : ByteArray) (h : s.size ≤ 6) : Wp (fun k => spec_l1Read k s) (· = numL s.data.toList) := read_loop s s.data.toList [] 0 rfl h (by decide)
theorem or_low (n c : Nat) (h : c < 256) : (n * 256) ||| c = n * 256 + c := by
  have := Nat.shiftLeft_add_eq_or_of_lt (a := n) (i := 8) (b := c) (by simpa using h)
  rw [Nat.shiftLeft_eq] at this
  simpa using this.symm
theorem bitsOr_low (n c : Nat) (hn : n < 281474976710656) (hc : c < 256) : bitsOr .i64 ((n * 256 : Nat) : Int) (c : Int) = ((n * 256 + c : Nat) : Int) := by
  have e : ∀ m : Nat, BitVec.ofInt 64 (m : Int) = BitVec.ofNat 64 m := fun m => by
    apply BitVec.eq_of_toNat_eq
    simp [BitVec.toNat_ofInt]
  show IntKind.wrap .i64 ((BitVec.ofInt 64 ((n * 256 : Nat) : Int) ||| BitVec.ofInt 64 (c : Int)).toNat : Int) = _
  rw [e, e, BitVec.toNat_or, BitVec.toNat_ofNat, BitVec.toNat_ofNat, Nat.mod_eq_of_lt (by omega), Nat.mod_eq_of_lt (by omega), or_low n c hc]
  exact w64' (by omega) (by omega)
theorem shl8 (n : Nat) (h : n < 36028797018963968) : shift .shl .i64 (n : Int) 8 = some ((n * 256 : Nat) : Int) := by
  simp only [shift]
  rw [if_neg (by omega)]
  congr 1
  rw [show (Int.toNat 8) = 8 from rfl, show min 8 IntKind.i64.bits = 8 from rfl]
  rw [w64' (by omega) (by omega)]
  simp
theorem num_loop (s : ByteArray) : ∀ (t pre : List UInt8) (v : Nat), s.data.toList = pre ++ t → s.size ≤ 6 → (v : Int) < 256 ^ pre.length →
    Wp (fun k => impl_num_l3 k s (v : Int) (pre.length : Int)) (· = t.foldl (fun v c => v * 256 + (c.toNat : Int)) (v : Int))
  | [], pre, v, h, hs, hv => by
    refine Wp.step ?_
    have := size_mid h
    simp only [List.length_nil] at this
    simp only [impl_num_l3]
    simp (disch := omega) only [cbdec, if_neg]
    exact Wp.ret rfl
  | c :: t, pre, v, h, hs, hv => by
    refine Wp.step ?_
    have hl := size_mid h
    simp only [List.length_cons] at hl
    have hp := pow_le8 (n := pre.length) (by omega)
    have hp' := pow_le8 (n := pre.length + 1) (by omega)
    rw [Int.pow_succ] at hp'
    have hc := c.toNat_lt
    simp only [impl_num_l3]
    simp (disch := omega) only [cbdec, if_pos, bidx_mid h, Option.bind_some, w64', shl8, bitsOr_low]
    have ih := num_loop s t (pre ++ [c]) (v * 256 + c.toNat) (by simpa using h) hs (by
      rw [List.length_append, List.length_singleton, Int.pow_succ]; omega)
    rw [← mid_len] at ih
    rw [List.foldl_cons]
    have e : ((v * 256 + c.toNat : Nat) : Int) = (v : Int) * 256 + (c.toNat : Int) := by omega
    rw [e] at ih ⊢
    exact ih
theorem num_ok (s : ByteArray) (h : s.size ≤ 6) : Wp (fun k => impl_num k s) (· = numL s.data.toList) := num_loop s s.data.toList [] 0 rfl h (by decide)

def at' (b : ByteArray) (i : Nat) : UInt8 := b.data.toList.getD i 0
theorem bidx_at {b : ByteArray} {i : Nat} (h : i < b.size) : bidx b (i : Int) = some (at' b i) := by
  unfold bidx at'
  rw [if_neg (by omega), Int.toNat_natCast]
  have e : b[i]? = some (b[i]'h) := by simp [h]
  rw [e]
  have : b.data.toList[i]? = some (b[i]'h) := by
    rw [Array.getElem?_toList, Array.getElem?_eq_getElem (show i < b.data.size from h)]; rfl
  rw [List.getD_eq_getElem?_getD, this]; rfl
def zeroP : DPacket := ⟨0, 0, 0, 0, 0, 0, 0, false, noB⟩
def numS (b : ByteArray) (i j : Nat) : Int := numL (b.extract i j).data.toList
/-- what a body may be the body of -/
def candP (b : ByteArray) : DPacket :=
  if ((at' b 0).toNat : Int) = 1 then ⟨(at' b 0).toNat, (at' b 1).toNat, numS b 2 4, numS b 4 6, numS b 6 10, (at' b 10).toNat, 0, false, noB⟩
  else ⟨(at' b 0).toNat, (at' b 1).toNat, numS b 2 4, numS b 4 6, 0, 0, numS b 6 10, (((at' b 10).toNat : Int) == 1), b.extract 11 b.size⟩
def readM (s b : ByteArray) (w : Int) : DPacket × Bool :=
  if (1 ≤ w ∧ w ≤ 8) ∧ w + 11 ≤ s.size then (if formM (candP (s.extract w.toNat s.size)) b w = s then (candP (s.extract w.toNat s.size), true) else (zeroP, false)) else (zeroP, false)
theorem ext_size (s : ByteArray) (i j : Nat) : (s.extract i j).size = min j s.size - i := by simp
theorem wu (c : UInt8) : IntKind.wrap .i64 (c.toNat : Int) = (c.toNat : Int) := by have := c.toNat_lt; exact w64' (by omega) (by omega)
theorem specRead_ok (s b : ByteArray) (w : Int) (hs : s.size ≤ 1048576) : Wp (fun k => spec_ReadPacket k s b w) (· = readM s b w) := by
  unfold spec_ReadPacket readM
  refine Wp.bind (l1In_ok _ _ _) (fun _ e => ?_); subst e
  simp only [inB, cbnot, cbdec]
  refine Wp.ite (fun h1 => ?_) (fun h1 => Wp.ret (by rw [if_neg (fun h => h1 h.1)]; rfl))
  rw [w64' (by omega) (by omega)]
  refine Wp.ite (fun h2 => Wp.ret (by rw [if_neg (fun h => by omega)]; rfl)) (fun h2 => ?_)
  rw [if_pos ⟨h1, by omega⟩]
  refine Wp.opt (wnd_ok (by omega)) ?_
  dsimp only
  rw [Int.toNat_natCast]
  have hsz : (s.extract w.toNat s.size).size = s.size - w.toNat := by rw [ext_size]; omega
  have hge : 11 ≤ (s.extract w.toNat s.size).size := by omega
  generalize hb : s.extract w.toNat s.size = B at hsz hge ⊢
  have key : ∀ p : DPacket, Wp (fun k => (spec_FormPacket k p b w).bind fun r16 =>
      bif (!(r16.toList == s.toList)) then some (zeroP, false) else some (p, true)) (· = if formM p b w = s then (p, true) else (zeroP, false)) := fun p => by
    refine Wp.bind (specForm_ok p b w) (fun _ e => ?_); subst e
    simp only [cbnot, cbseq]
    exact Wp.ite (fun h => Wp.ret (by rw [if_pos h])) (fun h => Wp.ret (by rw [if_neg h]))
  have hBs : B.size ≤ 1048576 := by omega
  refine Wp.opt (bidx_at (i := 0) (by omega)) ?_
  refine Wp.opt (bidx_at (i := 1) (by omega)) ?_
  refine Wp.opt (wnd_ok (by omega)) ?_
  refine Wp.bind (read_ok _ (by rw [ext_size]; simp; omega)) (fun _ e => ?_); subst e
  refine Wp.opt (wnd_ok (by omega)) ?_
  refine Wp.bind (read_ok _ (by rw [ext_size]; simp; omega)) (fun _ e => ?_); subst e
  simp only [wu, cbeq]
  refine Wp.ite (fun hk => ?_) (fun hk => ?_)
  · refine Wp.opt (wnd_ok (by omega)) ?_
    refine Wp.bind (read_ok _ (by rw [ext_size]; simp; omega)) (fun _ e => ?_); subst e
    refine Wp.opt (bidx_at (i := 10) (by omega)) ?_
    refine Wp.step ?_
    simp only [spec_ReadPacket_l11, wu]
    have := key (candP B)
    unfold candP at this ⊢
    rw [if_pos hk] at this ⊢
    exact this
  · refine Wp.opt (wnd_ok (by omega)) ?_
    refine Wp.bind (read_ok _ (by rw [ext_size]; simp; omega)) (fun _ e => ?_); subst e
    refine Wp.opt (bidx_at (i := 10) (by omega)) ?_
    refine Wp.opt (wnd_ok (by omega)) ?_
    refine Wp.step ?_
    simp only [spec_ReadPacket_l11, wu]
    have := key (candP B)
    unfold candP at this ⊢
    rw [if_neg hk] at this ⊢
    exact this
theorem form_no {p : DPacket} {b s : ByteArray} {w : Int} (h : ¬ (Fits p ∧ b.size ≤ 30)) (hs : 11 ≤ s.size) : formM p b w ≠ s := by
  unfold formM
  rw [if_neg (fun h' => h ⟨h'.1, h'.2.2⟩)]
  intro e
  rw [← e] at hs
  simp [noB_size] at hs
theorem implRead_ok (s b : ByteArray) (w : Int) (hs : s.size ≤ 1048576) : Wp (fun k => impl_ReadPacket k s b w) (· = readM s b w) := by
  unfold impl_ReadPacket readM
  simp only [cbdec]
  refine Wp.ite (fun h1 => Wp.ret (by rw [if_neg (fun h => by omega)]; rfl)) (fun h1 => ?_)
  refine Wp.ite (fun h2 => Wp.ret (by rw [if_neg (fun h => by omega)]; rfl)) (fun h2 => ?_)
  refine Wp.ite (fun h3 => Wp.ret ?_) (fun h3 => ?_)
  · split
    · rename_i h
      rw [if_neg (form_no (fun h' => by omega) (by omega))]; rfl
    · rfl
  rw [w64' (by omega) (by omega)]
  refine Wp.ite (fun h4 => Wp.ret (by rw [if_neg (fun h => by omega)]; rfl)) (fun h4 => ?_)
  rw [if_pos ⟨by omega, by omega⟩]
  refine Wp.opt (wnd_ok (by omega)) ?_
  dsimp only
  rw [Int.toNat_natCast]
  have hsz : (s.extract w.toNat s.size).size = s.size - w.toNat := by rw [ext_size]; omega
  have hge : 11 ≤ (s.extract w.toNat s.size).size := by omega
  generalize hb : s.extract w.toNat s.size = B at hsz hge ⊢
  have key : ∀ p : DPacket, Wp (fun k => (impl_validPacket k p).bind fun r15 => bif (!r15) then some (zeroP, false) else (impl_FormPacket k p b w).bind fun r16 =>
      bif (!(r16.toList == s.toList)) then some (zeroP, false) else some (p, true)) (· = if formM p b w = s then (p, true) else (zeroP, false)) := fun p => by
    refine Wp.bind (validPacket_ok p) (fun _ e => ?_); subst e
    simp only [cbnot, cbdec]
    refine Wp.ite (fun hf => ?_) (fun hf => Wp.ret (by rw [if_neg (form_no (fun h' => hf h'.1) (by omega))]))
    refine Wp.bind (implForm_ok p b w) (fun _ e => ?_); subst e
    simp only [cbnot, cbseq]
    exact Wp.ite (fun h => Wp.ret (by rw [if_pos h])) (fun h => Wp.ret (by rw [if_neg h]))
  have hBs : B.size ≤ 1048576 := by omega
  refine Wp.opt (bidx_at (i := 0) (by omega)) ?_
  refine Wp.opt (bidx_at (i := 1) (by omega)) ?_
  refine Wp.opt (wnd_ok (by omega)) ?_
  refine Wp.bind (num_ok _ (by rw [ext_size]; simp; omega)) (fun _ e => ?_); subst e
  refine Wp.opt (wnd_ok (by omega)) ?_
  refine Wp.bind (num_ok _ (by rw [ext_size]; simp; omega)) (fun _ e => ?_); subst e
  simp only [wu, cbeq]
  refine Wp.ite (fun hk => ?_) (fun hk => ?_)
  · refine Wp.opt (wnd_ok (by omega)) ?_
    refine Wp.bind (num_ok _ (by rw [ext_size]; simp; omega)) (fun _ e => ?_); subst e
    refine Wp.opt (bidx_at (i := 10) (by omega)) ?_
    refine Wp.step ?_
    simp only [impl_ReadPacket_l10, wu]
    have := key (candP B)
    unfold candP at this ⊢
    rw [if_pos hk] at this ⊢
    exact this
  · refine Wp.ite (fun hk2 => ?_) (fun hk2 => ?_)
    · refine Wp.opt (wnd_ok (by omega)) ?_
      refine Wp.bind (num_ok _ (by rw [ext_size]; simp; omega)) (fun _ e => ?_); subst e
      refine Wp.opt (bidx_at (i := 10) (by omega)) ?_
      refine Wp.opt (wnd_ok (by omega)) ?_
      refine Wp.step ?_
      simp only [impl_ReadPacket_l10, wu]
      have := key (candP B)
      unfold candP at this ⊢
      rw [if_neg hk] at this ⊢
      exact this
    · refine Wp.step ?_
      simp only [impl_ReadPacket_l10, wu]
      have hno : ¬ Fits (candP B) := fun hf => by
        have hK : (candP B).Kind = 1 ∨ (candP B).Kind = 2 := by rcases hf.2.2.2 with h | h <;> omega
        unfold candP at hK
        rw [if_neg hk] at hK
        exact hK.elim hk hk2
      rw [if_neg (form_no (fun h => hno h.1) (by omega))]
      refine Wp.bind (validPacket_ok _) (fun _ e => ?_); subst e
      rw [decide_eq_false]
      · exact Wp.ret rfl
      · intro hf
        have hK : (((at' B 0).toNat : Int)) = 1 ∨ (((at' B 0).toNat : Int)) = 2 := hf.2.2.2.elim (fun h => .inl h.1) (fun h => .inr h.1)
        exact hK.elim hk hk2
end Km.X
namespace Km.X
open Go Km
set_option linter.unusedVariables false
set_option linter.unusedSimpArgs false
/-! ### valid ends stay valid -/
theorem tickE_V {e : DEnd} (h : VEnd e) : VEnd (tickE e).End := by
  obtain ⟨h1, h2, h3, h4, h5, h6, h7, h8⟩ := h
  have h : VEnd e := ⟨h1, h2, h3, h4, h5, h6, h7, h8⟩
  have hs := (tickS_V e h).1
  have hz : e.Peer = 0 → PNoS (tickS e).1 ∧ PNoT e.Take := fun hp => by unfold tickS; rw [if_pos hp]; exact h7 hp
  unfold tickE
  rw [if_pos h]
  split
  · rename_i hu
    have nu : ∀ q : Prop, (e.Up = false → q) := fun q g => by rw [hu] at g; cases g
    split
    · exact ⟨h1, h2, h3, ⟨by simp, by simp⟩, hs, h6, hz, nu _⟩
    · refine ⟨h1, h2, h3, ?_, hs, h6, hz, nu _⟩
      show 0 ≤ upS e ∧ upS e ≤ 1000000
      unfold upS; split <;> omega
  · exact h
theorem metE_V {e : DEnd} {p : DPacket} (h : VEnd e) (hu : e.Up = true) (hf : Fits p) : VEnd (metE e p) ∧ (metE e p).Up = true := by
  unfold metE
  split
  · refine ⟨⟨h.1, h.2.1, ?_, h.2.2.2.1, noSend_V, noTake_V, fun _ => ⟨pnoS, pnoT⟩, fun g => ?_⟩, hu⟩
    · have := hf.2.1; have := h.2.2.1
      show 0 ≤ p.Mine ∧ p.Mine ≤ 1000; omega
    · change e.Up = false at g; rw [hu] at g; cases g
  · exact ⟨h, hu⟩
theorem metE_peer {e : DEnd} {p : DPacket} (h : VEnd e) (hf : Fits p) (hm : ¬ p.Mine < e.Peer) : (metE e p).Peer = p.Mine := by
  unfold metE; split
  · rfl
  · omega
theorem bodyE_V {e : DEnd} {p : DPacket} (h : VEnd e) (hu : e.Up = true) (hp : e.Peer ≠ 0) : VEnd (bodyE e p).End := by
  obtain ⟨h1, h2, h3, h4, h5, h6, h7, h8⟩ := h
  have nu : ∀ q : Prop, (e.Up = false → q) := fun q g => by rw [hu] at g; cases g
  unfold bodyE
  split
  · split
    · exact ⟨h1, h2, h3, h4, wordM_ok _ _ _, h6, fun g => absurd g hp, nu _⟩
    · exact ⟨h1, h2, h3, h4, h5, partM_V _ _ _, fun g => absurd g hp, nu _⟩
  · exact ⟨h1, h2, h3, h4, h5, h6, fun g => absurd g hp, nu _⟩
theorem takeE_V {e : DEnd} (p : DPacket) (h : VEnd e) : VEnd (takeE e p).End := by
  unfold takeE
  rw [if_pos h]
  split
  · rename_i hc
    obtain ⟨g1, g2⟩ := metE_V h hc.1 hc.2.1
    refine bodyE_V g1 g2 ?_
    rw [metE_peer h hc.2.1 hc.2.2.2]
    have := hc.2.1.2.1; omega
  · exact h
theorem pushE_V {e : DEnd} {t : ByteArray} (h : VEnd e) (hc : (pushE e t).Code = 0) : VEnd (pushE e t).End ∧ e.Up = true ∧ e.Peer ≠ 0 ∧ t.size ≤ 200 := by
  unfold pushE at hc ⊢
  rw [if_pos h] at hc ⊢
  split at hc
  · rename_i hu
    rw [if_pos hu]
    split at hc
    · cases hc
    · rename_i hp
      rw [if_neg hp]
      split at hc
      · rename_i h0
        rw [if_pos h0]
        obtain ⟨h1, h2, h3, h4, h5, h6, h7, h8⟩ := h
        refine ⟨⟨h1, h2, h3, h4, pushM_ok _ _, h6, fun g => absurd g hp, fun g => ?_⟩, hu, hp, ?_⟩
        · change e.Up = false at g; rw [hu] at g; cases g
        · unfold pushM at h0
          split at h0
          · rename_i hh; exact hh.2
          · cases h0
      · rename_i h0; exact absurd hc h0
  · cases hc
theorem pullE_V {e : DEnd} (h : VEnd e) (hc : (pullE e).Code = 0) : VEnd (pullE e).End ∧ e.Up = true ∧ e.Peer ≠ 0 ∧ (pullE e).Text.size ≤ 200 := by
  unfold pullE at hc ⊢
  rw [if_pos h] at hc ⊢
  split at hc
  · rename_i hu
    rw [if_pos hu]
    split at hc
    · rename_i hr
      rw [if_pos hr]
      obtain ⟨h1, h2, h3, h4, h5, h6, h7, h8⟩ := h
      have hp : e.Peer ≠ 0 := fun e0 => by
        have hz := (h7 e0).2.2.2.2
        unfold pullM at hr
        rw [if_pos h6] at hr
        split at hr
        · cases hr
        · rename_i s rs hrr; rw [hrr] at hz; cases hz
      refine ⟨⟨h1, h2, h3, h4, h5, (pullM_ok _).1, fun g => absurd g hp, fun g => ?_⟩, hu, hp, (pullM_ok _).2⟩
      change e.Up = false at g; rw [hu] at g; cases g
    · cases hc
  · cases hc
theorem tickE_num {e : DEnd} (h : VEnd e) : (tickE e).End.Number = e.Number := by
  unfold tickE; rw [if_pos h]; split
  · split <;> rfl
  · rfl
theorem takeE_num {e : DEnd} (p : DPacket) (h : VEnd e) : (takeE e p).End.Number = e.Number := by
  unfold takeE; rw [if_pos h]; split
  · unfold bodyE metE; repeat' split
    all_goals rfl
  · rfl
theorem pushE_num {e : DEnd} {t : ByteArray} (h : VEnd e) (hc : (pushE e t).Code = 0) : (pushE e t).End.Number = e.Number := by
  unfold pushE at hc ⊢
  rw [if_pos h] at hc ⊢
  split at hc
  · rename_i hu; rw [if_pos hu]
    split at hc
    · cases hc
    · rename_i hp; rw [if_neg hp]
      split at hc
      · rename_i h0; rw [if_pos h0]
      · rename_i h0; exact absurd hc h0
  · cases hc
theorem pullE_num {e : DEnd} (h : VEnd e) (hc : (pullE e).Code = 0) : (pullE e).End.Number = e.Number := by
  unfold pullE at hc ⊢
  rw [if_pos h] at hc ⊢
  split at hc
  · rename_i hu; rw [if_pos hu]
    split at hc
    · rename_i hr; rw [if_pos hr]
    · cases hc
  · cases hc
theorem fallM_num {e : DEnd} (h : VEnd e) : (fallM e).Number = e.Number := by unfold fallM; rw [if_pos h]
theorem riseM_num {e : DEnd} (h : VEnd e) : (riseM e).Number = e.Number := by unfold riseM; rw [if_pos h]; repeat' split <;> try rfl
theorem tickE_out {e : DEnd} (h : VEnd e) : (tickE e).Out.length ≤ 61 := by
  have h2 := (tickS_V e h).2
  unfold tickE; rw [if_pos h]; split
  · split
    · simp; omega
    · simp; omega
  · simp

/-! ### the world, as it goes on -/
def parM (b : ByteArray) (wd to : Int) (p : DPacket) : DParcel := ⟨to, formM p b wd, formM p b wd⟩
def putM (b : ByteArray) (wd to : Int) (out : List DPacket) (fl : List DParcel) : List DParcel := fl ++ (out.map (parM b wd to)).take (1000 - fl.length)
def endAt (n : Int) (l : List DEnd) : DEnd := match l with | [e, f] => if n = 1 then e else f | _ => noEnd
def onEnd (n : Int) (x : DEnd) (l : List DEnd) : List DEnd := match l with | [e, f] => if n = 1 then [x, f] else [e, x] | l => l
def tickW (w : DWorld) : DWorld :=
  ⟨w.Key, w.Width, [(tickE (endAt 1 w.Ends)).End, (tickE (endAt 2 w.Ends)).End], putM w.Key w.Width 1 (tickE (endAt 2 w.Ends)).Out (putM w.Key w.Width 2 (tickE (endAt 1 w.Ends)).Out w.Flight), w.Forged, w.Given, w.Taken⟩
def bringW (w : DWorld) (p : DParcel) : DWorld :=
  if (readM p.Bytes w.Key w.Width).2 = true then
    ⟨w.Key, w.Width, onEnd p.To (takeE (endAt p.To w.Ends) (readM p.Bytes w.Key w.Width).1).End w.Ends, w.Flight, if ¬ p.Bytes = p.Sent ∧ w.Forged = noB then p.Bytes else w.Forged, w.Given, w.Taken⟩
  else w
def pullW (w : DWorld) (n : Int) : DWorld :=
  if w.Given.length + w.Taken.length < 400 ∧ (pullE (endAt n w.Ends)).Code = 0 then
    ⟨w.Key, w.Width, onEnd n (pullE (endAt n w.Ends)).End w.Ends, w.Flight, w.Forged, w.Given, w.Taken ++ [⟨3 - n, (endAt n w.Ends).Peer, (endAt n w.Ends).Life, (pullE (endAt n w.Ends)).Text⟩]⟩
  else w
def pushW (w : DWorld) (n : Int) (t : ByteArray) : DWorld :=
  if w.Given.length + w.Taken.length < 400 ∧ (pushE (endAt n w.Ends) t).Code = 0 then
    ⟨w.Key, w.Width, onEnd n (pushE (endAt n w.Ends) t).End w.Ends, w.Flight, w.Forged, w.Given ++ [⟨n, (endAt n w.Ends).Life, (endAt n w.Ends).Peer, t⟩], w.Taken⟩
  else w
def setFl (w : DWorld) (fl : List DParcel) : DWorld := ⟨w.Key, w.Width, w.Ends, fl, w.Forged, w.Given, w.Taken⟩
def setEn (w : DWorld) (n : Int) (x : DEnd) : DWorld := ⟨w.Key, w.Width, onEnd n x w.Ends, w.Flight, w.Forged, w.Given, w.Taken⟩
/-- one byte of a text is another one -/
def bendB (s : ByteArray) (b c : Int) : ByteArray := bstr ((bytesOf s).set b.toNat (bitsXor .u8 ((bytesOf s).getD b.toNat 0) (IntKind.wrap .u8 (c % 256))))
def parDo (w : DWorld) (v : DEvent) (p : DParcel) : DWorld :=
  if v.Kind = 2 then bringW (setFl w (w.Flight.eraseIdx v.A.toNat)) p
  else if v.Kind = 3 then (if w.Flight.length < 1000 then setFl w (w.Flight ++ [p]) else w)
  else if v.Kind = 4 then setFl w (w.Flight.eraseIdx v.A.toNat)
  else if v.Kind = 5 then (if (0 ≤ v.B ∧ v.B < p.Bytes.size) ∧ 0 ≤ v.C then setFl w (w.Flight.set v.A.toNat ⟨p.To, p.Sent, bendB p.Bytes v.B v.C⟩) else w)
  else if v.Kind = 6 then (if 0 ≤ v.B ∧ v.B ≤ p.Bytes.size then setFl w (w.Flight.set v.A.toNat ⟨p.To, p.Sent, p.Bytes.extract 0 v.B.toNat⟩) else w)
  else setFl w (w.Flight.set v.A.toNat ⟨3 - p.To, p.Sent, p.Bytes⟩)
def endDo (w : DWorld) (v : DEvent) : DWorld :=
  if v.Kind = 8 then setEn w v.A (fallM (endAt v.A w.Ends))
  else if v.Kind = 9 then setEn w v.A (riseM (endAt v.A w.Ends))
  else if v.Kind = 10 then pushW w v.A v.Text
  else pullW w v.A
def doW (w : DWorld) (v : DEvent) : DWorld :=
  if v.Kind = 1 then tickW w
  else if 2 ≤ v.Kind ∧ v.Kind ≤ 7 then (if 0 ≤ v.A then (match w.Flight[v.A.toNat]? with | some p => parDo w v p | none => w) else w)
  else if (8 ≤ v.Kind ∧ v.Kind ≤ 11) ∧ (1 ≤ v.A ∧ v.A ≤ 2) then endDo w v
  else w
def noWorld : DWorld := ⟨noB, 0, [], [], noB, [], []⟩
def doM (w : DWorld) (v : DEvent) : DWorld := if VWorld w then doW w v else noWorld

/-! ### a valid world stays valid -/
theorem vends_two : ∀ {l : List DEnd}, VEnds l → ∃ e f, l = [e, f] ∧ VEnd e ∧ e.Number = 1 ∧ VEnd f ∧ f.Number = 2
  | [a, b], h => ⟨a, b, rfl, h.1.1, h.1.2, h.2.1, h.2.2⟩
theorem vends_of {e f : DEnd} (h1 : VEnd e) (h2 : e.Number = 1) (h3 : VEnd f) (h4 : f.Number = 2) : VEnds [e, f] := ⟨⟨h1, h2⟩, ⟨h3, h4⟩⟩
theorem endAt_V {l : List DEnd} (h : VEnds l) {n : Int} (hn : 1 ≤ n ∧ n ≤ 2) : VEnd (endAt n l) ∧ (endAt n l).Number = n := by
  obtain ⟨e, f, rfl, h1, h2, h3, h4⟩ := vends_two h
  unfold endAt
  dsimp only
  split
  · rename_i hh; exact ⟨h1, by omega⟩
  · exact ⟨h3, by omega⟩
theorem onEnd_V {l : List DEnd} (h : VEnds l) {n : Int} (hn : 1 ≤ n ∧ n ≤ 2) {x : DEnd} (hx : VEnd x) (hx' : x.Number = n) : VEnds (onEnd n x l) := by
  obtain ⟨e, f, rfl, h1, h2, h3, h4⟩ := vends_two h
  unfold onEnd
  dsimp only
  split
  · rename_i hh; exact vends_of hx (by omega) h3 h4
  · exact vends_of h1 h2 hx (by omega)
theorem putM_len {b : ByteArray} {wd to : Int} {out : List DPacket} {fl : List DParcel} (h : fl.length ≤ 1000) : (putM b wd to out fl).length ≤ 1000 := by
  unfold putM; simp; omega
theorem putM_V {b : ByteArray} {wd to : Int} {out : List DPacket} {fl : List DParcel} (h : VPars fl) (ht : 1 ≤ to ∧ to ≤ 2) : VPars (putM b wd to out fl) := fun p hp => by
  unfold putM at hp
  simp only [List.mem_append] at hp
  rcases hp with hp | hp
  · exact h p hp
  · have := List.mem_of_mem_take hp
    simp only [List.mem_map] at this
    obtain ⟨q, _, rfl⟩ := this
    have := formM_size q b wd
    exact ⟨ht, by show (formM q b wd).size ≤ 100; omega, by show (formM q b wd).size ≤ 100; omega⟩
theorem tickW_V {w : DWorld} (h : VWorld w) : VWorld (tickW w) := by
  obtain ⟨h1, h2, h3, h4, h5, h6, h7, h8⟩ := h
  obtain ⟨e1, e2⟩ := endAt_V h5 (n := 1) (by omega)
  obtain ⟨f1, f2⟩ := endAt_V h5 (n := 2) (by omega)
  exact ⟨h1, h2, putM_len (putM_len h3), h4, vends_of (tickE_V e1) ((tickE_num e1).trans e2) (tickE_V f1) ((tickE_num f1).trans f2), putM_V (putM_V h6 (by omega)) (by omega), h7, h8⟩
theorem bringW_V {w : DWorld} (h : VWorld w) {p : DParcel} (hp : 1 ≤ p.To ∧ p.To ≤ 2) : VWorld (bringW w p) := by
  unfold bringW
  split
  · obtain ⟨h1, h2, h3, h4, h5, h6, h7, h8⟩ := h
    obtain ⟨e1, e2⟩ := endAt_V h5 hp
    exact ⟨h1, h2, h3, h4, onEnd_V h5 hp (takeE_V _ e1) ((takeE_num _ e1).trans e2), h6, h7, h8⟩
  · exact h
theorem vrecs_snoc {l : List DRecord} {r : DRecord} (h : VRecs l) (hr : VRec r) : VRecs (l ++ [r]) := fun x hx => by
  simp only [List.mem_append, List.mem_singleton] at hx
  rcases hx with hx | rfl
  · exact h x hx
  · exact hr
theorem pullW_V {w : DWorld} (h : VWorld w) {n : Int} (hn : 1 ≤ n ∧ n ≤ 2) : VWorld (pullW w n) := by
  unfold pullW
  split
  · rename_i hc
    obtain ⟨h1, h2, h3, h4, h5, h6, h7, h8⟩ := h
    obtain ⟨e1, e2⟩ := endAt_V h5 hn
    obtain ⟨g1, g2, g3, g4⟩ := pullE_V e1 hc.2
    have hp := e1.2.2.1
    exact ⟨h1, h2, h3, by simp only [List.length_append, List.length_singleton]; omega, onEnd_V h5 hn g1 ((pullE_num e1 hc.2).trans e2), h6, h7, vrecs_snoc h8 ⟨by simp only; omega, by simp only; omega, e1.2.1, g4⟩⟩
  · exact h
theorem pushW_V {w : DWorld} (h : VWorld w) {n : Int} (hn : 1 ≤ n ∧ n ≤ 2) (t : ByteArray) : VWorld (pushW w n t) := by
  unfold pushW
  split
  · rename_i hc
    obtain ⟨h1, h2, h3, h4, h5, h6, h7, h8⟩ := h
    obtain ⟨e1, e2⟩ := endAt_V h5 hn
    obtain ⟨g1, g2, g3, g4⟩ := pushE_V e1 hc.2
    have hp := e1.2.2.1
    exact ⟨h1, h2, h3, by simp only [List.length_append, List.length_singleton]; omega, onEnd_V h5 hn g1 ((pushE_num e1 hc.2).trans e2), h6, vrecs_snoc h7 ⟨by simp only; omega, e1.2.1, by simp only; omega, g4⟩, h8⟩
  · exact h
theorem setEn_V {w : DWorld} (h : VWorld w) {n : Int} (hn : 1 ≤ n ∧ n ≤ 2) {x : DEnd} (hx : VEnd x) (hx' : x.Number = n) : VWorld (setEn w n x) := by
  obtain ⟨h1, h2, h3, h4, h5, h6, h7, h8⟩ := h
  exact ⟨h1, h2, h3, h4, onEnd_V h5 hn hx hx', h6, h7, h8⟩
theorem setFl_V {w : DWorld} (h : VWorld w) {fl : List DParcel} (h1 : fl.length ≤ 1000) (h2 : VPars fl) : VWorld (setFl w fl) := by
  obtain ⟨g1, g2, g3, g4, g5, g6, g7, g8⟩ := h
  exact ⟨g1, g2, h1, g4, g5, h2, g7, g8⟩
theorem erase_V {l : List DParcel} (h : VPars l) (i : Nat) : VPars (l.eraseIdx i) := fun p hp => h p (List.mem_of_mem_eraseIdx hp)
theorem set_V {l : List DParcel} (h : VPars l) (i : Nat) {q : DParcel} (hq : VPar q) : VPars (l.set i q) := fun p hp => by
  rcases List.mem_or_eq_of_mem_set hp with h' | h'
  · exact h p h'
  · rw [h']; exact hq
theorem bendB_size (s : ByteArray) (b c : Int) : (bendB s b c).size = s.size := by
  unfold bendB; rw [bstr_size, List.length_set]; unfold bytesOf; simp
theorem doW_V {w : DWorld} (h : VWorld w) (v : DEvent) : VWorld (doW w v) := by
  unfold doW
  split
  · exact tickW_V h
  · split
    · split
      · split
        · rename_i p hp
          have hv : VPar p := h.2.2.2.2.2.1 p (List.mem_of_getElem? hp)
          have h6 := h.2.2.2.2.2.1
          have h3 := h.2.2.1
          have hel : (w.Flight.eraseIdx v.A.toNat).length ≤ 1000 := by have := List.length_eraseIdx_le w.Flight v.A.toNat; omega
          unfold parDo
          split
          · exact bringW_V (setFl_V h hel (erase_V h6 _)) hv.1
          · split
            · split
              · refine setFl_V h (by simp; omega) (fun q hq => ?_)
                simp only [List.mem_append, List.mem_singleton] at hq
                rcases hq with hq | rfl
                · exact h6 q hq
                · exact hv
              · exact h
            · split
              · exact setFl_V h hel (erase_V h6 _)
              · split
                · split
                  · exact setFl_V h (by simp; omega) (set_V h6 _ ⟨hv.1, hv.2.1, by show (bendB p.Bytes v.B v.C).size ≤ 100; rw [bendB_size]; exact hv.2.2⟩)
                  · exact h
                · split
                  · split
                    · exact setFl_V h (by simp; omega) (set_V h6 _ ⟨hv.1, hv.2.1, by
                        show (p.Bytes.extract 0 v.B.toNat).size ≤ 100
                        have := hv.2.2
                        rw [ext_size]; omega⟩)
                    · exact h
                  · have hvt := hv.1
                    exact setFl_V h (by simp; omega) (set_V h6 _ ⟨by show 1 ≤ 3 - p.To ∧ 3 - p.To ≤ 2; omega, hv.2.1, hv.2.2⟩)
        · exact h
      · exact h
    · split
      · rename_i hc
        have hn := hc.2
        obtain ⟨e1, e2⟩ := endAt_V h.2.2.2.2.1 hn
        unfold endDo
        split
        · exact setEn_V h hn (fallM_V _ e1) ((fallM_num e1).trans e2)
        · split
          · exact setEn_V h hn (riseM_V _ e1) ((riseM_num e1).trans e2)
          · split
            · exact pushW_V h hn _
            · exact pullW_V h hn
      · exact h
end Km.X
namespace Km.X
open Go Km
set_option linter.unusedVariables false
set_option linter.unusedSimpArgs false
/-! ### ticks, parcels, pulls: what the program does, and the reference -/
theorem ends_ix {l : List DEnd} (h : VEnds l) {n : Int} (hn : 1 ≤ n ∧ n ≤ 2) : idx l (IntKind.wrap .i64 (n - 1)) = some (endAt n l) ∧ l[Int.toNat (IntKind.wrap .i64 (n - 1))]? = some (endAt n l) ∧ ∀ x, l.set (Int.toNat (IntKind.wrap .i64 (n - 1))) x = onEnd n x l := by
  obtain ⟨e, f, rfl, _⟩ := vends_two h
  rw [w64' (by omega) (by omega)]
  have hc : n = 1 ∨ n = 2 := by omega
  rcases hc with rfl | rfl
  · exact ⟨rfl, rfl, fun _ => rfl⟩
  · exact ⟨rfl, rfl, fun _ => rfl⟩
theorem put_step (b : ByteArray) (wd to : Int) (p : DPacket) (t : List DPacket) (fl : List DParcel) (h : fl.length < 1000) : fl ++ ((p :: t).map (parM b wd to)).take (1000 - fl.length) = (fl ++ [parM b wd to p]) ++ (t.map (parM b wd to)).take (1000 - (fl ++ [parM b wd to p]).length) := by
  rw [List.map_cons, show 1000 - fl.length = (1000 - (fl.length + 1)) + 1 by omega, List.take_succ_cons]
  simp
theorem put_full (b : ByteArray) (wd to : Int) (t : List DPacket) (fl : List DParcel) (h : ¬ fl.length < 1000) : fl ++ (t.map (parM b wd to)).take (1000 - fl.length) = fl := by
  rw [show 1000 - fl.length = 0 by omega]; simp
theorem tick6 (K Fo : ByteArray) (W : Int) (Gi Ta : List DRecord) (Es : List DEnd) (i n i' : Int) (hi : 0 ≤ i ∧ i ≤ 1) {Q : DWorld → Prop} : ∀ (t pre : List DPacket) (fl : List DParcel), (pre ++ t).length ≤ 1000 → fl.length ≤ 1000 →
    Wp (fun k => impl_World_tick_l1 k n (IntKind.wrap .i64 (i' + 1)) K W Fo Es (fl ++ (t.map (parM K W (2 - i))).take (1000 - fl.length)) Gi Ta) Q →
    Wp (fun k => impl_World_tick_l6 k i n i' ((pre ++ t).length : Int) (pre.length : Int) K W Fo (pre ++ t) Es fl Gi Ta) Q
  | [], pre, fl, hl, hf, h => by
    refine Wp.step ?_
    simp only [impl_World_tick_l6, List.append_nil]
    simp (disch := omega) only [cbdec, if_neg]
    simpa using h
  | p :: t, pre, fl, hl, hf, h => by
    refine Wp.step ?_
    have hl' := hl
    simp only [List.length_append, List.length_cons] at hl
    simp only [impl_World_tick_l6]
    simp only [cbdec, lt_mid, if_true, idx_mid, get_mid, Option.bind_some]
    have ih := fun (fl2 : List DParcel) (h2 : fl2.length ≤ 1000) (hh : Wp (fun k => impl_World_tick_l1 k n (IntKind.wrap .i64 (i' + 1)) K W Fo Es (fl2 ++ (t.map (parM K W (2 - i))).take (1000 - fl2.length)) Gi Ta) Q) => tick6 K Fo W Gi Ta Es i n i' hi t (pre ++ [p]) fl2 (by simpa using hl') h2 hh
    simp only [← mid_succ, ← mid_len] at ih
    refine Wp.ite (fun hc => ?_) (fun hc => ?_)
    · refine Wp.bind (implForm_ok p K W) (fun _ q => ?_); subst q
      rw [w64' (n := 2 - i) (by omega) (by omega)]
      refine Wp.opt (app_ok (by simp; omega)) ?_
      refine Wp.step ?_
      simp only [impl_World_tick_l11]
      rw [w64' (n := (pre.length : Int) + 1) (by omega) (by omega)]
      refine ih (fl ++ [parM K W (2 - i) p]) (by simp; omega) ?_
      rw [← put_step K W (2 - i) p t fl (by omega)]; exact h
    · refine Wp.step ?_
      simp only [impl_World_tick_l11]
      rw [w64' (n := (pre.length : Int) + 1) (by omega) (by omega)]
      refine ih fl hf ?_
      rw [put_full _ _ _ _ _ (by omega)] at h ⊢; exact h
theorem implTickW_ok (w : DWorld) (h : VWorld w) : Wp (fun k => impl_World_tick k w) (· = tickW w) := by
  obtain ⟨K, W, Es, Fl, Fo, Gi, Ta⟩ := w
  obtain ⟨h1, h2, h3, h4, h5, h6, h7, h8⟩ := h
  obtain ⟨e, f, he, e1, e2, f1, f2⟩ := vends_two h5
  dsimp only at he; subst he
  have he1 := tickE_out e1
  have hf1 := tickE_out f1
  unfold impl_World_tick
  have len2 : (([e, f] : List DEnd).length : Int) = 2 := rfl
  have len2' : ∀ x : DEnd, (([x, f] : List DEnd).length : Int) = 2 := fun _ => rfl
  dsimp only
  rw [len2]
  refine Wp.step ?_
  simp only [impl_World_tick_l1]
  have i0 : ∀ x y : DEnd, idx [x, y] 0 = some x := fun _ _ => rfl
  have g0 : ∀ x y : DEnd, [x, y][Int.toNat 0]? = some x := fun _ _ => rfl
  have s0 : ∀ x y z : DEnd, [x, y].set (Int.toNat 0) z = [z, y] := fun _ _ _ => rfl
  have i1 : ∀ x y : DEnd, idx [x, y] 1 = some y := fun _ _ => rfl
  have g1 : ∀ x y : DEnd, [x, y][Int.toNat 1]? = some y := fun _ _ => rfl
  have s1 : ∀ x y z : DEnd, [x, y].set (Int.toNat 1) z = [x, z] := fun _ _ _ => rfl
  simp (disch := omega) only [cbdec, if_pos, i0, g0, Option.bind_some]
  refine Wp.bind (implTickE_ok e) (fun _ q => ?_); subst q
  rw [s0]
  refine tick6 K Fo W Gi Ta _ 0 2 0 (by omega) (tickE e).Out [] Fl (by simp; omega) h3 ?_
  rw [w64' (n := (0 : Int) + 1) (by omega) (by omega)]
  refine Wp.step ?_
  simp only [impl_World_tick_l1]
  simp (disch := omega) only [cbdec, if_pos, Int.zero_add, i1, g1, Option.bind_some]
  refine Wp.bind (implTickE_ok f) (fun _ q => ?_); subst q
  rw [s1]
  have hpl := putM_len (b := K) (wd := W) (to := 2) (out := (tickE e).Out) (show Fl.length ≤ 1000 from h3)
  refine tick6 K Fo W Gi Ta _ 1 2 1 (by omega) (tickE f).Out [] (putM K W 2 (tickE e).Out Fl) (by simp; omega) hpl ?_
  rw [w64' (n := (1 : Int) + 1) (by omega) (by omega)]
  refine Wp.step ?_
  simp only [impl_World_tick_l1]
  simp (disch := omega) only [cbdec, if_neg]
  exact Wp.ret rfl
theorem stick7 (K Fo k1 k2 k3 Op Tx : ByteArray) (W z : Int) (c n : Int) (u : Bool) (li p s : Int) (o : Bool) (b nx : Int) (Gi Ta : List DRecord) (Es E2 : List DEnd) (F2 : List DParcel) (G2 T2 : List DRecord) (i : Int) (hi : 0 ≤ i ∧ i ≤ 1) {Q : DWorld → Prop} : ∀ (t pre : List DPacket) (fl : List DParcel), (pre ++ t).length ≤ 1000 → fl.length ≤ 1000 →
    Wp (fun k => spec_l7Tick_l2 k (IntKind.wrap .i64 (i + 1)) K W Fo k1 z k2 Es (fl ++ (t.map (parM K W (2 - i))).take (1000 - fl.length)) Gi Ta E2 F2 G2 T2) Q →
    Wp (fun k => spec_l7Tick_l7 k i (pre.length : Int) K W Fo k1 z k2 c n u li p s o b nx Op Tx Es fl Gi Ta E2 F2 G2 T2 (pre ++ t)) Q
  | [], pre, fl, hl, hf, h => by
    refine Wp.step ?_
    simp only [spec_l7Tick_l7, List.append_nil]
    simp (disch := omega) only [cbdec, if_neg]
    simpa using h
  | q :: t, pre, fl, hl, hf, h => by
    refine Wp.step ?_
    have hl' := hl
    simp only [List.length_append, List.length_cons] at hl
    simp only [spec_l7Tick_l7]
    simp only [cbdec, lt_mid, if_true, idx_mid, get_mid, Option.bind_some]
    have ih := fun (fl2 : List DParcel) (h2 : fl2.length ≤ 1000) (hh : Wp (fun k => spec_l7Tick_l2 k (IntKind.wrap .i64 (i + 1)) K W Fo k1 z k2 Es (fl2 ++ (t.map (parM K W (2 - i))).take (1000 - fl2.length)) Gi Ta E2 F2 G2 T2) Q) => stick7 K Fo k1 k2 k3 Op Tx W z c n u li p s o b nx Gi Ta Es E2 F2 G2 T2 i hi t (pre ++ [q]) fl2 (by simpa using hl') h2 hh
    simp only [← mid_succ, ← mid_len] at ih
    refine Wp.ite (fun hc => ?_) (fun hc => ?_)
    · refine Wp.bind (specForm_ok q K W) (fun _ e => ?_); subst e
      rw [w64' (n := 2 - i) (by omega) (by omega)]
      refine Wp.opt (app_ok (by simp; omega)) ?_
      rw [w64' (n := (pre.length : Int) + 1) (by omega) (by omega)]
      refine ih (fl ++ [parM K W (2 - i) q]) (by simp; omega) ?_
      rw [← put_step K W (2 - i) q t fl (by omega)]; exact h
    · rw [put_full _ _ _ _ _ (by omega)] at h; exact h
theorem specTickW_ok (w : DWorld) (h : VWorld w) : Wp (fun k => spec_l7Tick k w) (· = tickW w) := by
  obtain ⟨K, W, Es, Fl, Fo, Gi, Ta⟩ := w
  obtain ⟨h1, h2, h3, h4, h5, h6, h7, h8⟩ := h
  obtain ⟨e, f, he, e1, e2, f1, f2⟩ := vends_two h5
  dsimp only at he; subst he
  have he1 := tickE_out e1
  have hf1 := tickE_out f1
  unfold spec_l7Tick
  dsimp only
  refine Wp.step ?_
  simp only [spec_l7Tick_l2]
  have i0 : ∀ x y : DEnd, idx [x, y] 0 = some x := fun _ _ => rfl
  have g0 : ∀ x y : DEnd, [x, y][Int.toNat 0]? = some x := fun _ _ => rfl
  have s0 : ∀ x y z : DEnd, [x, y].set (Int.toNat 0) z = [z, y] := fun _ _ _ => rfl
  have i1 : ∀ x y : DEnd, idx [x, y] 1 = some y := fun _ _ => rfl
  have g1 : ∀ x y : DEnd, [x, y][Int.toNat 1]? = some y := fun _ _ => rfl
  have s1 : ∀ x y z : DEnd, [x, y].set (Int.toNat 1) z = [x, z] := fun _ _ _ => rfl
  simp (disch := omega) only [cbdec, if_pos, i0, g0, Option.bind_some]
  refine Wp.bind (specTickE_ok e) (fun _ q => ?_); subst q
  rw [s0]
  refine stick7 K Fo _ _ noB _ _ W _ _ _ _ _ _ _ _ _ _ Gi Ta _ _ _ _ _ 0 (by omega) (tickE e).Out [] Fl (by simp; omega) h3 ?_
  rw [w64' (n := (0 : Int) + 1) (by omega) (by omega)]
  refine Wp.step ?_
  simp only [spec_l7Tick_l2]
  simp (disch := omega) only [cbdec, if_pos, Int.zero_add, i1, g1, Option.bind_some]
  refine Wp.bind (specTickE_ok f) (fun _ q => ?_); subst q
  rw [s1]
  have hpl := putM_len (b := K) (wd := W) (to := 2) (out := (tickE e).Out) (show Fl.length ≤ 1000 from h3)
  refine stick7 K Fo _ _ noB _ _ W _ _ _ _ _ _ _ _ _ _ Gi Ta _ _ _ _ _ 1 (by omega) (tickE f).Out [] (putM K W 2 (tickE e).Out Fl) (by simp; omega) hpl ?_
  rw [w64' (n := (1 : Int) + 1) (by omega) (by omega)]
  refine Wp.step ?_
  simp only [spec_l7Tick_l2]
  simp (disch := omega) only [cbdec, if_neg]
  exact Wp.ret rfl
/-! ### a parcel is brought -/
theorem l5_ok (K Fo B Sn By : ByteArray) (W : Int) (p : DParcel) (q : DPacket) (Es : List DEnd) (Fl : List DParcel) (Gi Ta : List DRecord) (h5 : VEnds Es) (hp : 1 ≤ p.To ∧ p.To ≤ 2) : Wp (fun k => impl_World_bring_l5 k K W Fo p.To p.Sent p.Bytes q.Kind q.From q.Mine q.Yours q.Next q.Mask q.Seq q.Last q.Part Es Fl Gi Ta) (· = ⟨K, W, onEnd p.To (takeE (endAt p.To Es) q).End Es, Fl, Fo, Gi, Ta⟩) := by
  refine Wp.step ?_
  simp only [impl_World_bring_l5]
  obtain ⟨a1, a2, a3⟩ := ends_ix h5 hp
  simp only [a1, a2, a3, Option.bind_some]
  refine Wp.bind (implTakeE_ok _ _) (fun _ e => ?_); subst e
  exact Wp.ret rfl
theorem implBringW_ok (w : DWorld) (h : VWorld w) (p : DParcel) (hp : 1 ≤ p.To ∧ p.To ≤ 2) (hs : p.Bytes.size ≤ 100) : Wp (fun k => impl_World_bring k w p) (· = bringW w p) := by
  obtain ⟨K, W, Es, Fl, Fo, Gi, Ta⟩ := w
  have h5 := h.2.2.2.2.1
  unfold impl_World_bring bringW
  refine Wp.bind (implRead_ok p.Bytes K W (by omega)) (fun _ e => ?_); subst e
  dsimp only
  simp only [cbnot]
  refine Wp.bif (fun hr => ?_) (fun hr => Wp.ret (by rw [if_neg (by simp [hr])]))
  rw [if_pos hr]
  simp only [cbseq]
  refine Wp.ite (fun hb => ?_) (fun hb => ?_)
  · refine (l5_ok K Fo noB noB noB W p _ Es Fl Gi Ta h5 hp).mono fun r hr => ?_
    rw [hr, if_neg (by simp [hb])]
  · refine Wp.ite (fun hf => ?_) (fun hf => ?_)
    · refine (l5_ok K p.Bytes noB noB noB W p _ Es Fl Gi Ta h5 hp).mono fun r hr => ?_
      rw [hr, if_pos ⟨hb, hf⟩]
    · refine (l5_ok K Fo noB noB noB W p _ Es Fl Gi Ta h5 hp).mono fun r hr => ?_
      rw [hr, if_neg (fun g => hf g.2)]
theorem erase_eq (l : List DParcel) (i : Nat) (h : i < l.length) : l.take i ++ l.drop (i + 1) = l.eraseIdx i := (List.eraseIdx_eq_take_drop_succ l i).symm
theorem dcut_head {α : Type} (l : List α) (i : Nat) : dcut l 0 i = l.take i := by simp [dcut]
theorem dcut_tail {α : Type} (l : List α) (i : Nat) : dcut l i l.length = l.drop i := by simp [dcut]
theorem without_ok (l : List DParcel) (i : Nat) (h : i < l.length) (hl : l.length ≤ 1000) : Wp (fun k => spec_l7Without k l (i : Int)) (· = l.eraseIdx i) := by
  unfold spec_l7Without
  refine Wp.opt (wnd_ok ⟨by omega, by omega, by omega⟩) ?_
  dsimp only
  rw [Int.toNat_natCast, show Int.toNat 0 = 0 from rfl, dcut_head]
  refine Wp.opt (app_ok (by simp; omega)) ?_
  rw [w64' (by omega) (by omega)]
  refine Wp.opt (wnd_ok ⟨by omega, by omega, by omega⟩) ?_
  dsimp only
  rw [Int.toNat_natCast, show Int.toNat ((i : Int) + 1) = i + 1 by omega, dcut_tail]
  refine Wp.opt (app_ok (by simp; omega)) ?_
  refine Wp.ret ?_
  rw [← erase_eq l i h]; simp
theorem l8_ok (K Fo k1 k2 : ByteArray) (W z : Int) (p : DParcel) (q : DPacket) (Es E2 : List DEnd) (Fl F2 : List DParcel) (Gi Ta G2 T2 : List DRecord) (h5 : VEnds Es) (hp : 1 ≤ p.To ∧ p.To ≤ 2) : Wp (fun k => spec_l7Bring_l8 k K W Fo k1 z k2 p.To p.Sent p.Bytes q.Kind q.From q.Mine q.Yours q.Next q.Mask q.Seq q.Last q.Part Es Fl Gi Ta E2 F2 G2 T2) (· = ⟨K, W, onEnd p.To (takeE (endAt p.To Es) q).End Es, Fl, Fo, Gi, Ta⟩) := by
  refine Wp.step ?_
  simp only [spec_l7Bring_l8]
  obtain ⟨a1, a2, a3⟩ := ends_ix h5 hp
  simp only [a1, a2, a3, Option.bind_some]
  refine Wp.bind (specTakeE_ok _ _) (fun _ e => ?_); subst e
  exact Wp.ret rfl
theorem specBringW_ok (w : DWorld) (h : VWorld w) (i : Nat) {p : DParcel} (hi : w.Flight[i]? = some p) : Wp (fun k => spec_l7Bring k w (i : Int)) (· = bringW (setFl w (w.Flight.eraseIdx i)) p) := by
  have hv : VPar p := h.2.2.2.2.2.1 p (List.mem_of_getElem? hi)
  have hlt := (List.getElem?_eq_some_iff.mp hi).1
  obtain ⟨K, W, Es, Fl, Fo, Gi, Ta⟩ := w
  have h5 := h.2.2.2.2.1
  have h3 := h.2.2.1
  dsimp only at hi hlt h3 h5
  unfold spec_l7Bring bringW setFl
  dsimp only
  have e1 : idx Fl (i : Int) = some p := by rw [idx_nat]; exact hi
  have e2 : Fl[Int.toNat (i : Int)]? = some p := by rw [Int.toNat_natCast]; exact hi
  simp only [e1, e2, Option.bind_some]
  refine Wp.bind (without_ok Fl i hlt h3) (fun _ e => ?_); subst e
  refine Wp.bind (specRead_ok p.Bytes K W (by have := hv.2.2; omega)) (fun _ e => ?_); subst e
  simp only [cbnot]
  refine Wp.bif (fun hr => ?_) (fun hr => Wp.ret (by rw [if_neg (by simp [hr])]))
  rw [if_pos hr]
  simp only [cbseq]
  refine Wp.ite (fun hb => ?_) (fun hb => ?_)
  · refine (l8_ok K Fo _ _ W _ p _ Es _ _ _ Gi Ta _ _ h5 hv.1).mono fun r hr => ?_
    rw [hr, if_neg (by simp [hb])]
  · refine Wp.ite (fun hf => ?_) (fun hf => ?_)
    · refine (l8_ok K p.Bytes _ _ W _ p _ Es _ _ _ Gi Ta _ _ h5 hv.1).mono fun r hr => ?_
      rw [hr, if_pos ⟨hb, hf⟩]
    · refine (l8_ok K Fo _ _ W _ p _ Es _ _ _ Gi Ta _ _ h5 hv.1).mono fun r hr => ?_
      rw [hr, if_neg (fun g => hf g.2)]
/-! ### a message is taken -/
theorem full_w {a b : Nat} (h : a + b ≤ 400) : IntKind.wrap .i64 ((a : Int) + (b : Int)) = ((a + b : Nat) : Int) := by rw [w64' (by omega) (by omega)]; omega
theorem implPullW_ok (w : DWorld) (h : VWorld w) (n : Int) (hn : 1 ≤ n ∧ n ≤ 2) : Wp (fun k => impl_World_pull k w n) (· = pullW w n) := by
  obtain ⟨K, W, Es, Fl, Fo, Gi, Ta⟩ := w
  have h5 := h.2.2.2.2.1
  have h4 := h.2.2.2.1
  dsimp only at h4 h5
  unfold impl_World_pull impl_World_full pullW
  dsimp only
  simp only [Option.bind_some, full_w h4, cbdec]
  refine Wp.ite (fun hc => Wp.ret (by rw [if_neg (by omega)])) (fun hc => ?_)
  obtain ⟨a1, a2, a3⟩ := ends_ix h5 hn
  simp only [a1, a2, a3, Option.bind_some]
  refine Wp.bind (implPullE_ok _) (fun _ e => ?_); subst e
  simp only [cbeq]
  refine Wp.ite (fun h0 => ?_) (fun h0 => Wp.ret (by rw [if_neg (fun g => h0 g.2)]))
  rw [w64' (n := 3 - n) (by omega) (by omega)]
  refine Wp.opt (app_ok (by simp; omega)) ?_
  exact Wp.ret (by rw [if_pos ⟨by omega, h0⟩])
end Km.X
namespace Km.X
open Go Km
set_option linter.unusedVariables false
/-! ### the document's events -/
theorem l18_ok (K Fo a c : ByteArray) (W b : Int) (Es : List DEnd) (Fl : List DParcel) (Gi Ta : List DRecord) (E2 : List DEnd) (F2 : List DParcel) (G2 T2 : List DRecord) : Wp (fun k => spec_l7End_l18 k K W Fo a b c Es Fl Gi Ta E2 F2 G2 T2) (· = ⟨K, W, Es, Fl, Fo, Gi, Ta⟩) := by
  refine Wp.step ?_
  simp only [spec_l7End_l18]
  exact Wp.ret rfl
theorem l11_ok (K Fo a c : ByteArray) (W b : Int) (Es : List DEnd) (Fl : List DParcel) (Gi Ta : List DRecord) (E2 : List DEnd) (F2 : List DParcel) (G2 T2 : List DRecord) : Wp (fun k => spec_l7Parcel_l11 k K W Fo a b c Es Fl Gi Ta E2 F2 G2 T2) (· = ⟨K, W, Es, Fl, Fo, Gi, Ta⟩) := by
  refine Wp.step ?_
  simp only [spec_l7Parcel_l11]
  exact Wp.ret rfl
theorem l45_ok (K Fo a c : ByteArray) (W b : Int) (Es : List DEnd) (Fl : List DParcel) (Gi Ta : List DRecord) (E2 : List DEnd) (F2 : List DParcel) (G2 T2 : List DRecord) : Wp (fun k => impl_Do_l45 k a b c K W Fo E2 F2 G2 T2 Es Fl Gi Ta) (· = ⟨K, W, Es, Fl, Fo, Gi, Ta⟩) := by
  refine Wp.step ?_
  simp only [impl_Do_l45]
  exact Wp.ret rfl
theorem set_same {α : Type} {l : List α} {i : Nat} {p : α} (h : l[i]? = some p) : l.set i p = l := by
  obtain ⟨h1, h2⟩ := List.getElem?_eq_some_iff.mp h
  subst h2; exact List.set_getElem_self h1
theorem specEnd_ok (w : DWorld) (h : VWorld w) (v : DEvent) (hk : 8 ≤ v.Kind ∧ v.Kind ≤ 11) (hn : 1 ≤ v.A ∧ v.A ≤ 2) : Wp (fun k => spec_l7End k w v) (· = endDo w v) := by
  obtain ⟨K, W, Es, Fl, Fo, Gi, Ta⟩ := w
  have h5 := h.2.2.2.2.1
  have h4 := h.2.2.2.1
  dsimp only at h4 h5
  obtain ⟨a1, a2, a3⟩ := ends_ix h5 hn
  unfold spec_l7End endDo
  dsimp only
  simp only [a1, a2, a3, Option.bind_some, cbeq]
  refine Wp.ite (fun e => ?_) (fun e => ?_)
  · refine Wp.bind (specFall_ok _) (fun _ e' => ?_); subst e'
    exact (l18_ok ..).mono fun r hr => by rw [hr, if_pos e]; rfl
  rw [if_neg e]
  refine Wp.ite (fun e => ?_) (fun e => ?_)
  · refine Wp.bind (specRise_ok _) (fun _ e' => ?_); subst e'
    exact (l18_ok ..).mono fun r hr => by rw [hr, if_pos e]; rfl
  rw [if_neg e]
  refine Wp.ite (fun e => ?_) (fun e => ?_)
  · rw [if_pos e]
    refine Wp.bind (specPushE_ok _ _) (fun _ e' => ?_); subst e'
    simp only [full_w h4, cbdec]
    unfold pushW
    dsimp only
    refine Wp.ite (fun h0 => ?_) (fun h0 => ?_)
    · refine Wp.ite (fun h1 => ?_) (fun h1 => ?_)
      · refine Wp.opt (app_ok (by simp; omega)) ?_
        exact (l18_ok ..).mono fun r hr => by rw [hr, if_pos ⟨by omega, h0⟩]
      · exact (l18_ok ..).mono fun r hr => by rw [hr, if_neg (fun g => by omega)]
    · exact (l18_ok ..).mono fun r hr => by rw [hr, if_neg (fun g => h0 g.2)]
  rw [if_neg e]
  refine Wp.ite (fun e => ?_) (fun e => by omega)
  refine Wp.bind (specPullE_ok _) (fun _ e' => ?_); subst e'
  simp only [full_w h4, cbdec]
  unfold pullW
  dsimp only
  refine Wp.ite (fun h0 => ?_) (fun h0 => ?_)
  · refine Wp.ite (fun h1 => ?_) (fun h1 => ?_)
    · rw [w64' (n := 3 - v.A) (by omega) (by omega)]
      refine Wp.opt (app_ok (by simp; omega)) ?_
      exact (l18_ok ..).mono fun r hr => by rw [hr, if_pos ⟨by omega, h0⟩]
    · exact (l18_ok ..).mono fun r hr => by rw [hr, if_neg (fun g => by omega)]
  · exact (l18_ok ..).mono fun r hr => by rw [hr, if_neg (fun g => h0 g.2)]
theorem l22_ok (K Fo a c Tx : ByteArray) (W b Kd A B C To : Int) (Sn By : ByteArray) (Es : List DEnd) (Fl : List DParcel) (Gi Ta : List DRecord) (E2 : List DEnd) (F2 : List DParcel) (G2 T2 : List DRecord) {p : DParcel} (h1 : idx Fl A = some p) (h2 : Fl[Int.toNat A]? = some p) : Wp (fun k => spec_l7Parcel_l22 k K W Fo Kd A B C Tx a b c To Sn By Es Fl Gi Ta E2 F2 G2 T2) (· = ⟨K, W, Es, Fl.set A.toNat ⟨To, Sn, By⟩, Fo, Gi, Ta⟩) := by
  refine Wp.step ?_
  simp only [spec_l7Parcel_l22, h1, h2, Option.bind_some]
  exact Wp.ret rfl
theorem bytes_at {s : ByteArray} {b : Int} (h : 0 ≤ b ∧ b < s.size) : idx (bytesOf s) b = some ((bytesOf s).getD b.toNat 0) ∧ (bytesOf s)[b.toNat]? = some ((bytesOf s).getD b.toNat 0) := by
  have hl : b.toNat < (bytesOf s).length := by
    have : (bytesOf s).length = s.size := by unfold bytesOf; rw [List.length_map, Array.length_toList]; rfl
    omega
  have e : (bytesOf s)[b.toNat]? = some ((bytesOf s).getD b.toNat 0) := by rw [List.getD_eq_getElem?_getD, List.getElem?_eq_getElem hl]; rfl
  refine ⟨?_, e⟩
  have := idx_nat (bytesOf s) b.toNat
  rw [Int.toNat_of_nonneg h.1] at this
  rw [this, e]
theorem specParcel_ok (w : DWorld) (h : VWorld w) (v : DEvent) (hk : 2 ≤ v.Kind ∧ v.Kind ≤ 7) (h0 : 0 ≤ v.A) {p : DParcel} (hp : w.Flight[v.A.toNat]? = some p) : Wp (fun k => spec_l7Parcel k w v) (· = parDo w v p) := by
  have hv : VPar p := h.2.2.2.2.2.1 p (List.mem_of_getElem? hp)
  have hlt := (List.getElem?_eq_some_iff.mp hp).1
  have hb := specBringW_ok w h v.A.toNat hp
  have hwo := without_ok w.Flight v.A.toNat hlt h.2.2.1
  have hix : idx w.Flight v.A = some p := by have := idx_nat w.Flight v.A.toNat; rw [Int.toNat_of_nonneg h0] at this; rw [this, hp]
  rw [Int.toNat_of_nonneg h0] at hb hwo
  obtain ⟨K, W, Es, Fl, Fo, Gi, Ta⟩ := w
  have h3 := h.2.2.1
  dsimp only at hp hlt h3 hwo hix
  unfold spec_l7Parcel parDo
  dsimp only
  simp only [hix, hp, Option.bind_some, cbeq]
  refine Wp.ite (fun e => ?_) (fun e => ?_)
  · refine Wp.bind hb (fun _ e' => ?_); subst e'
    exact Wp.ret (by rw [if_pos e])
  rw [if_neg e]
  refine Wp.ite (fun e4 => ?_) (fun e4 => ?_)
  · refine Wp.bind hwo (fun _ e' => ?_); subst e'
    exact Wp.ret (by rw [if_neg (by omega), if_pos e4]; rfl)
  refine Wp.ite (fun e => ?_) (fun e => ?_)
  · rw [if_pos e]
    refine Wp.dec (fun hl => ?_) (fun hl => ?_)
    · refine Wp.opt (app_ok (by simp; omega)) ?_
      exact (l11_ok ..).mono fun r hr => by rw [hr, if_pos (by omega)]; rfl
    · exact (l11_ok ..).mono fun r hr => by rw [hr, if_neg (by omega)]
  rw [if_neg e, if_neg e4]
  have same : Fl.set v.A.toNat ⟨p.To, p.Sent, p.Bytes⟩ = Fl := set_same hp
  refine Wp.ite (fun e => ?_) (fun e => ?_)
  · rw [if_pos e]
    refine Wp.dec (fun h1 => ?_) (fun h1 => ?_)
    · refine Wp.dec (fun h2 => ?_) (fun h2 => ?_)
      · refine Wp.dec (fun h3 => ?_) (fun h3 => ?_)
        · obtain ⟨b1, b2⟩ := bytes_at (s := p.Bytes) (b := v.B) ⟨h1, h2⟩
          simp only [b1, b2, Option.bind_some]
          refine Wp.opt (qrem_nn h3 (by omega)) ?_
          exact (l22_ok (h1 := hix) (h2 := hp) ..).mono fun r hr => by rw [hr, if_pos ⟨⟨h1, h2⟩, h3⟩]; rfl
        · exact (l22_ok (h1 := hix) (h2 := hp) ..).mono fun r hr => by rw [hr, if_neg (fun g => h3 g.2), same]
      · exact (l22_ok (h1 := hix) (h2 := hp) ..).mono fun r hr => by rw [hr, if_neg (fun g => h2 g.1.2), same]
    · exact (l22_ok (h1 := hix) (h2 := hp) ..).mono fun r hr => by rw [hr, if_neg (fun g => h1 g.1.1), same]
  rw [if_neg e]
  refine Wp.ite (fun e => ?_) (fun e => ?_)
  · rw [if_pos e]
    refine Wp.dec (fun h1 => ?_) (fun h1 => ?_)
    · refine Wp.dec (fun h2 => ?_) (fun h2 => ?_)
      · refine Wp.opt (wnd_ok ⟨by omega, h1, h2⟩) ?_
        exact (l22_ok (h1 := hix) (h2 := hp) ..).mono fun r hr => by rw [hr, if_pos ⟨h1, h2⟩]; rfl
      · exact (l22_ok (h1 := hix) (h2 := hp) ..).mono fun r hr => by rw [hr, if_neg (fun g => h2 g.2), same]
    · exact (l22_ok (h1 := hix) (h2 := hp) ..).mono fun r hr => by rw [hr, if_neg (fun g => h1 g.1), same]
  rw [if_neg e]
  refine Wp.ite (fun e => ?_) (fun e => by omega)
  have := hv.1
  exact (l22_ok (h1 := hix) (h2 := hp) ..).mono fun r hr => by rw [hr, w64' (n := 3 - p.To) (by omega) (by omega)]; rfl
/-! ### which event it is -/
theorem doW_par {w : DWorld} {v : DEvent} {p : DParcel} (hk : 2 ≤ v.Kind ∧ v.Kind ≤ 7) (h0 : 0 ≤ v.A) (hp : w.Flight[v.A.toNat]? = some p) : doW w v = parDo w v p := by
  unfold doW; rw [if_neg (by omega), if_pos hk, if_pos h0, hp]
theorem doW_parNone {w : DWorld} {v : DEvent} (hk : 2 ≤ v.Kind ∧ v.Kind ≤ 7) (h0 : ¬ (0 ≤ v.A ∧ v.A < w.Flight.length)) : doW w v = w := by
  unfold doW; rw [if_neg (by omega), if_pos hk]
  split
  · rename_i h; rw [List.getElem?_eq_none (by omega)]
  · rfl
theorem doW_end {w : DWorld} {v : DEvent} (hk : 8 ≤ v.Kind ∧ v.Kind ≤ 11) (h0 : 1 ≤ v.A ∧ v.A ≤ 2) : doW w v = endDo w v := by
  unfold doW; rw [if_neg (by omega), if_neg (by omega), if_pos ⟨hk, h0⟩]
theorem doW_none {w : DWorld} {v : DEvent} (hk : ¬ (1 ≤ v.Kind ∧ v.Kind ≤ 11) ∨ (8 ≤ v.Kind ∧ ¬ (1 ≤ v.A ∧ v.A ≤ 2))) : doW w v = w := by
  unfold doW; rw [if_neg (by omega), if_neg (by omega), if_neg (by omega)]
theorem specDoW_ok (w : DWorld) (h : VWorld w) (v : DEvent) : Wp (fun k => spec_l7Do k w v) (· = doW w v) := by
  have h3 := h.2.2.1
  unfold spec_l7Do
  simp only [cbeq]
  refine Wp.ite (fun e => ?_) (fun e => ?_)
  · refine Wp.bind (specTickW_ok w h) (fun _ e' => ?_); subst e'
    exact Wp.ret (by unfold doW; rw [if_pos e])
  refine Wp.bind (l1In_ok _ _ _) (fun _ e' => ?_); subst e'
  refine Wp.bif (fun hb => ?_) (fun hb => ?_)
  · simp only [Bool.and_eq_true, decide_eq_true_eq] at hb
    refine Wp.bind (l1In_ok _ _ _) (fun _ e' => ?_); subst e'
    rw [w64' (n := (w.Flight.length : Int) - 1) (by omega) (by omega)]
    refine Wp.bif (fun ha => ?_) (fun ha => ?_)
    · simp only [Bool.and_eq_true, decide_eq_true_eq] at ha
      have hg : w.Flight[v.A.toNat]? = some (w.Flight[v.A.toNat]'(by omega)) := List.getElem?_eq_getElem (by omega)
      refine Wp.bind (specParcel_ok w h v hb ha.1 hg) (fun _ e' => ?_); subst e'
      exact Wp.ret (doW_par hb ha.1 hg).symm
    · simp only [Bool.and_eq_false_iff, decide_eq_false_iff_not] at ha
      refine Wp.bind (l1In_ok _ _ _) (fun _ e' => ?_); subst e'
      refine Wp.bif (fun h8 => ?_) (fun h8 => Wp.ret (doW_parNone hb (by omega)).symm)
      simp only [Bool.and_eq_true, decide_eq_true_eq] at h8
      omega
  · simp only [Bool.and_eq_false_iff, decide_eq_false_iff_not] at hb
    refine Wp.bind (l1In_ok _ _ _) (fun _ e' => ?_); subst e'
    refine Wp.bif (fun h8 => ?_) (fun h8 => ?_)
    · simp only [Bool.and_eq_true, decide_eq_true_eq] at h8
      refine Wp.bind (l1In_ok _ _ _) (fun _ e' => ?_); subst e'
      refine Wp.bif (fun ha => ?_) (fun ha => ?_)
      · simp only [Bool.and_eq_true, decide_eq_true_eq] at ha
        refine Wp.bind (specEnd_ok w h v h8 ha) (fun _ e' => ?_); subst e'
        exact Wp.ret (doW_end h8 ha).symm
      · simp only [Bool.and_eq_false_iff, decide_eq_false_iff_not] at ha
        exact Wp.ret (doW_none (.inr ⟨h8.1, by omega⟩)).symm
    · simp only [Bool.and_eq_false_iff, decide_eq_false_iff_not] at h8
      exact Wp.ret (doW_none (.inl (by omega))).symm
/-! ### copies -/
theorem specCopyL (K Fo K' Fo' a c : ByteArray) (W W' b : Int) (Fl Fl' : List DParcel) (Gi Ta Gi' Ta' : List DRecord) (E2 : List DEnd) (F2 : List DParcel) (G2 T2 : List DRecord) (hf : Fl.length ≤ 1000) (hg : Gi.length ≤ 1000) (ht : Ta.length ≤ 1000) : ∀ (t pre : List DEnd), (pre ++ t).length ≤ 1000 → (∀ e ∈ t, VEnd e) →
    Wp (fun k => spec_l7Copy_l4 k (pre.length : Int) K W (pre ++ t) Fl Fo Gi Ta a b c K' W' Fl' Fo' Gi' Ta' E2 F2 G2 T2 pre) (· = ⟨K', W', pre ++ t, Fl, Fo', Gi, Ta⟩)
  | [], pre, hl, hv => by
    refine Wp.step ?_
    simp only [spec_l7Copy_l4]
    simp only [List.append_nil] at hl ⊢
    simp (disch := omega) only [cbdec, if_neg]
    refine Wp.opt (app_ok (by simp; omega)) ?_
    refine Wp.opt (app_ok (by simp; omega)) ?_
    refine Wp.opt (app_ok (by simp; omega)) ?_
    exact Wp.ret (by simp)
  | e :: t, pre, hl, hv => by
    refine Wp.step ?_
    simp only [spec_l7Copy_l4]
    simp only [cbdec]
    simp only [List.length_append, List.length_cons] at hl
    refine Wp.ite (fun _ => ?_) (fun hx => absurd (by simp; omega) hx)
    simp only [idx_mid, Option.bind_some]
    refine Wp.bind (l6Copy_ok e (hv e (by simp))) (fun _ e' => ?_); have e'' := e'.symm; subst e''
    refine Wp.opt (app_ok (by simp; omega)) ?_
    rw [w64' (n := (pre.length : Int) + 1) (by omega) (by omega)]
    have := specCopyL K Fo K' Fo' a c W W' b Fl Fl' Gi Ta Gi' Ta' E2 F2 G2 T2 hf hg ht t (pre ++ [e]) (by simp; omega) (fun x hx => hv x (by simp [hx]))
    simpa using this
theorem specCopyW_ok (w : DWorld) (h : VWorld w) : Wp (fun k => spec_l7Copy k w) (· = w) := by
  obtain ⟨K, W, Es, Fl, Fo, Gi, Ta⟩ := w
  have h5 := h.2.2.2.2.1
  have h4 := h.2.2.2.1
  have h3 := h.2.2.1
  dsimp only at h3 h4 h5
  obtain ⟨e, f, rfl, a1, _, a2, _⟩ := vends_two h5
  unfold spec_l7Copy
  have := specCopyL K Fo K Fo noB noB W W 0 Fl Fl Gi Ta Gi Ta [] [] [] [] (by omega) (by omega) (by omega) [e, f] [] (by simp) (by simp [a1, a2])
  simpa using this
theorem implCopyW_ok (w : DWorld) (h : VWorld w) : Wp (fun k => impl_copyWorld k w) (· = w) := by
  obtain ⟨K, W, Es, Fl, Fo, Gi, Ta⟩ := w
  have h5 := h.2.2.2.2.1
  have h4 := h.2.2.2.1
  have h3 := h.2.2.1
  dsimp only at h3 h4 h5
  obtain ⟨e, f, rfl, a1, _, a2, _⟩ := vends_two h5
  unfold impl_copyWorld
  refine Wp.opt (app_ok (by simp)) ?_
  refine Wp.step ?_
  simp only [impl_copyWorld_l3]
  simp only [List.nil_append, List.length_cons, List.length_nil, cbdec]
  refine Wp.ite (fun _ => ?_) (fun hx => by omega)
  refine Wp.opt (x := e) rfl ?_
  refine Wp.opt (x := e) rfl ?_
  refine Wp.bind (copyEnd_ok e a1) (fun _ e' => ?_); have e'' := e'.symm; subst e''
  refine Wp.opt (x := e) rfl ?_
  refine Wp.opt (x := e) rfl ?_
  rw [show IntKind.wrap .i64 (0 + 1) = 1 by rfl]
  refine Wp.step ?_
  simp only [impl_copyWorld_l3, cbdec]
  refine Wp.ite (fun _ => ?_) (fun hx => by omega)
  refine Wp.opt (x := f) rfl ?_
  refine Wp.opt (x := f) rfl ?_
  refine Wp.bind (copyEnd_ok f a2) (fun _ e' => ?_); have e'' := e'.symm; subst e''
  refine Wp.opt (x := f) rfl ?_
  refine Wp.opt (x := f) rfl ?_
  rw [show IntKind.wrap .i64 (1 + 1) = 2 by rfl]
  refine Wp.step ?_
  simp only [impl_copyWorld_l3, cbdec]
  refine Wp.ite (fun hx => by omega) (fun _ => ?_)
  refine Wp.opt (app_ok (by simp; omega)) ?_
  refine Wp.opt (app_ok (by simp; omega)) ?_
  refine Wp.opt (app_ok (by simp; omega)) ?_
  exact Wp.ret (by rfl)
end Km.X
namespace Km.X
open Go Km
set_option linter.unusedVariables false
theorem both_same {R : Type} (x : Option R) : Km.both x x = x := by unfold Km.both; rw [if_pos rfl]
theorem pushE_lives {e : DEnd} {t : ByteArray} (hc : (pushE e t).Code = 0) : (pushE e t).End.Life = e.Life ∧ (pushE e t).End.Peer = e.Peer := by
  unfold pushE at hc ⊢
  split
  · rename_i h1; rw [if_pos h1] at hc
    split
    · rename_i h2; rw [if_pos h2] at hc
      split
      · rename_i h3; rw [if_pos h3] at hc; cases hc
      · rename_i h3; rw [if_neg h3] at hc
        split
        · exact ⟨rfl, rfl⟩
        · rename_i h4; rw [if_neg h4] at hc; exact absurd hc h4
    · rename_i h2; rw [if_neg h2] at hc; cases hc
  · rename_i h1; rw [if_neg h1] at hc; cases hc
section
variable (K Fo t1 t2 Tx : ByteArray) (W z Kd A B C : Int) (Es : List DEnd) (Fl : List DParcel) (Gi Ta : List DRecord) (E2 : List DEnd) (F2 : List DParcel) (G2 T2 : List DRecord)
theorem do11_ok (h : VWorld ⟨K, W, Es, Fl, Fo, Gi, Ta⟩) (hk : Kd = 2 ∨ Kd = 4) : Wp (fun k => impl_Do_l11 k (decide (0 ≤ A ∧ A < (Fl.length : Int))) Kd A B C Tx t1 z t2 K W Fo E2 F2 G2 T2 Es Fl Gi Ta) (· = doW ⟨K, W, Es, Fl, Fo, Gi, Ta⟩ ⟨Kd, A, B, C, Tx⟩) := by
  have h3 := h.2.2.1
  dsimp only at h3
  refine Wp.step ?_
  simp only [impl_Do_l11]
  refine Wp.dec (fun hx => ?_) (fun hx => ?_)
  · have hg : Fl[A.toNat]? = some (Fl[A.toNat]'(by omega)) := List.getElem?_eq_getElem (by omega)
    generalize Fl[A.toNat]'(by omega) = p at hg
    have hv : VPar p := h.2.2.2.2.2.1 p (List.mem_of_getElem? hg)
    have hix : idx Fl A = some p := by have := idx_nat Fl A.toNat; rw [Int.toNat_of_nonneg hx.1] at this; rw [this, hg]
    simp only [hix, hg, Option.bind_some, if_true]
    refine Wp.opt (wnd_ok ⟨by omega, by omega, by omega⟩) ?_
    rw [w64' (n := A + 1) (by omega) (by omega)]
    refine Wp.opt (wnd_ok ⟨by omega, by omega, by omega⟩) ?_
    dsimp only
    rw [show Int.toNat 0 = 0 from rfl, dcut_head, show Int.toNat (A + 1) = A.toNat + 1 by omega, Int.toNat_natCast, dcut_tail]
    refine Wp.opt (app_ok (by simp; omega)) ?_
    rw [erase_eq Fl A.toNat (by omega), doW_par (p := p) (by dsimp only; omega) hx.1 hg]
    unfold parDo
    dsimp only
    simp only [cbeq]
    refine Wp.ite (fun e => ?_) (fun e => ?_)
    · rw [if_pos e]
      refine Wp.bind (implBringW_ok ⟨K, W, Es, Fl.eraseIdx A.toNat, Fo, Gi, Ta⟩ (setFl_V h (by have := List.length_eraseIdx_le Fl A.toNat; omega) (erase_V h.2.2.2.2.2.1 _)) p hv.1 (by have := hv.2.2; omega)) (fun r e' => ?_)
      exact (l45_ok ..).mono fun x hr => by rw [hr, e']; rfl
    · rw [if_neg e, if_neg (by omega), if_pos (by omega)]
      exact (l45_ok ..).mono fun x hr => by rw [hr]; rfl
  · exact (l45_ok ..).mono fun x hr => by rw [hr, doW_parNone (by dsimp only; omega) hx]
theorem do16_ok (h : VWorld ⟨K, W, Es, Fl, Fo, Gi, Ta⟩) (hk : Kd ≠ 1 ∧ Kd ≠ 2 ∧ Kd ≠ 4) : Wp (fun k => impl_Do_l16 k (decide (1 ≤ A ∧ A ≤ 2)) (decide (0 ≤ A ∧ A < (Fl.length : Int))) Kd Kd A B C Tx t1 z t2 K W Fo E2 F2 G2 T2 Es Fl Gi Ta) (· = doW ⟨K, W, Es, Fl, Fo, Gi, Ta⟩ ⟨Kd, A, B, C, Tx⟩) := by
  have h3 := h.2.2.1
  have h4 := h.2.2.2.1
  have h5 := h.2.2.2.2.1
  dsimp only at h3 h4 h5
  have none_ok : ∀ (Q : Prop), (1 ≤ Kd → Kd ≤ 11 → (8 ≤ Kd ∧ ¬ (1 ≤ A ∧ A ≤ 2)) ∨ (Kd ≤ 7 ∧ ¬ (0 ≤ A ∧ A < (Fl.length : Int)))) → Wp (fun k => impl_Do_l45 k t1 z t2 K W Fo E2 F2 G2 T2 Es Fl Gi Ta) (· = doW ⟨K, W, Es, Fl, Fo, Gi, Ta⟩ ⟨Kd, A, B, C, Tx⟩) := fun _ hq => by
    refine (l45_ok ..).mono fun x hr => ?_
    rw [hr]
    by_cases h1 : 1 ≤ Kd ∧ Kd ≤ 11
    · rcases hq h1.1 h1.2 with ⟨h8, hn⟩ | ⟨h7, hn⟩
      · rw [doW_none (.inr ⟨h8, hn⟩)]
      · rw [doW_parNone (by dsimp only; omega) hn]
    · rw [doW_none (.inl h1)]
  have par : ∀ p, Fl[A.toNat]? = some p → idx Fl A = some p → 2 ≤ Kd ∧ Kd ≤ 7 → 0 ≤ A → ∀ y, parDo ⟨K, W, Es, Fl, Fo, Gi, Ta⟩ ⟨Kd, A, B, C, Tx⟩ p = y → ∀ Fl', setFl ⟨K, W, Es, Fl, Fo, Gi, Ta⟩ Fl' = y → Wp (fun k => impl_Do_l45 k t1 z t2 K W Fo E2 F2 G2 T2 Es Fl' Gi Ta) (· = doW ⟨K, W, Es, Fl, Fo, Gi, Ta⟩ ⟨Kd, A, B, C, Tx⟩) := fun p hp hi hk2 h0 y hy Fl' hF => by
    refine (l45_ok ..).mono fun x hr => ?_
    rw [hr, doW_par (p := p) hk2 h0 hp, hy, ← hF]; rfl
  have hin : 0 ≤ A ∧ A < (Fl.length : Int) → ∃ p, Fl[A.toNat]? = some p ∧ idx Fl A = some p ∧ VPar p := fun hx => by
    have hg : Fl[A.toNat]? = some (Fl[A.toNat]'(by omega)) := List.getElem?_eq_getElem (by omega)
    refine ⟨_, hg, ?_, h.2.2.2.2.2.1 _ (List.mem_of_getElem? hg)⟩
    have := idx_nat Fl A.toNat
    rw [Int.toNat_of_nonneg hx.1] at this; rw [this, hg]
  refine Wp.step ?_
  simp only [impl_Do_l16, cbeq]
  refine Wp.ite (fun e => ?_) (fun e3 => ?_)
  · refine Wp.dec (fun hx => ?_) (fun hx => none_ok True (by omega))
    obtain ⟨p, hp, hi, hv⟩ := hin hx
    refine Wp.dec (fun hl => ?_) (fun hl => ?_)
    · simp only [hi, hp, Option.bind_some]
      refine Wp.opt (app_ok (by simp; omega)) ?_
      exact par p hp hi (by omega) hx.1 _ (by unfold parDo; dsimp only; rw [if_neg (by omega), if_pos e, if_pos (by omega)]) _ rfl
    · exact par p hp hi (by omega) hx.1 _ (by unfold parDo; dsimp only; rw [if_neg (by omega), if_pos e, if_neg (by omega)]; rfl) _ rfl
  refine Wp.ite (fun e => ?_) (fun e5 => ?_)
  · refine Wp.dec (fun hx => ?_) (fun hx => none_ok True (by omega))
    obtain ⟨p, hp, hi, hv⟩ := hin hx
    have u : ¬ ((0 ≤ B ∧ B < (p.Bytes.size : Int)) ∧ 0 ≤ C) → parDo ⟨K, W, Es, Fl, Fo, Gi, Ta⟩ ⟨Kd, A, B, C, Tx⟩ p = ⟨K, W, Es, Fl, Fo, Gi, Ta⟩ := fun hn => by
      unfold parDo; dsimp only; rw [if_neg (by omega), if_neg (by omega), if_neg (by omega), if_pos e, if_neg hn]
    refine Wp.dec (fun h1 => ?_) (fun h1 => par p hp hi (by omega) hx.1 _ (u (by omega)) _ rfl)
    refine Wp.dec (fun h2 => ?_) (fun h2 => par p hp hi (by omega) hx.1 _ (u (by omega)) _ rfl)
    simp only [hi, hp, Option.bind_some]
    refine Wp.dec (fun h3 => ?_) (fun h3 => par p hp hi (by omega) hx.1 _ (u (by omega)) _ rfl)
    obtain ⟨b1, b2⟩ := bytes_at (s := p.Bytes) (b := B) ⟨h2, h3⟩
    simp only [b1, b2, Option.bind_some]
    refine Wp.opt (qrem_nn h1 (by omega)) ?_
    exact par p hp hi (by omega) hx.1 _ (by unfold parDo; dsimp only; rw [if_neg (by omega), if_neg (by omega), if_neg (by omega), if_pos e, if_pos ⟨⟨h2, h3⟩, h1⟩]; rfl) _ rfl
  refine Wp.ite (fun e => ?_) (fun e6 => ?_)
  · refine Wp.dec (fun hx => ?_) (fun hx => none_ok True (by omega))
    obtain ⟨p, hp, hi, hv⟩ := hin hx
    have u : ¬ (0 ≤ B ∧ B ≤ (p.Bytes.size : Int)) → parDo ⟨K, W, Es, Fl, Fo, Gi, Ta⟩ ⟨Kd, A, B, C, Tx⟩ p = ⟨K, W, Es, Fl, Fo, Gi, Ta⟩ := fun hn => by
      unfold parDo; dsimp only; rw [if_neg (by omega), if_neg (by omega), if_neg (by omega), if_neg (by omega), if_pos e, if_neg hn]
    refine Wp.dec (fun h1 => ?_) (fun h1 => par p hp hi (by omega) hx.1 _ (u (by omega)) _ rfl)
    simp only [hi, hp, Option.bind_some]
    refine Wp.dec (fun h2 => ?_) (fun h2 => par p hp hi (by omega) hx.1 _ (u (by omega)) _ rfl)
    refine Wp.opt (wnd_ok ⟨by omega, h1, h2⟩) ?_
    exact par p hp hi (by omega) hx.1 _ (by unfold parDo; dsimp only; rw [if_neg (by omega), if_neg (by omega), if_neg (by omega), if_neg (by omega), if_pos e, if_pos ⟨h1, h2⟩]; rfl) _ rfl
  refine Wp.ite (fun e => ?_) (fun e7 => ?_)
  · refine Wp.dec (fun hx => ?_) (fun hx => none_ok True (by omega))
    obtain ⟨p, hp, hi, hv⟩ := hin hx
    simp only [hi, hp, Option.bind_some]
    have := hv.1
    rw [w64' (n := 3 - p.To) (by omega) (by omega)]
    exact par p hp hi (by omega) hx.1 _ (by unfold parDo; dsimp only; rw [if_neg (by omega), if_neg (by omega), if_neg (by omega), if_neg (by omega), if_neg (by omega)]) _ rfl
  have en : (8 ≤ Kd ∧ Kd ≤ 11) → (1 ≤ A ∧ A ≤ 2) → ∀ y : DWorld, endDo ⟨K, W, Es, Fl, Fo, Gi, Ta⟩ ⟨Kd, A, B, C, Tx⟩ = y → Wp (fun k => impl_Do_l45 k t1 z t2 y.Key y.Width y.Forged E2 F2 G2 T2 y.Ends y.Flight y.Given y.Taken) (· = doW ⟨K, W, Es, Fl, Fo, Gi, Ta⟩ ⟨Kd, A, B, C, Tx⟩) := fun hk2 hn y hy => by
    refine (l45_ok ..).mono fun x hr => ?_
    rw [hr, doW_end hk2 hn, hy]
  refine Wp.ite (fun e => ?_) (fun e8 => ?_)
  · refine Wp.dec (fun hx => ?_) (fun hx => none_ok True (by omega))
    obtain ⟨a1, a2, a3⟩ := ends_ix h5 hx
    simp only [a1, a2, a3, Option.bind_some]
    refine Wp.bind (implFall_ok _) (fun r e' => ?_)
    exact en (by omega) hx ⟨K, W, onEnd A r Es, Fl, Fo, Gi, Ta⟩ (by unfold endDo; dsimp only; rw [if_pos e, e']; rfl)
  refine Wp.ite (fun e => ?_) (fun e9 => ?_)
  · refine Wp.dec (fun hx => ?_) (fun hx => none_ok True (by omega))
    obtain ⟨a1, a2, a3⟩ := ends_ix h5 hx
    simp only [a1, a2, a3, Option.bind_some]
    refine Wp.bind (implRise_ok _) (fun r e' => ?_)
    exact en (by omega) hx ⟨K, W, onEnd A r Es, Fl, Fo, Gi, Ta⟩ (by unfold endDo; dsimp only; rw [if_neg e8, if_pos e, e']; rfl)
  refine Wp.ite (fun e => ?_) (fun e10 => ?_)
  · refine Wp.dec (fun hx => ?_) (fun hx => none_ok True (by omega))
    obtain ⟨a1, a2, a3⟩ := ends_ix h5 hx
    have pu : ∀ y, pushW ⟨K, W, Es, Fl, Fo, Gi, Ta⟩ A Tx = y → endDo ⟨K, W, Es, Fl, Fo, Gi, Ta⟩ ⟨Kd, A, B, C, Tx⟩ = y := fun y hy => by
      unfold endDo; dsimp only; rw [if_neg e8, if_neg e9, if_pos e]; exact hy
    unfold impl_World_full
    simp only [Option.bind_some, both_same, full_w h4]
    refine Wp.not (fun hc => ?_) (fun hc => ?_)
    · have hc := of_decide_eq_false hc
      simp only [a1, a2, a3, Option.bind_some]
      refine Wp.bind (implPushE_ok _ _) (fun r e' => ?_); subst e'
      refine Wp.ite (fun h0 => ?_) (fun h0 => ?_)
      · refine Wp.opt (app_ok (by simp; omega)) ?_
        obtain ⟨l1, l2⟩ := pushE_lives h0
        rw [l1, l2]
        exact en (by omega) hx ⟨K, W, onEnd A (pushE (endAt A Es) Tx).End Es, Fl, Fo, Gi ++ [⟨A, (endAt A Es).Life, (endAt A Es).Peer, Tx⟩], Ta⟩ (pu _ (by unfold pushW; dsimp only; rw [if_pos ⟨by omega, h0⟩]))
      · exact en (by omega) hx ⟨K, W, Es, Fl, Fo, Gi, Ta⟩ (pu _ (by unfold pushW; dsimp only; rw [if_neg (fun g => h0 g.2)]))
    · have hc := of_decide_eq_true hc
      exact en (by omega) hx ⟨K, W, Es, Fl, Fo, Gi, Ta⟩ (pu _ (by unfold pushW; dsimp only; rw [if_neg (fun g => by omega)]))
  refine Wp.ite (fun e => ?_) (fun e11 => none_ok True (by omega))
  refine Wp.dec (fun hx => ?_) (fun hx => none_ok True (by omega))
  refine Wp.bind (implPullW_ok ⟨K, W, Es, Fl, Fo, Gi, Ta⟩ h A hx) (fun r e' => ?_)
  exact en (by omega) hx r (by unfold endDo; dsimp only; rw [if_neg e8, if_neg e9, if_neg e10, e'])
theorem do6_ok (h : VWorld ⟨K, W, Es, Fl, Fo, Gi, Ta⟩) : Wp (fun k => impl_Do_l6 k (decide (1 ≤ A ∧ A ≤ 2)) (decide (0 ≤ A ∧ A < (Fl.length : Int))) Kd A B C Tx t1 z t2 K W Fo E2 F2 G2 T2 Es Fl Gi Ta) (· = doW ⟨K, W, Es, Fl, Fo, Gi, Ta⟩ ⟨Kd, A, B, C, Tx⟩) := by
  refine Wp.step ?_
  simp only [impl_Do_l6, cbeq]
  refine Wp.ite (fun e => ?_) (fun e1 => ?_)
  · refine Wp.bind (implTickW_ok ⟨K, W, Es, Fl, Fo, Gi, Ta⟩ h) (fun r e' => ?_)
    exact (l45_ok ..).mono fun x hr => by rw [hr, e']; unfold doW; rw [if_pos e]
  refine Wp.ite (fun e => do11_ok _ _ _ _ _ _ _ _ _ _ _ _ _ _ _ _ _ _ _ h (.inl e)) (fun e2 => ?_)
  refine Wp.ite (fun e => do11_ok _ _ _ _ _ _ _ _ _ _ _ _ _ _ _ _ _ _ _ h (.inr e)) (fun e4 => ?_)
  exact do16_ok _ _ _ _ _ _ _ _ _ _ _ _ _ _ _ _ _ _ _ h ⟨e1, e2, e4⟩
theorem do5_ok (h : VWorld ⟨K, W, Es, Fl, Fo, Gi, Ta⟩) : Wp (fun k => impl_Do_l5 k (decide (1 ≤ A ∧ A ≤ 2)) Kd A B C Tx t1 z t2 K W Fo E2 F2 G2 T2 Es Fl Gi Ta) (· = doW ⟨K, W, Es, Fl, Fo, Gi, Ta⟩ ⟨Kd, A, B, C, Tx⟩) := by
  refine Wp.step ?_
  simp only [impl_Do_l5]
  refine Wp.dec (fun hx => ?_) (fun hx => ?_)
  · have := do6_ok K Fo t1 t2 Tx W z Kd A B C Es Fl Gi Ta E2 F2 G2 T2 h
    rw [show decide (0 ≤ A ∧ A < (Fl.length : Int)) = decide (A < (Fl.length : Int)) from decide_eq_decide.mpr ⟨fun g => g.2, fun g => ⟨hx, g⟩⟩] at this
    exact this
  · have := do6_ok K Fo t1 t2 Tx W z Kd A B C Es Fl Gi Ta E2 F2 G2 T2 h
    rw [show decide (0 ≤ A ∧ A < (Fl.length : Int)) = false from decide_eq_false (fun g => hx g.1)] at this
    exact this
end
theorem implDo_ok (w : DWorld) (hb : w.Given.length ≤ 1048576 ∧ w.Taken.length ≤ 1048576) (v : DEvent) : Wp (fun k => impl_Do k w v) (· = doM w v) := by
  unfold impl_Do doM
  refine Wp.bind (implValidWorld_ok w hb) (fun _ e => ?_); subst e
  refine Wp.not (fun h => ?_) (fun h => ?_)
  · exact Wp.ret (by rw [if_neg (of_decide_eq_false h)]; rfl)
  · have hv := of_decide_eq_true h
    rw [if_pos hv]
    refine Wp.bind (implCopyW_ok w hv) (fun _ e => ?_); have e'' := e.symm; subst e''
    simp only [cbeq]
    refine Wp.ite (fun e => ?_) (fun e => ?_)
    · have := do5_ok w.Key w.Forged noB noB v.Text w.Width 0 v.Kind v.A v.B v.C w.Ends w.Flight w.Given w.Taken [] [] [] [] hv
      rw [show decide (1 ≤ v.A ∧ v.A ≤ 2) = true from decide_eq_true (by omega)] at this
      exact this
    · have := do5_ok w.Key w.Forged noB noB v.Text w.Width 0 v.Kind v.A v.B v.C w.Ends w.Flight w.Given w.Taken [] [] [] [] hv
      rw [show decide (1 ≤ v.A ∧ v.A ≤ 2) = (v.A == 2) by rw [Bool.eq_iff_iff]; simp; omega] at this
      exact this
end Km.X
namespace Km.X
open Go Km
set_option linter.unusedVariables false
set_option linter.unusedSimpArgs false
/-! ### maps by the key of a pair of lives -/
theorem eq_pair_iff {x y : DPair} : eq_pair x y = true ↔ x = y := ⟨eq_pair_eq, fun h => by subst h; simp [eq_pair]⟩
instance : DecidableEq DPair := fun x y => decidable_of_iff _ eq_pair_iff
def mget {β : Type} (key : DPair) : List (DPair × β) → Option β
  | [] => none
  | (a, b) :: l => if a = key then some b else mget key l
theorem mfind_none {β : Type} {key : DPair} : ∀ {l : List (DPair × β)} {i : Nat}, mfind (eq_pair key) l i = none → mget key l = none
  | [], _, _ => rfl
  | (a, b) :: l, i, h => by
    simp only [mfind] at h
    split at h
    · cases h
    · rename_i hq
      simp only [mget]
      rw [if_neg (fun e => by subst e; rw [eq_pair_iff.mpr rfl] at hq; cases hq)]
      exact mfind_none h
theorem mfind_some {β : Type} {key : DPair} : ∀ {l : List (DPair × β)} {i j : Nat} {b : β}, mfind (eq_pair key) l i = some (j, b) → ∃ d, j = i + d ∧ l[d]? = some (key, b) ∧ mget key l = some b ∧ ∀ v key', mget key' (l.set d (key, v)) = if key' = key then some v else mget key' l
  | [], _, _, _, h => by cases h
  | (a, c) :: l, i, j, b, h => by
    simp only [mfind] at h
    split at h
    · rename_i hq
      have := eq_pair_eq hq; subst this
      cases h
      refine ⟨0, rfl, rfl, by simp only [mget, if_true], fun v key' => ?_⟩
      simp only [List.set_cons_zero, mget]
      by_cases e : key = key'
      · subst e; simp
      · rw [if_neg e, if_neg e, if_neg (fun g => e g.symm)]
    · rename_i hq
      have hne : a ≠ key := fun e => by subst e; rw [eq_pair_iff.mpr rfl] at hq; cases hq
      obtain ⟨d, e1, e2, e3, e4⟩ := mfind_some h
      refine ⟨d + 1, by omega, e2, by simp only [mget]; rw [if_neg hne, e3], fun v key' => ?_⟩
      simp only [List.set_cons_succ, mget, e4]
      by_cases e : a = key'
      · subst e; rw [if_pos rfl, if_neg hne, if_pos rfl]
      · rw [if_neg e, if_neg e]
theorem mget_append {β : Type} {key key' : DPair} {v : β} : ∀ (l : List (DPair × β)), mget key l = none → mget key' (l ++ [(key, v)]) = if key' = key then some v else mget key' l
  | [], _ => by
    simp only [List.nil_append, mget]
    by_cases e : key = key'
    · subst e; simp
    · rw [if_neg e, if_neg (fun g => e g.symm)]
  | (a, b) :: l, h => by
    simp only [mget] at h
    split at h
    · cases h
    · rename_i hne
      simp only [List.cons_append, mget, mget_append l h]
      by_cases e : a = key'
      · subst e; rw [if_pos rfl, if_neg hne, if_pos rfl]
      · rw [if_neg e, if_neg e]
theorem set_last {α : Type} (l : List α) (x y : α) : (l ++ [x]).set l.length y = l ++ [y] := by simp
theorem mod_same {β : Type} {l : List (DPair × β)} {d : Nat} {key : DPair} {b : β} (h : l[d]? = some (key, b)) : (l.modify d fun e => (e.1, b)) = l := by
  obtain ⟨h1, h2⟩ := List.getElem?_eq_some_iff.mp h
  apply List.ext_getElem?
  intro i
  rw [List.getElem?_modify]
  by_cases e : d = i
  · subst e; rw [h]; simp
  · cases l[i]? <;> simp [e]
/-! ### what was taken is what was given, life by life -/
def kf (r : DRecord) : DPair := ⟨r.From, r.A, r.B⟩
def recsOf (l : List DRecord) (key : DPair) : List ByteArray := (l.filter (fun r => decide (kf r = key))).map (·.Text)
theorem recsOf_snoc (l : List DRecord) (r : DRecord) (key : DPair) : recsOf (l ++ [r]) key = if key = kf r then recsOf l key ++ [r.Text] else recsOf l key := by
  unfold recsOf
  rw [List.filter_append, List.map_append]
  by_cases e : kf r = key
  · subst e; simp
  · rw [if_neg (fun g => e g.symm)]; simp [e]
theorem recsOf_cons (l : List DRecord) (r : DRecord) (key : DPair) : recsOf (r :: l) key = if kf r = key then r.Text :: recsOf l key else recsOf l key := by
  unfold recsOf
  by_cases e : kf r = key
  · simp [e]
  · simp [e]
theorem recsOf_len (l : List DRecord) (key : DPair) : (recsOf l key).length ≤ l.length := by
  unfold recsOf; rw [List.length_map]; exact List.length_filter_le _ _
def rightL (G : List DRecord) : List DRecord → List DRecord → Bool
  | _, [] => true
  | pre, r :: t => decide ((recsOf G (kf r))[(recsOf pre (kf r)).length]? = some r.Text) && rightL G (pre ++ [r]) t
def rightM (w : DWorld) : Bool := decide (VWorld w) && rightL w.Given [] w.Taken
/-! ### the document's: each taken one is the one given at its place -/
def seen (th : Bool) (n : Int) (t : List DRecord) (x : DRecord) : Bool := th || decide (0 ≤ n ∧ (recsOf t (kf x))[n.toNat]? = some x.Text)
theorem sr15 (K Fo : ByteArray) (W i : Int) (Es : List DEnd) (Fl : List DParcel) (Ta : List DRecord) (x : DRecord) (Q : Bool → Prop) (G : List DRecord) (hG : G.length ≤ 1000) : ∀ (t pre : List DRecord) (n : Int) (th : Bool), pre ++ t = G → (-(pre.length : Int) ≤ n ∧ n ≤ 1000) →
    (seen th n t x = true → Wp (fun k => spec_Right_l4 k (IntKind.wrap .i64 (i + 1)) K W Es Fl Fo G Ta) Q) → (seen th n t x = false → Q false) →
    Wp (fun k => spec_Right_l15 k i n th (pre.length : Int) K W Es Fl Fo G Ta x.From x.A x.B x.Text) Q
  | [], pre, n, th, he, hn, go, no => by
    have he' : pre = G := by simpa using he
    refine Wp.step ?_
    simp only [spec_Right_l15]
    refine Wp.dec (fun h => by rw [← he'] at h; omega) (fun _ => ?_)
    have e : seen th n [] x = th := by simp [seen, recsOf]
    refine Wp.not (fun h => ?_) (fun h => go (by rw [e, h]))
    exact Wp.ret (no (by rw [e, h]))
  | y :: t, pre, n, th, he, hn, go, no => by
    have hl : pre.length + (y :: t).length ≤ 1000 := by rw [← List.length_append, he]; exact hG
    simp only [List.length_cons] at hl
    refine Wp.step ?_
    simp only [spec_Right_l15]
    refine Wp.dec (fun _ => ?_) (fun h => absurd (by rw [← he]; simp; omega) h)
    rw [show idx G (pre.length : Int) = some y by rw [← he]; exact idx_mid]
    simp only [Option.bind_some, cbeq]
    have nx : ∀ (m : Int) (b : Bool), (n - 1 ≤ m ∧ m ≤ n) → seen b m t x = seen th n (y :: t) x → Wp (fun k => spec_Right_l16 k i m b (pre.length : Int) K W Es Fl Fo G Ta x.From x.A x.B x.Text) Q := fun m b hm hs => by
      refine Wp.step ?_
      simp only [spec_Right_l16]
      rw [w64' (n := (pre.length : Int) + 1) (by omega) (by omega)]
      have := sr15 K Fo W i Es Fl Ta x Q G hG t (pre ++ [y]) m b (by rw [← he]; simp) (by simp; omega) (fun h => go (hs ▸ h)) (fun h => no (hs ▸ h))
      rw [show ((pre ++ [y]).length : Int) = (pre.length : Int) + 1 by simp] at this
      exact this
    have other : kf y ≠ kf x → Wp (fun k => spec_Right_l16 k i n th (pre.length : Int) K W Es Fl Fo G Ta x.From x.A x.B x.Text) Q := fun hne => by
      refine nx n th (by omega) ?_
      simp only [seen, recsOf_cons, if_neg hne]
    refine Wp.ite (fun e1 => ?_) (fun e1 => other (fun g => e1 (congrArg DPair.f g)))
    refine Wp.ite (fun e2 => ?_) (fun e2 => other (fun g => e2 (congrArg DPair.a g)))
    refine Wp.ite (fun e3 => ?_) (fun e3 => other (fun g => e3 (congrArg DPair.b g)))
    have hk : kf y = kf x := by simp [kf, e1, e2, e3]
    rw [w64' (n := n - 1) (by omega) (by omega)]
    refine Wp.bif (fun h => ?_) (fun h => ?_)
    · exact nx _ _ (by omega) (by simp [seen, h])
    · refine Wp.ite (fun h0 => ?_) (fun h0 => ?_)
      · rw [seqB]
        refine nx _ _ (by omega) ?_
        subst h0
        simp only [seen, h, recsOf_cons, if_pos hk]
        simp
      · refine nx _ _ (by omega) ?_
        simp only [seen, h, recsOf_cons, if_pos hk, Bool.false_or]
        apply decide_eq_decide.mpr
        constructor
        · rintro ⟨h1, h2⟩
          refine ⟨by omega, ?_⟩
          rw [show n.toNat = (n - 1).toNat + 1 by omega, List.getElem?_cons_succ]; exact h2
        · rintro ⟨h1, h2⟩
          refine ⟨by omega, ?_⟩
          rw [show n.toNat = (n - 1).toNat + 1 by omega, List.getElem?_cons_succ] at h2; exact h2
theorem sr9 (K Fo : ByteArray) (W i : Int) (Es : List DEnd) (Fl : List DParcel) (G : List DRecord) (x : DRecord) (Q : Bool → Prop) (Ta : List DRecord) (hT : Ta.length ≤ 1000) : ∀ (p2 p1 rest : List DRecord), p1 ++ p2 ++ rest = Ta → i = ((p1 ++ p2).length : Int) →
    Wp (fun k => spec_Right_l15 k i ((recsOf (p1 ++ p2) (kf x)).length : Int) false 0 K W Es Fl Fo G Ta x.From x.A x.B x.Text) Q →
    Wp (fun k => spec_Right_l9 k i ((recsOf p1 (kf x)).length : Int) (p1.length : Int) K W Es Fl Fo G Ta x.From x.A x.B x.Text) Q
  | [], p1, rest, he, hi, go => by
    simp only [List.append_nil] at hi go
    refine Wp.step ?_
    simp only [spec_Right_l9]
    refine Wp.dec (fun h => by omega) (fun _ => go)
  | y :: p2, p1, rest, he, hi, go => by
    have hl : p1.length + (p2.length + 1) + rest.length ≤ 1000 := by
      have : (p1 ++ (y :: p2) ++ rest).length ≤ 1000 := by rw [he]; exact hT
      simp at this; omega
    refine Wp.step ?_
    simp only [spec_Right_l9]
    refine Wp.dec (fun _ => ?_) (fun h => absurd (by rw [hi]; simp; omega) h)
    rw [show idx Ta (p1.length : Int) = some y by rw [← he, List.append_assoc]; exact idx_mid]
    simp only [Option.bind_some, cbeq]
    have hlen := recsOf_len p1 (kf x)
    have nx : Wp (fun k => spec_Right_l10 k i ((recsOf (p1 ++ [y]) (kf x)).length : Int) (p1.length : Int) K W Es Fl Fo G Ta x.From x.A x.B x.Text) Q := by
      refine Wp.step ?_
      simp only [spec_Right_l10]
      rw [w64' (n := (p1.length : Int) + 1) (by omega) (by omega)]
      have := sr9 K Fo W i Es Fl G x Q Ta hT p2 (p1 ++ [y]) rest (by rw [← he]; simp) (by rw [hi]; simp) (by simpa using go)
      rw [show ((p1 ++ [y]).length : Int) = (p1.length : Int) + 1 by simp] at this
      exact this
    have other : kf y ≠ kf x → Wp (fun k => spec_Right_l10 k i ((recsOf p1 (kf x)).length : Int) (p1.length : Int) K W Es Fl Fo G Ta x.From x.A x.B x.Text) Q := fun hne => by
      rw [recsOf_snoc, if_neg (fun g => hne g.symm)] at nx; exact nx
    refine Wp.ite (fun e1 => ?_) (fun e1 => other (fun g => e1 (congrArg DPair.f g)))
    refine Wp.ite (fun e2 => ?_) (fun e2 => other (fun g => e2 (congrArg DPair.a g)))
    refine Wp.ite (fun e3 => ?_) (fun e3 => other (fun g => e3 (congrArg DPair.b g)))
    have hk : kf x = kf y := by simp [kf, e1, e2, e3]
    rw [w64' (n := ((recsOf p1 (kf x)).length : Int) + 1) (by omega) (by omega)]
    rw [recsOf_snoc, if_pos hk, List.length_append] at nx
    exact nx
theorem sr4 (K Fo : ByteArray) (W : Int) (Es : List DEnd) (Fl : List DParcel) (G Ta : List DRecord) (hG : G.length ≤ 1000) (hT : Ta.length ≤ 1000) : ∀ (t pre : List DRecord), pre ++ t = Ta → Wp (fun k => spec_Right_l4 k (pre.length : Int) K W Es Fl Fo G Ta) (· = rightL G pre t)
  | [], pre, he => by
    have he' : pre = Ta := by simpa using he
    refine Wp.step ?_
    simp only [spec_Right_l4]
    refine Wp.dec (fun h => by rw [← he'] at h; omega) (fun _ => Wp.ret rfl)
  | x :: t, pre, he => by
    have hl : pre.length + (t.length + 1) ≤ 1000 := by
      have : (pre ++ (x :: t)).length ≤ 1000 := by rw [he]; exact hT
      simpa using this
    refine Wp.step ?_
    simp only [spec_Right_l4]
    refine Wp.dec (fun _ => ?_) (fun h => absurd (by rw [← he]; simp; omega) h)
    rw [show idx Ta (pre.length : Int) = some x by rw [← he]; exact idx_mid]
    simp only [Option.bind_some]
    have hlen := recsOf_len pre (kf x)
    refine sr9 K Fo W (pre.length : Int) Es Fl G x _ Ta hT pre [] (x :: t) (by simpa using he) (by simp) ?_
    simp only [List.nil_append]
    refine sr15 K Fo W (pre.length : Int) Es Fl Ta x _ G hG G [] _ false rfl (by simp; omega) (fun hs => ?_) (fun hs => ?_)
    · rw [w64' (n := (pre.length : Int) + 1) (by omega) (by omega)]
      have := sr4 K Fo W Es Fl G Ta hG hT t (pre ++ [x]) (by rw [← he]; simp)
      rw [show ((pre ++ [x]).length : Int) = (pre.length : Int) + 1 by simp] at this
      refine this.mono fun r hr => ?_
      rw [hr]
      simp only [seen, Bool.false_or, decide_eq_true_eq, Int.toNat_natCast] at hs
      simp only [rightL, decide_eq_true hs.2, Bool.true_and]
    · simp only [seen, Bool.false_or, decide_eq_false_iff_not, Int.toNat_natCast] at hs
      simp only [rightL]
      rw [decide_eq_false (fun g => hs ⟨by omega, g⟩)]; rfl
theorem specRight_ok (w : DWorld) (hb : w.Given.length ≤ 1048576 ∧ w.Taken.length ≤ 1048576) : Wp (fun k => spec_Right k w) (· = rightM w) := by
  unfold spec_Right rightM
  refine Wp.bind (specValidWorld_ok w hb) (fun _ e => ?_); subst e
  refine Wp.not (fun h => Wp.ret (by rw [h]; rfl)) (fun h => ?_)
  have hv := of_decide_eq_true h
  have h4 := hv.2.2.2.1
  rw [h]
  exact sr4 w.Key w.Forged w.Width w.Ends w.Flight w.Given w.Taken (by omega) (by omega) w.Taken [] rfl
end Km.X
namespace Km.X
open Go Km
set_option linter.unusedVariables false
set_option linter.unusedSimpArgs false
theorem Wp.optK {α R : Type} {o : Option α} {A : Nat → Option R} {B : Nat → α → Option R} {Q : R → Prop} (h0 : o = none → Wp A Q) (h1 : ∀ p, o = some p → Wp (fun k => B k p) Q) : Wp (fun k => Km.optK o (A k) (B k)) Q := by
  cases o with
  | none => exact h0 rfl
  | some p => exact h1 p rfl
theorem mfind_append {β : Type} {key : DPair} {v : β} : ∀ {l : List (DPair × β)} {i : Nat}, mfind (eq_pair key) l i = none → mfind (eq_pair key) (l ++ [(key, v)]) i = some (i + l.length, v)
  | [], i, _ => by simp only [List.nil_append, mfind, eq_pair_iff.mpr rfl]; rfl
  | (a, b) :: l, i, h => by
    simp only [mfind] at h
    split at h
    · cases h
    · rename_i hq
      simp only [List.cons_append, mfind, hq]
      rw [mfind_append h]; simp; omega
def GivI (m : List (DPair × List ByteArray)) (pre : List DRecord) : Prop := ∀ key, (mget key m).getD [] = recsOf pre key
def AtI (m : List (DPair × Int)) (pre : List DRecord) : Prop := ∀ key, (mget key m).getD 0 = ((recsOf pre key).length : Int)
theorem ir5 (K Fo : ByteArray) (W : Int) (Es : List DEnd) (Fl : List DParcel) (G Ta : List DRecord) (hG : G.length ≤ 1000) (Q : Bool → Prop) : ∀ (t pre : List DRecord) (m : List (DPair × List ByteArray)), pre ++ t = G → GivI m pre →
    (∀ m, GivI m G → Wp (fun k => impl_Right_l12 k Ta (Ta.length : Int) 0 m []) Q) →
    Wp (fun k => impl_Right_l5 k G (G.length : Int) (pre.length : Int) K W Es Fl Fo G Ta m) Q
  | [], pre, m, he, hi, go => by
    have he' : pre = G := by simpa using he
    refine Wp.step ?_
    simp only [impl_Right_l5]
    refine Wp.dec (fun h => by rw [he'] at h; omega) (fun _ => ?_)
    exact go m (he' ▸ hi)
  | x :: t, pre, m, he, hi, go => by
    have hl : pre.length + (t.length + 1) ≤ 1000 := by
      have : (pre ++ (x :: t)).length ≤ 1000 := by rw [he]; exact hG
      simpa using this
    refine Wp.step ?_
    simp only [impl_Right_l5]
    refine Wp.dec (fun _ => ?_) (fun h => absurd (by rw [← he]; simp; omega) h)
    rw [show idx G (pre.length : Int) = some x by rw [← he]; exact idx_mid]
    simp only [Option.bind_some]
    have hk : (⟨x.From, x.A, x.B⟩ : DPair) = kf x := rfl
    rw [hk, w64' (n := (pre.length : Int) + 1) (by omega) (by omega)]
    have hlen := recsOf_len pre (kf x)
    have nx : ∀ m', GivI m' (pre ++ [x]) → Wp (fun k => impl_Right_l5 k G (G.length : Int) ((pre.length : Int) + 1) K W Es Fl Fo G Ta m') Q := fun m' h' => by
      have := ir5 K Fo W Es Fl G Ta hG Q t (pre ++ [x]) m' (by rw [← he]; simp) h' go
      rw [show ((pre ++ [x]).length : Int) = (pre.length : Int) + 1 by simp] at this
      exact this
    refine Wp.optK (fun h0 => ?_) (fun p h1 => ?_)
    · have hn := mfind_none h0
      refine Wp.opt (app_ok (by simp)) ?_
      refine Wp.opt (x := (kf x, [])) (by rw [idx_nat]; simp) ?_
      dsimp only
      rw [Int.toNat_natCast, set_last]
      refine nx _ (fun key => ?_)
      rw [mget_append m hn, recsOf_snoc]
      by_cases e : key = kf x
      · subst e
        rw [if_pos rfl, if_pos rfl, ← hi, hn]; rfl
      · rw [if_neg e, if_neg e, hi]
    · obtain ⟨j, b⟩ := p
      obtain ⟨d, e1, e2, e3, e4⟩ := mfind_some h1
      rw [Nat.zero_add] at e1; subst e1
      have hb := hi (kf x)
      rw [e3] at hb
      simp only [Option.getD_some] at hb
      subst hb
      refine Wp.opt (app_ok (by simp; omega)) ?_
      dsimp only
      rw [Int.toNat_natCast, show Nat.beq j j = true by simp, idx_nat, e2]
      simp only [cond_true, Option.bind_some]
      refine nx _ (fun key => ?_)
      rw [e4, recsOf_snoc]
      by_cases e : key = kf x
      · rw [if_pos e, if_pos e, e]; rfl
      · rw [if_neg e, if_neg e, hi]
theorem ir17 (Ta : List DRecord) (x : DRecord) (Q : Bool → Prop) (i c : Int) (x3 : List (DPair × List ByteArray)) (x4 : List (DPair × Int)) (hc : (mget (kf x) x4).getD 0 = c) (hcb : 0 ≤ c ∧ c ≤ 1000)
    (go : ∀ m, (∀ key, (mget key m).getD 0 = if key = kf x then c + 1 else (mget key x4).getD 0) → Wp (fun k => impl_Right_l12 k Ta (Ta.length : Int) (IntKind.wrap .i64 (i + 1)) x3 m) Q) :
    Wp (fun k => impl_Right_l17 k Ta (Ta.length : Int) i x3 x4 x.From x.A x.B) Q := by
  refine Wp.step ?_
  simp only [impl_Right_l17]
  rw [show (⟨x.From, x.A, x.B⟩ : DPair) = kf x from rfl]
  cases h4 : mfind (eq_pair (kf x)) x4 0 with
  | none =>
    have hn := mfind_none h4
    rw [hn] at hc
    simp only [Option.getD_none] at hc
    subst hc
    simp only [Km.optK, mfind_append h4, Nat.zero_add, idx_nat, Int.toNat_natCast, set_last]
    simp only [List.getElem?_append_right (Nat.le_refl _), Nat.sub_self, List.getElem?_cons_zero, Option.bind_some, both_same]
    rw [w64' (n := 0 + 1) (by omega) (by omega)]
    refine go _ (fun key => ?_)
    rw [mget_append x4 hn]
    by_cases e : key = kf x
    · rw [if_pos e, if_pos e]; rfl
    · rw [if_neg e, if_neg e]
  | some p =>
    obtain ⟨j, b⟩ := p
    obtain ⟨d, e1, e2, e3, e4⟩ := mfind_some h4
    rw [Nat.zero_add] at e1; subst e1
    rw [e3] at hc
    simp only [Option.getD_some] at hc
    subst hc
    simp only [Km.optK, idx_nat, e2, Option.bind_some, Int.toNat_natCast, both_same]
    rw [w64' (n := b + 1) (by omega) (by omega)]
    refine go _ (fun key => ?_)
    rw [e4]
    by_cases e : key = kf x
    · rw [if_pos e, if_pos e]; rfl
    · rw [if_neg e, if_neg e]
theorem ir12 (G Ta : List DRecord) (hG : G.length ≤ 1000) (hT : Ta.length ≤ 1000) (x3 : List (DPair × List ByteArray)) (h3 : GivI x3 G) : ∀ (t pre : List DRecord) (x4 : List (DPair × Int)), pre ++ t = Ta → AtI x4 pre → Wp (fun k => impl_Right_l12 k Ta (Ta.length : Int) (pre.length : Int) x3 x4) (· = rightL G pre t)
  | [], pre, x4, he, hi => by
    have he' : pre = Ta := by simpa using he
    refine Wp.step ?_
    simp only [impl_Right_l12]
    refine Wp.dec (fun h => by rw [he'] at h; omega) (fun _ => Wp.ret rfl)
  | x :: t, pre, x4, he, hi => by
    have hl : pre.length + (t.length + 1) ≤ 1000 := by
      have : (pre ++ (x :: t)).length ≤ 1000 := by rw [he]; exact hT
      simpa using this
    have hlen := recsOf_len pre (kf x)
    have hglen := recsOf_len G (kf x)
    have hc := hi (kf x)
    have hg := h3 (kf x)
    have nx : ∀ c : Int, ((recsOf pre (kf x)).length : Int) = c → (recsOf G (kf x))[c.toNat]? = some x.Text → Wp (fun k => impl_Right_l17 k Ta (Ta.length : Int) (pre.length : Int) x3 x4 x.From x.A x.B) (· = rightL G pre (x :: t)) := fun c hcc hx => by
      refine ir17 Ta x _ (pre.length : Int) c x3 x4 (by rw [hc, hcc]) (by omega) (fun m hm => ?_)
      rw [w64' (n := (pre.length : Int) + 1) (by omega) (by omega)]
      have := ir12 G Ta hG hT x3 h3 t (pre ++ [x]) m (by rw [← he]; simp) (fun key => by
        rw [hm, recsOf_snoc]
        by_cases e : key = kf x
        · rw [if_pos e, if_pos e, e, List.length_append, ← hcc]; rfl
        · rw [if_neg e, if_neg e, hi])
      rw [show ((pre ++ [x]).length : Int) = (pre.length : Int) + 1 by simp] at this
      refine this.mono fun r hr => ?_
      rw [hr]
      simp only [rightL]
      rw [show (recsOf pre (kf x)).length = c.toNat by omega, hx]; simp
    have no : ∀ c : Int, ((recsOf pre (kf x)).length : Int) = c → ¬ (recsOf G (kf x))[c.toNat]? = some x.Text → false = rightL G pre (x :: t) := fun c hcc hx => by
      simp only [rightL]
      rw [decide_eq_false (by rw [show (recsOf pre (kf x)).length = c.toNat by omega]; exact hx)]; rfl
    refine Wp.step ?_
    simp only [impl_Right_l12]
    refine Wp.dec (fun _ => ?_) (fun h => absurd (by rw [← he]; simp; omega) h)
    rw [show idx Ta (pre.length : Int) = some x by rw [← he]; exact idx_mid]
    simp only [Option.bind_some]
    rw [show (⟨x.From, x.A, x.B⟩ : DPair) = kf x from rfl]
    have fin : ∀ (g : List ByteArray) (c : Int), recsOf G (kf x) = g → ((recsOf pre (kf x)).length : Int) = c → ¬ (c ≥ (g.length : Int)) → Wp (fun k => (idx g c).bind fun _ => (g[c.toNat]?).bind fun y => bif (!(y.toList == x.Text.toList)) then some false else impl_Right_l17 k Ta (Ta.length : Int) (pre.length : Int) x3 x4 x.From x.A x.B) (· = rightL G pre (x :: t)) := fun g c hgg hcc hlt => by
      have hx : g[c.toNat]? = some (g[c.toNat]'(by omega)) := List.getElem?_eq_getElem (by omega)
      generalize g[c.toNat]'(by omega) = y at hx
      have hx' : idx g c = some y := by have := idx_nat g c.toNat; rw [Int.toNat_of_nonneg (by omega)] at this; rw [this, hx]
      refine Wp.opt hx' (Wp.opt hx ?_)
      simp only [cbnot, cbseq]
      refine Wp.ite (fun e => nx c hcc (by rw [hgg, hx, e])) (fun e => Wp.ret (no c hcc (by rw [hgg, hx]; simpa using e)))
    cases h4 : mfind (eq_pair (kf x)) x4 0 with
    | none =>
      rw [mfind_none h4] at hc
      simp only [Option.getD_none] at hc
      cases h5 : mfind (eq_pair (kf x)) x3 0 with
      | none =>
        rw [mfind_none h5] at hg
        simp only [Option.getD_none] at hg
        simp only [Km.optK]
        refine Wp.dec (fun _ => Wp.ret (no 0 hc.symm (by rw [← hg]; simp))) (fun h => absurd (by simp) h)
      | some p =>
        obtain ⟨j, b⟩ := p
        obtain ⟨d, e1, e2, e3, e4⟩ := mfind_some h5
        rw [Nat.zero_add] at e1; subst e1
        rw [e3] at hg
        simp only [Option.getD_some] at hg
        simp only [Km.optK, mod_same e2, h5]
        refine Wp.dec (fun h => Wp.ret (no 0 hc.symm (by rw [← hg, List.getElem?_eq_none (by omega)]; simp))) (fun h => fin b 0 hg.symm hc.symm h)
    | some q =>
      obtain ⟨jq, c⟩ := q
      obtain ⟨dq, f1, f2, f3, f4⟩ := mfind_some h4
      rw [f3] at hc
      simp only [Option.getD_some] at hc
      cases h5 : mfind (eq_pair (kf x)) x3 0 with
      | none =>
        rw [mfind_none h5] at hg
        simp only [Option.getD_none] at hg
        simp only [Km.optK]
        refine Wp.dec (fun _ => Wp.ret (no c hc.symm (by rw [← hg]; simp))) (fun h => absurd (by simp; omega) h)
      | some p =>
        obtain ⟨j, b⟩ := p
        obtain ⟨d, e1, e2, e3, e4⟩ := mfind_some h5
        rw [Nat.zero_add] at e1; subst e1
        rw [e3] at hg
        simp only [Option.getD_some] at hg
        simp only [Km.optK, mod_same e2, h5]
        refine Wp.dec (fun h => Wp.ret (no c hc.symm (by rw [← hg, List.getElem?_eq_none (by omega)]; simp))) (fun h => fin b c hg.symm hc.symm h)
theorem implRight_ok (w : DWorld) (hb : w.Given.length ≤ 1048576 ∧ w.Taken.length ≤ 1048576) : Wp (fun k => impl_Right k w) (· = rightM w) := by
  unfold impl_Right rightM
  refine Wp.bind (implValidWorld_ok w hb) (fun _ e => ?_); subst e
  refine Wp.not (fun h => Wp.ret (by rw [h]; rfl)) (fun h => ?_)
  have hv := of_decide_eq_true h
  have h4 := hv.2.2.2.1
  rw [h]
  exact ir5 w.Key w.Forged w.Width w.Ends w.Flight w.Given w.Taken (by omega) _ w.Given [] [] rfl (fun key => rfl) (fun m hm => ir12 w.Given w.Taken (by omega) (by omega) m hm w.Taken [] [] rfl (fun key => rfl))
end Km.X
namespace Km.X
open Go Km
set_option linter.unusedVariables false
set_option linter.unusedSimpArgs false
/-! ### calm rounds -/
theorem eq_key_iff {x y : DKey} : eq_key x y = true ↔ x = y := ⟨eq_key_eq, fun h => by subst h; simp [eq_key]⟩
instance : DecidableEq DKey := fun x y => decidable_of_iff _ eq_key_iff
def pk (p : DParcel) : DKey := ⟨p.To, p.Bytes⟩
def kcount (h : List DKey) (key : DKey) : Nat := (h.filter (fun x => decide (x = key))).length
theorem kcount_snoc (h : List DKey) (a key : DKey) : kcount (h ++ [a]) key = if key = a then kcount h key + 1 else kcount h key := by
  unfold kcount
  rw [List.filter_append, List.length_append]
  by_cases e : a = key
  · subst e; simp
  · rw [if_neg (fun g => e g.symm)]; simp [e]
theorem kcount_le (h : List DKey) (key : DKey) : kcount h key ≤ h.length := List.length_filter_le _ _
def flowW (ev : Int) : List DParcel → List DKey → DWorld → DWorld × List DKey
  | [], h, w => (w, h)
  | p :: t, h, w => flowW ev t (h ++ [pk p]) (if ((kcount h (pk p) : Int) + 1) % ev = 0 then bringW w p else w)
def pullsW (n : Int) : Nat → DWorld → DWorld
  | 0, w => w
  | d + 1, w => if (endAt n w.Ends).Take.Ready = [] then w else pullsW n d (pullW w n)
def roundW (ev : Int) (s : DWorld × List DKey) : DWorld × List DKey :=
  (pullsW 2 4 (pullsW 1 4 (flowW ev (tickW s.1).Flight s.2 (setFl (tickW s.1) [])).1), (flowW ev (tickW s.1).Flight s.2 (setFl (tickW s.1) [])).2)
def roundsW (ev : Int) : Nat → DWorld × List DKey → DWorld × List DKey
  | 0, s => s
  | d + 1, s => roundsW ev d (roundW ev s)
def calmM (w : DWorld) (n ev : Int) : DWorld := if VWorld w ∧ (1 ≤ ev ∧ ev ≤ 10) then (roundsW ev (min n 5000).toNat (w, [])).1 else noWorld
theorem flowW_len (ev : Int) : ∀ (t : List DParcel) (h : List DKey) (w : DWorld), (flowW ev t h w).2.length = h.length + t.length
  | [], h, w => rfl
  | p :: t, h, w => by simp only [flowW, flowW_len ev t]; simp; omega
theorem flowW_V (ev : Int) : ∀ (t : List DParcel) (h : List DKey) (w : DWorld), VWorld w → VPars t → VWorld (flowW ev t h w).1
  | [], h, w, hw, _ => hw
  | p :: t, h, w, hw, ht => by
    simp only [flowW]
    refine flowW_V ev t _ _ ?_ (fun x hx => ht x (by simp [hx]))
    split
    · exact bringW_V hw (ht p (by simp)).1
    · exact hw
theorem pullsW_V {n : Int} (hn : 1 ≤ n ∧ n ≤ 2) : ∀ (d : Nat) (w : DWorld), VWorld w → VWorld (pullsW n d w)
  | 0, w, h => h
  | d + 1, w, h => by
    simp only [pullsW]
    split
    · exact h
    · exact pullsW_V hn d _ (pullW_V h hn)
theorem noFl_V {w : DWorld} (h : VWorld w) : VWorld (setFl w []) := setFl_V h (by simp) (fun p hp => by cases hp)
theorem roundW_V {ev : Int} {s : DWorld × List DKey} (h : VWorld s.1) : VWorld (roundW ev s).1 :=
  pullsW_V (by omega) 4 _ (pullsW_V (by omega) 4 _ (flowW_V ev _ _ _ (noFl_V (tickW_V h)) (tickW_V h).2.2.2.2.2.1))
theorem roundW_len {ev : Int} {s : DWorld × List DKey} (h : VWorld s.1) : (roundW ev s).2.length ≤ s.2.length + 1000 := by
  unfold roundW
  dsimp only
  rw [flowW_len]
  have := (tickW_V h).2.2.1
  omega
/-! ### impl -/
section
variable (a b : ByteArray) (z : Int) (E2 : List DEnd) (F2 : List DParcel) (G2 T2 : List DRecord) (Q : DWorld → Prop) (r ev : Int)
end
end Km.X
namespace Km.X
open Go Km
set_option linter.unusedVariables false
set_option linter.unusedSimpArgs false
def scKey (c : DL7Count) : DKey := ⟨c.to, c.bytes⟩
def sget (key : DKey) : List DL7Count → Int
  | [] => 0
  | c :: l => if scKey c = key then c.n else sget key l
def SCnt (S : List DL7Count) (h : List DKey) : Prop := ∀ key, sget key S = (kcount h key : Int)
theorem sget_skip {key : DKey} {l : List DL7Count} : ∀ {pre : List DL7Count}, (∀ c ∈ pre, scKey c ≠ key) → sget key (pre ++ l) = sget key l
  | [], _ => rfl
  | c :: pre, h => by
    simp only [List.cons_append, sget]
    rw [if_neg (h c (by simp)), sget_skip (fun x hx => h x (by simp [hx]))]
theorem sget_app {key : DKey} {l l' : List DL7Count} (h : sget key l = sget key l') : ∀ (pre : List DL7Count), sget key (pre ++ l) = sget key (pre ++ l')
  | [] => h
  | c :: pre => by
    simp only [List.cons_append, sget]
    rw [sget_app h pre]
theorem set_mid {α : Type} (pre t : List α) (y y' : α) : (pre ++ y :: t).set pre.length y' = pre ++ y' :: t := by simp
theorem passes_loop (ev : Int) (hev : 1 ≤ ev ∧ ev ≤ 10) (p : DParcel) (S : List DL7Count) (hS : S.length ≤ 20000000) (hb : 0 ≤ sget (pk p) S ∧ sget (pk p) S ≤ 20000000) : ∀ (t pre : List DL7Count), pre ++ t = S → (∀ c ∈ pre, scKey c ≠ pk p) →
    Wp (fun k => spec_l7Passes_l2 k ev (pre.length : Int) S p.To p.Sent p.Bytes) (fun r => r.2 = decide ((sget (pk p) S + 1) % ev = 0) ∧ (∀ key, sget key r.1 = if key = pk p then sget (pk p) S + 1 else sget key S) ∧ r.1.length ≤ S.length + 1)
  | [], pre, he, hn => by
    have he' : pre = S := by simpa using he
    refine Wp.step ?_
    simp only [spec_l7Passes_l2]
    refine Wp.dec (fun g => by rw [he'] at g; omega) (fun _ => ?_)
    refine Wp.opt (app_ok (by simp; omega)) ?_
    have h0 : sget (pk p) S = 0 := by rw [← he, sget_skip hn]; rfl
    refine Wp.ret ⟨?_, fun key => ?_, by simp⟩
    · dsimp only
      rw [h0, Bool.eq_iff_iff]
      simp only [beq_iff_eq, decide_eq_true_eq]
      constructor
      · intro e; subst e; rfl
      · intro e
        by_cases h1 : ev = 1
        · exact h1
        · rw [Int.emod_eq_of_lt (by omega) (by omega)] at e; omega
    · by_cases e : key = pk p
      · rw [if_pos e, e, h0, ← he', sget_skip hn]
        simp [sget, scKey, pk]
      · rw [if_neg e]
        have : sget key ([(⟨p.To, p.Bytes, 1⟩ : DL7Count)]) = sget key [] := by
          simp only [sget]; rw [if_neg (fun g => e g.symm)]
        have := sget_app this S
        simpa using this
  | y :: t, pre, he, hn => by
    have hl : pre.length + (t.length + 1) ≤ 20000000 := by
      have : (pre ++ (y :: t)).length ≤ 20000000 := by rw [he]; exact hS
      simpa using this
    refine Wp.step ?_
    simp only [spec_l7Passes_l2]
    refine Wp.dec (fun _ => ?_) (fun g => absurd (by rw [← he]; simp; omega) g)
    have i1 : idx S (pre.length : Int) = some y := by rw [← he]; exact idx_mid
    have i2 : S[Int.toNat (pre.length : Int)]? = some y := by rw [← he, Int.toNat_natCast]; simp
    simp only [i1, i2, Option.bind_some, cbeq, cbseq]
    have nx : scKey y ≠ pk p → Wp (fun k => spec_l7Passes_l2 k ev (IntKind.wrap .i64 ((pre.length : Int) + 1)) S p.To p.Sent p.Bytes) (fun r => r.2 = decide ((sget (pk p) S + 1) % ev = 0) ∧ (∀ key, sget key r.1 = if key = pk p then sget (pk p) S + 1 else sget key S) ∧ r.1.length ≤ S.length + 1) := fun hne => by
      rw [w64' (n := (pre.length : Int) + 1) (by omega) (by omega)]
      have := passes_loop ev hev p S hS hb t (pre ++ [y]) (by rw [← he]; simp) (fun c hc => by
        simp only [List.mem_append, List.mem_cons, List.not_mem_nil, or_false] at hc
        rcases hc with hc | rfl
        · exact hn c hc
        · exact hne)
      rw [show ((pre ++ [y]).length : Int) = (pre.length : Int) + 1 by simp] at this
      exact this
    refine Wp.ite (fun e1 => ?_) (fun e1 => nx (fun g => e1 (congrArg DKey.to g)))
    refine Wp.ite (fun e2 => ?_) (fun e2 => nx (fun g => e2 (congrArg DKey.bytes g)))
    have hk : scKey y = pk p := by simp [scKey, pk, e1, e2]
    have hy : sget (pk p) S = y.n := by rw [← he, sget_skip hn]; simp only [sget]; rw [if_pos hk]
    rw [w64' (n := y.n + 1) (by omega) (by omega)]
    have es : ∀ y' : DL7Count, S.set (Int.toNat (pre.length : Int)) y' = pre ++ y' :: t := fun y' => by rw [Int.toNat_natCast, ← he]; exact set_mid pre t y y'
    simp only [es]
    have j1 : ∀ y' : DL7Count, idx (pre ++ y' :: t) (pre.length : Int) = some y' := fun y' => idx_mid
    have j2 : ∀ y' : DL7Count, (pre ++ y' :: t)[Int.toNat (pre.length : Int)]? = some y' := fun y' => by rw [Int.toNat_natCast]; simp
    simp only [j1, j2, Option.bind_some]
    refine Wp.opt (qrem_nn (by omega) (by omega)) ?_
    refine Wp.ret ⟨?_, fun key => ?_, by rw [← he]; simp⟩
    · dsimp only
      rw [hy, Bool.eq_iff_iff]; simp
    · dsimp only
      by_cases e : key = pk p
      · rw [if_pos e, e, hy, sget_skip hn]
        simp only [sget]
        rw [if_pos (by rw [← hk]; rfl)]
      · rw [if_neg e, ← he]
        apply sget_app
        simp only [sget]
        rw [if_neg (fun g => e (by rw [← g, ← hk]; rfl)), if_neg (fun g => e (by rw [← g, ← hk]))]
theorem passes_ok (ev : Int) (hev : 1 ≤ ev ∧ ev ≤ 10) (p : DParcel) (S : List DL7Count) (h : List DKey) (hc : SCnt S h) (hS : S.length ≤ h.length) (hh : h.length ≤ 10000000) : Wp (fun k => spec_l7Passes k S p ev) (fun r => r.2 = decide (((kcount h (pk p) : Int) + 1) % ev = 0) ∧ SCnt r.1 (h ++ [pk p]) ∧ r.1.length ≤ (h ++ [pk p]).length) := by
  unfold spec_l7Passes
  have hk := kcount_le h (pk p)
  have hb := hc (pk p)
  refine (passes_loop ev hev p S (by omega) (by omega) S [] rfl (fun c hc => by cases hc)).mono fun r hr => ?_
  refine ⟨by rw [hr.1, hb], fun key => ?_, by have := hr.2.2; simp; omega⟩
  rw [hr.2.1, kcount_snoc]
  by_cases e : key = pk p
  · rw [if_pos e, if_pos e, hb, e]; rfl
  · rw [if_neg e, if_neg e, hc]
theorem bring_setFl (w : DWorld) (fl : List DParcel) (p : DParcel) : bringW (setFl w fl) p = setFl (bringW w p) fl := by
  unfold bringW
  by_cases h : (readM p.Bytes w.Key w.Width).2 = true
  · rw [if_pos (show (readM p.Bytes (setFl w fl).Key (setFl w fl).Width).2 = true from h), if_pos h]; rfl
  · rw [if_neg (show ¬ (readM p.Bytes (setFl w fl).Key (setFl w fl).Width).2 = true from h), if_neg h]
theorem bring_fl (w : DWorld) (p : DParcel) : (bringW w p).Flight = w.Flight := by unfold bringW; split <;> rfl
theorem flowW_fl (ev : Int) : ∀ (t : List DParcel) (h : List DKey) (w : DWorld), (flowW ev t h w).1.Flight = w.Flight
  | [], h, w => rfl
  | p :: t, h, w => by
    simp only [flowW, flowW_fl ev t]
    split
    · exact bring_fl w p
    · rfl
theorem endDo_pull (w : DWorld) (n : Int) (x y : Int) (t : ByteArray) : endDo w ⟨11, n, x, y, t⟩ = pullW w n := by
  unfold endDo; dsimp only; rw [if_neg (by omega), if_neg (by omega), if_neg (by omega)]
section
variable (a b : ByteArray) (z : Int) (E2 : List DEnd) (F2 : List DParcel) (G2 T2 : List DRecord) (Q : DWorld → Prop) (r ev i : Int)
theorem sc9 (hev : 1 ≤ ev ∧ ev ≤ 10) : ∀ (t : List DParcel) (S : List DL7Count) (h : List DKey) (w : DWorld), VWorld w → VPars t → t.length ≤ 1000 → SCnt S h → S.length ≤ h.length → h.length + t.length ≤ 10000000 →
    (∀ S', SCnt S' (flowW ev t h w).2 → S'.length ≤ (flowW ev t h w).2.length → Wp (fun k => spec_Calm_l16 k r ev i 1 a z b (flowW ev t h w).1.Key (flowW ev t h w).1.Width (flowW ev t h w).1.Forged S' E2 F2 G2 T2 (flowW ev t h w).1.Ends [] (flowW ev t h w).1.Given (flowW ev t h w).1.Taken) Q) →
    Wp (fun k => spec_Calm_l9 k r ev i a z b w.Key w.Width w.Forged S E2 F2 G2 T2 w.Ends t w.Given w.Taken) Q
  | [], S, h, w, hw, ht, hl, hc, hS, hh, go => by
    refine Wp.step ?_
    simp only [spec_Calm_l9]
    refine Wp.dec (fun g => by simp at g) (fun _ => go S hc hS)
  | p :: t, S, h, w, hw, ht, hl, hc, hS, hh, go => by
    simp only [List.length_cons] at hl hh
    refine Wp.step ?_
    simp only [spec_Calm_l9]
    refine Wp.dec (fun _ => ?_) (fun g => absurd (by simp) g)
    rw [show idx (p :: t) 0 = some p from rfl, show (p :: t)[Int.toNat 0]? = some p from rfl]
    simp only [Option.bind_some]
    have hwf : VWorld (setFl w (p :: t)) := setFl_V hw (by simp; omega) ht
    refine Wp.bind (passes_ok ev hev p S h hc hS (by omega)) ?_
    rintro ⟨S', ps⟩ ⟨e1, e2, e3⟩
    dsimp only at e1 e2 e3 ⊢
    simp only [flowW] at go
    refine Wp.bif (fun hp => ?_) (fun hp => ?_)
    · rw [hp] at e1
      rw [if_pos (of_decide_eq_true e1.symm)] at go
      have hb := specBringW_ok (setFl w (p :: t)) hwf 0 (p := p) rfl
      refine Wp.bind hb (fun x hx => ?_)
      have hx' : x = setFl (bringW w p) t := by rw [hx, ← bring_setFl]; rfl
      subst hx'
      exact sc9 hev t S' (h ++ [pk p]) (bringW w p) (bringW_V hw (ht p (by simp)).1) (fun x hx => ht x (by simp [hx])) (by omega) e2 e3 (by simp; omega) go
    · rw [hp] at e1
      rw [if_neg (of_decide_eq_false e1.symm)] at go
      refine Wp.bind (without_ok (p :: t) 0 (by simp) (by simp; omega)) (fun x hx => ?_)
      have hx' : x = t := hx
      subst hx'
      exact sc9 hev x S' (h ++ [pk p]) w hw (fun x hx => ht x (by simp [hx])) (by omega) e2 e3 (by simp; omega) go
theorem sc19 (S : List DL7Count) (n : Int) (hn : 1 ≤ n ∧ n ≤ 2) : ∀ (d : Nat) (j : Int) (w : DWorld), j + d = 4 → 0 ≤ j → VWorld w →
    (Wp (fun k => spec_Calm_l16 k r ev i (IntKind.wrap .i64 (n + 1)) a z b (pullsW n d w).Key (pullsW n d w).Width (pullsW n d w).Forged S E2 F2 G2 T2 (pullsW n d w).Ends (pullsW n d w).Flight (pullsW n d w).Given (pullsW n d w).Taken) Q) →
    Wp (fun k => spec_Calm_l19 k r ev i n j a z b w.Key w.Width w.Forged S E2 F2 G2 T2 w.Ends w.Flight w.Given w.Taken) Q
  | 0, j, w, hi, h0, hw, go => by
    refine Wp.step ?_
    simp only [spec_Calm_l19]
    refine Wp.dec (fun g => by omega) (fun _ => go)
  | d + 1, j, w, hi, h0, hw, go => by
    refine Wp.step ?_
    simp only [spec_Calm_l19]
    refine Wp.dec (fun _ => ?_) (fun g => by omega)
    obtain ⟨a1, a2, a3⟩ := ends_ix hw.2.2.2.2.1 hn
    simp only [a1, a2, Option.bind_some]
    simp only [pullsW] at go
    refine Wp.dec (fun g => ?_) (fun g => ?_)
    · rw [if_neg (fun e => by rw [e] at g; simp at g)] at go
      refine Wp.bind (specEnd_ok w hw ⟨11, n, 0, 0, noB⟩ (by dsimp only; omega) hn) (fun x hx => ?_)
      rw [endDo_pull] at hx; subst hx
      rw [w64' (n := j + 1) (by omega) (by omega)]
      exact sc19 S n hn d (j + 1) (pullW w n) (by omega) (by omega) (pullW_V hw hn) go
    · rw [if_pos (by apply List.eq_nil_of_length_eq_zero; omega)] at go
      exact go
theorem sc6 (hev : 1 ≤ ev ∧ ev ≤ 10) : ∀ (d : Nat) (i : Int) (S : List DL7Count) (s : DWorld × List DKey), d = (min r 5000 - i).toNat → 0 ≤ i ∧ i ≤ 5000 → VWorld s.1 → SCnt S s.2 → S.length ≤ s.2.length → s.2.length + 1000 * d ≤ 9000000 →
    Wp (fun k => spec_Calm_l6 k r ev i a z b s.1.Key s.1.Width s.1.Forged S E2 F2 G2 T2 s.1.Ends s.1.Flight s.1.Given s.1.Taken) (· = (roundsW ev d s).1)
  | 0, i, S, s, hd, hi, hs, hm, hS, hl => by
    refine Wp.step ?_
    simp only [spec_Calm_l6]
    have cp : Wp (fun k => (spec_l7Copy k s.1).bind fun x => some x) (· = (roundsW ev 0 s).1) := by
      refine Wp.bind (specCopyW_ok s.1 hs) (fun x hx => ?_)
      exact Wp.ret hx
    refine Wp.dec (fun g => ?_) (fun _ => cp)
    refine Wp.dec (fun g => by omega) (fun _ => cp)
  | d + 1, i, S, s, hd, hi, hs, hm, hS, hl => by
    refine Wp.step ?_
    simp only [spec_Calm_l6]
    refine Wp.dec (fun _ => ?_) (fun g => by omega)
    refine Wp.dec (fun _ => ?_) (fun g => by omega)
    refine Wp.bind (specTickW_ok s.1 hs) (fun x hx => ?_); subst hx
    have ht := tickW_V hs
    have htl := ht.2.2.1
    refine sc9 a b z E2 F2 G2 T2 _ r ev i hev (tickW s.1).Flight S s.2 (setFl (tickW s.1) []) (noFl_V ht) ht.2.2.2.2.2.1 htl hm hS (by omega) (fun S' hm' hS' => ?_)
    have hf := flowW_V ev (tickW s.1).Flight s.2 (setFl (tickW s.1) []) (noFl_V ht) ht.2.2.2.2.2.1
    have hfl : (flowW ev (tickW s.1).Flight s.2 (setFl (tickW s.1) [])).1.Flight = [] := flowW_fl ev _ _ _
    generalize hX : flowW ev (tickW s.1).Flight s.2 (setFl (tickW s.1) []) = X at hf hfl hm' hS' ⊢
    rw [← hfl]
    refine Wp.step ?_
    simp only [spec_Calm_l16]
    refine Wp.dec (fun _ => ?_) (fun g => by omega)
    refine sc19 a b z E2 F2 G2 T2 _ r ev i S' 1 (by omega) 4 0 _ (by omega) (by omega) hf ?_
    rw [show IntKind.wrap .i64 (1 + 1) = 2 by rfl]
    refine Wp.step ?_
    simp only [spec_Calm_l16]
    refine Wp.dec (fun _ => ?_) (fun g => by omega)
    refine sc19 a b z E2 F2 G2 T2 _ r ev i S' 2 (by omega) 4 0 _ (by omega) (by omega) (pullsW_V (by omega) 4 _ hf) ?_
    rw [show IntKind.wrap .i64 (2 + 1) = 3 by rfl]
    refine Wp.step ?_
    simp only [spec_Calm_l16]
    refine Wp.dec (fun g => by omega) (fun _ => ?_)
    rw [w64' (n := i + 1) (by omega) (by omega)]
    have hlen := roundW_len (ev := ev) hs
    subst hX
    exact sc6 hev d (i + 1) S' (roundW ev s) (by omega) (by omega) (roundW_V hs) hm' hS' (by omega)
end
theorem specCalm_ok (w : DWorld) (hb : w.Given.length ≤ 1048576 ∧ w.Taken.length ≤ 1048576) (n ev : Int) : Wp (fun k => spec_Calm k w n ev) (· = calmM w n ev) := by
  unfold spec_Calm calmM
  refine Wp.bind (specValidWorld_ok w hb) (fun _ e => ?_); subst e
  refine Wp.not (fun h => Wp.ret (by rw [if_neg (fun g => of_decide_eq_false h g.1)]; rfl)) (fun h => ?_)
  have hv := of_decide_eq_true h
  refine Wp.bind (l1In_ok _ _ _) (fun _ e => ?_); subst e
  refine Wp.not (fun h => ?_) (fun h => ?_)
  · simp only [Bool.and_eq_false_iff, decide_eq_false_iff_not] at h
    exact Wp.ret (by rw [if_neg (fun g => by omega)]; rfl)
  simp only [Bool.and_eq_true, decide_eq_true_eq] at h
  rw [if_pos ⟨hv, h⟩]
  refine Wp.bind (specCopyW_ok w hv) (fun _ e => ?_); have e'' := e.symm; subst e''
  exact sc6 noB noB 0 [] [] [] [] n ev h (min n 5000).toNat 0 [] (w, []) (by omega) (by omega) hv (fun key => rfl) (by simp) (by simp; omega)
end Km.X
namespace Km.X
open Go Km
set_option linter.unusedVariables false
set_option linter.unusedSimpArgs false
def joinL : List DPart → ByteArray → List ByteArray → List ByteArray × ByteArray × Bool
  | [], o, out => (out, o, true)
  | p :: ps, o, out => if 20 < p.Text.size ∨ 200 < o.size + p.Text.size then ([], noB, false) else if p.Last then joinL ps noB (out ++ [o ++ p.Text]) else joinL ps (o ++ p.Text) out
theorem joinL_sm : ∀ (t : List DPart) (o : ByteArray) (out : List ByteArray), o.size ≤ 200 → (∀ y ∈ out, y.size ≤ 200) → ((joinL t o out).1.length ≤ out.length + t.length) ∧ (∀ y ∈ (joinL t o out).1, y.size ≤ 200) ∧ (joinL t o out).2.1.size ≤ 200
  | [], o, out, ho, hout => ⟨by simp [joinL], hout, ho⟩
  | x :: t, o, out, ho, hout => by
    simp only [joinL]
    split
    · exact ⟨by simp, fun y hy => by simp at hy, by simp [noB_size]⟩
    · rename_i h
      split
      · have := joinL_sm t noB (out ++ [o ++ x.Text]) (by simp [noB_size]) (fun y hy => by
          simp only [List.mem_append, List.mem_singleton] at hy
          rcases hy with hy | rfl
          · exact hout y hy
          · rw [ba_size_append]; omega)
        refine ⟨?_, this.2⟩
        have h1 := this.1
        simp only [List.length_append, List.length_cons, List.length_nil] at h1 ⊢
        omega
      · have := joinL_sm t (o ++ x.Text) out (by rw [ba_size_append]; omega) hout
        refine ⟨?_, this.2⟩
        have h1 := this.1
        simp only [List.length_cons] at h1 ⊢
        omega
end Km.X
namespace Km.X
open Go Km
set_option linter.unusedVariables false
set_option linter.unusedSimpArgs false
/-! ### draws -/
theorem byte_range {y : Int} (h : wf_byte y) : 0 ≤ y ∧ y ≤ 255 := by
  unfold wf_byte at h
  simp [Lit.wf, IntKind.min, IntKind.max, IntKind.signed, IntKind.bits] at h
  omega
def Rd (n : Int) (r : DL1Rd) : Prop := r.b.length ≤ 2000 ∧ (∀ y ∈ r.b, 0 ≤ y ∧ y ≤ 255) ∧ 0 ≤ r.p ∧ r.p ≤ n
theorem Rd.mono {n m : Int} {r : DL1Rd} (h : Rd n r) (hm : n ≤ m) : Rd m r := ⟨h.1, h.2.1, h.2.2.1, by have := h.2.2.2; omega⟩
theorem xor_ok (n m : Nat) (hn : n < 2 ^ 62) (hm : m < 2 ^ 62) : bitsXor .i64 (n : Int) (m : Int) = ((n ^^^ m : Nat) : Int) := by
  have e : ∀ m : Nat, BitVec.ofInt 64 (m : Int) = BitVec.ofNat 64 m := fun m => by
    apply BitVec.eq_of_toNat_eq
    simp [BitVec.toNat_ofInt]
  have hx := Nat.xor_lt_two_pow hn hm
  show IntKind.wrap .i64 ((BitVec.ofInt 64 ((n : Nat) : Int) ^^^ BitVec.ofInt 64 ((m : Nat) : Int)).toNat : Int) = _
  rw [e, e, BitVec.toNat_xor, BitVec.toNat_ofNat, BitVec.toNat_ofNat, Nat.mod_eq_of_lt (by omega), Nat.mod_eq_of_lt (by omega)]
  exact w64' (by omega) (by omega)
theorem idx_get {xs : List Int} {i : Int} (h : 0 ≤ i) (h' : i < xs.length) : ∃ y ∈ xs, idx xs i = some y := by
  have hlt : i.toNat < xs.length := by omega
  have := idx_at hlt
  rw [Int.toNat_of_nonneg h] at this
  exact ⟨_, List.getElem_mem hlt, this⟩
theorem pick_ok (r : DL1Rd) (n a : Int) (h : Rd n r) (hn : n ≤ 1000000) (ha : 1 ≤ a ∧ a ≤ 1000000) : Wp (fun k => spec_l1Rd_pick k r a) (fun v => (0 ≤ v.1 ∧ v.1 < a) ∧ Rd (n + 1) v.2) := by
  obtain ⟨h1, h2, h3, h4⟩ := h
  have R1 : Rd (n + 1) ⟨r.b, r.p + 1⟩ := ⟨h1, h2, by simp only; omega, by simp only; omega⟩
  unfold spec_l1Rd_pick
  rw [w64' (n := r.p + 1) (by omega) (by omega), w64' (n := r.p + 1 - 1) (by omega) (by omega), show r.p + 1 - 1 = r.p by omega]
  simp only [cbdec, cbeq]
  refine Wp.ite (fun h => by omega) (fun _ => ?_)
  refine Wp.ite (fun h => Wp.ret ⟨⟨by omega, by omega⟩, R1⟩) (fun h5 => ?_)
  refine Wp.ite (fun h6 => ?_) (fun h6 => ?_)
  · obtain ⟨y, hy, e⟩ := idx_get h3 h6
    have hy := h2 y hy
    refine Wp.opt e ?_
    rw [w64' (by omega) (by omega)]
    refine Wp.opt (qrem_nn (by omega) (by omega)) ?_
    exact Wp.ret ⟨⟨Int.emod_nonneg _ (by omega), Int.emod_lt_of_pos _ (by omega)⟩, R1⟩
  · refine Wp.opt (qrem_nn h3 (by omega)) ?_
    obtain ⟨y, hy, e⟩ := idx_get (xs := r.b) (Int.emod_nonneg r.p (b := r.b.length) (by omega)) (Int.emod_lt_of_pos _ (by omega))
    have hy := h2 y hy
    refine Wp.opt e ?_
    rw [w64' (n := r.p * 7) (by omega) (by omega), w64' (n := r.p * 7 + 3) (by omega) (by omega)]
    refine Wp.opt (qrem_nn (by omega) (by omega)) ?_
    obtain ⟨z, hz, e⟩ := idx_get (xs := r.b) (Int.emod_nonneg (r.p * 7 + 3) (b := r.b.length) (by omega)) (Int.emod_lt_of_pos _ (by omega))
    have hz := h2 z hz
    refine Wp.opt e ?_
    refine Wp.opt (qdiv_nn h3 (by omega)) ?_
    have hd0 : 0 ≤ r.p / (r.b.length : Int) := Int.ediv_nonneg h3 (by omega)
    have hd1 : r.p / (r.b.length : Int) ≤ r.p := Int.ediv_le_self _ h3
    generalize r.p / (r.b.length : Int) = d at *
    rw [w64' (n := y) (by omega) (by omega), w64' (n := z) (by omega) (by omega), w64' (n := d) (by omega) (by omega), w64' (n := y * 131) (by omega) (by omega), w64' (n := z * 1117) (by omega) (by omega), w64' (n := r.p * 29) (by omega) (by omega), w64' (n := d * 53) (by omega) (by omega), w64' (n := y * 131 + z * 1117) (by omega) (by omega), w64' (n := y * 131 + z * 1117 + r.p * 29) (by omega) (by omega), w64' (n := y * 131 + z * 1117 + r.p * 29 + d * 53) (by omega) (by omega)]
    have hv : 0 ≤ y * 131 + z * 1117 + r.p * 29 + d * 53 ∧ y * 131 + z * 1117 + r.p * 29 + d * 53 ≤ 1000000000 := by omega
    generalize y * 131 + z * 1117 + r.p * 29 + d * 53 = v at *
    refine Wp.opt (qdiv_nn hv.1 (by omega)) ?_
    rw [w64' (n := v / 64) (by omega) (by omega)]
    obtain ⟨m, rfl⟩ := Int.eq_ofNat_of_zero_le hv.1
    rw [show ((m : Int) / 64) = ((m / 64 : Nat) : Int) by omega, xor_ok _ _ (by omega) (by omega)]
    refine Wp.opt (qrem_nn (by omega) (by omega)) ?_
    exact Wp.ret ⟨⟨Int.emod_nonneg _ (by omega), Int.emod_lt_of_pos _ (by omega)⟩, R1⟩
theorem open_ok (a : List Int) (h : ∀ y ∈ a, wf_byte y) : Wp (fun k => spec_l1Open k a) (Rd 0) := by
  unfold spec_l1Open
  simp only [cbdec]
  refine Wp.ite (fun h1 => ?_) (fun h1 => ?_)
  · refine Wp.opt (wnd_ok (by omega)) ?_
    refine Wp.step ?_
    simp only [spec_l1Open_l3]
    refine Wp.ret ⟨by simp [dcut]; omega, fun y hy => byte_range (h y ?_), by simp, by simp⟩
    simp only [dcut] at hy
    exact List.mem_of_mem_take (List.mem_of_mem_drop hy)
  · refine Wp.step ?_
    simp only [spec_l1Open_l3]
    exact Wp.ret ⟨by simp only; omega, fun y hy => byte_range (h y hy), by simp, by simp⟩
theorem many_loop : ∀ (n : Nat) (s acc : ByteArray), n ≤ 1000000 → acc.size + s.size * n ≤ 1000000 → Wp (fun k => spec_l1Many_l2 k s (n : Int) acc) (fun r => r.size = acc.size + s.size * n)
  | 0, s, acc, hn, h => by
    refine Wp.step ?_
    simp only [spec_l1Many_l2]
    simp (disch := omega) only [cbdec, if_neg]
    exact Wp.ret (by simp)
  | n + 1, s, acc, hn, h => by
    have hs : s.size ≤ s.size * (n + 1) := Nat.le_mul_of_pos_right _ (by omega)
    have hle : (s ++ s).size * ((n + 1) / 2) + s.size * ((n + 1) % 2) = s.size * (n + 1) := by
      rw [ba_size_append]
      have := Nat.div_add_mod (n + 1) 2
      calc (s.size + s.size) * ((n + 1) / 2) + s.size * ((n + 1) % 2) = s.size * (2 * ((n + 1) / 2) + (n + 1) % 2) := by rw [Nat.mul_add, ← Nat.two_mul, Nat.mul_comm 2 s.size, Nat.mul_assoc]
        _ = s.size * (n + 1) := by rw [this]
    have G : ∀ acc' : ByteArray, acc'.size = acc.size + s.size * ((n + 1) % 2) → Wp (fun k => spec_l1Many_l5 k s ((n + 1 : Nat) : Int) acc') (fun r => r.size = acc.size + s.size * (n + 1)) := fun acc' h' => by
      refine Wp.step ?_
      simp only [spec_l1Many_l5]
      refine Wp.opt (sadd_ok (by omega)) ?_
      refine Wp.opt (qdiv_nn (by omega) (by omega)) ?_
      rw [w64' (by omega) (by omega), show ((n + 1 : Nat) : Int) / 2 = (((n + 1) / 2 : Nat) : Int) by omega]
      exact (many_loop ((n + 1) / 2) (s ++ s) acc' (by omega) (by omega)).mono fun r hr => by rw [hr]; omega
    refine Wp.step ?_
    simp only [spec_l1Many_l2]
    simp (disch := omega) only [cbdec, if_pos, cbeq]
    refine Wp.opt (qrem_nn (by omega) (by omega)) ?_
    refine Wp.ite (fun h1 => ?_) (fun h1 => ?_)
    · have e : (n + 1) % 2 = 1 := by omega
      refine Wp.opt (sadd_ok (by omega)) ?_
      exact G _ (by rw [ba_size_append, e]; omega)
    · have e : (n + 1) % 2 = 0 := by omega
      exact G _ (by rw [e]; omega)
theorem many_ok (s : ByteArray) (n : Int) (B : Nat) (hB : B ≤ 1000000) (h : s.size * n.toNat ≤ B) (hn1 : n ≤ 1000000) : Wp (fun k => spec_l1Many k s n) (fun r => r.size ≤ B) := by
  unfold spec_l1Many
  by_cases hn : 0 ≤ n
  · have e0 : (⟨#[]⟩ : ByteArray).size = 0 := rfl
    have := many_loop n.toNat s (⟨#[]⟩ : ByteArray) (by omega) (by rw [e0]; omega)
    rw [Int.toNat_of_nonneg hn] at this
    exact this.mono fun r hr => by rw [hr, e0]; omega
  · refine Wp.step ?_
    simp only [spec_l1Many_l2]
    simp (disch := omega) only [cbdec, if_neg]
    exact Wp.ret (Nat.zero_le _)
theorem letters_loop : ∀ (d : Nat) (n : Int) (r : DL1Rd) (s : ByteArray), Rd n r → n + d ≤ 900000 → s.size + d ≤ 100 → Wp (fun k => spec_l1Message_l12 k s (d : Int) r.b r.p) (fun v => v.1.size ≤ s.size + d ∧ Rd (n + d) v.2)
  | 0, n, r, s, h, hn, hs => by
    refine Wp.step ?_
    simp only [spec_l1Message_l12]
    simp (disch := omega) only [cbdec, if_neg]
    exact Wp.ret ⟨by simp, by simpa using h⟩
  | d + 1, n, r, s, h, hn, hs => by
    refine Wp.step ?_
    simp only [spec_l1Message_l12]
    simp (disch := omega) only [cbdec, if_pos]
    refine Wp.bind (pick_ok r n 5 h (by omega) (by omega)) ?_
    rintro ⟨q, r'⟩ ⟨hq, hr'⟩
    have e5 : (⟨#[97, 98, 99, 100, 32]⟩ : ByteArray).size = 5 := rfl
    simp only at hq
    dsimp only
    refine Wp.opt (wnd_ok (by rw [e5]; omega)) ?_
    dsimp only
    refine Wp.opt (wnd_ok (by simp only [ByteArray.size_extract, e5]; omega)) ?_
    dsimp only
    refine Wp.opt (sadd_ok (by simp only [ByteArray.size_extract, e5]; omega)) ?_
    rw [w64' (by omega) (by omega), show ((d + 1 : Nat) : Int) - 1 = (d : Int) by omega]
    have hsz : ∀ u : ByteArray, (s ++ u.extract (0 : Int).toNat (1 : Int).toNat).size ≤ s.size + 1 := fun u => by
      rw [ba_size_append, ByteArray.size_extract]; omega
    have hz := hsz ((⟨#[97, 98, 99, 100, 32]⟩ : ByteArray).extract q.toNat (((⟨#[97, 98, 99, 100, 32]⟩ : ByteArray).size : Int)).toNat)
    exact (letters_loop d (n + 1) r' _ hr' (by omega) (by omega)).mono fun v hv => ⟨by omega, hv.2.mono (by omega)⟩
theorem message_ok (r : DL1Rd) (n : Int) (h : Rd n r) (hn : 0 ≤ n ∧ n ≤ 800000) : Wp (fun k => spec_l1Message k r) (fun v => v.1.size ≤ 190 ∧ Rd (n + 40) v.2) := by
  unfold spec_l1Message
  refine Wp.bind (pick_ok r n 8 h (by omega) (by omega)) ?_
  rintro ⟨q, r1⟩ ⟨hq, h1⟩
  simp only at hq
  simp only [cbeq]
  refine Wp.ite (fun _ => Wp.ret ⟨Nat.zero_le _, h1.mono (by omega)⟩) (fun _ => ?_)
  refine Wp.ite (fun _ => ?_) (fun _ => ?_)
  · refine Wp.bind (pick_ok r1 _ 5 h1 (by omega) (by omega)) ?_
    rintro ⟨q2, r2⟩ ⟨hq2, h2⟩
    refine Wp.bind (pick_ok r2 _ 3 h2 (by omega) (by omega)) ?_
    rintro ⟨q3, r3⟩ ⟨hq3, h3⟩
    refine Wp.bind (pick_ok r3 _ 2 h3 (by omega) (by omega)) ?_
    rintro ⟨q4, r4⟩ ⟨hq4, h4⟩
    refine Wp.bind (pick_ok r4 _ 2 h4 (by omega) (by omega)) ?_
    rintro ⟨q5, r5⟩ ⟨hq5, h5⟩
    simp only at hq2 hq3 hq4 hq5 ⊢
    have hm : 0 ≤ q4 * q5 ∧ q4 * q5 ≤ 1 := by
      have : q4 = 0 ∨ q4 = 1 := by omega
      rcases this with rfl | rfl <;> omega
    generalize q4 * q5 = m at *
    simp (disch := omega) only [w64']
    refine Wp.bind (many_ok _ _ 190 (by omega) (by show 1 * _ ≤ 190; omega) (by omega)) (fun u hu => ?_)
    exact Wp.ret ⟨hu, h5.mono (by omega)⟩
  refine Wp.ite (fun _ => ?_) (fun _ => ?_)
  · refine Wp.bind (pick_ok r1 _ 19 h1 (by omega) (by omega)) ?_
    rintro ⟨q2, r2⟩ ⟨hq2, h2⟩
    simp only at hq2 ⊢
    simp (disch := omega) only [w64']
    refine Wp.bind (many_ok _ _ 190 (by omega) (by show 10 * _ ≤ 190; omega) (by omega)) (fun u hu => ?_)
    exact Wp.ret ⟨hu, h2.mono (by omega)⟩
  refine Wp.ite (fun _ => Wp.ret ⟨by show 2 ≤ 190; omega, h1.mono (by omega)⟩) (fun _ => ?_)
  refine Wp.bind (pick_ok r1 _ 30 h1 (by omega) (by omega)) ?_
  rintro ⟨q2, r2⟩ ⟨hq2, h2⟩
  simp only at hq2 ⊢
  simp (disch := omega) only [w64']
  have := letters_loop (1 + q2).toNat _ r2 (⟨#[]⟩ : ByteArray) h2 (by omega) (by show 0 + _ ≤ 100; omega)
  rw [Int.toNat_of_nonneg (by omega)] at this
  exact this.mono fun v hv => ⟨by have := hv.1; have e0 : (⟨#[]⟩ : ByteArray).size = 0 := rfl; rw [e0] at this; omega, hv.2.mono (by omega)⟩
/-! ### Join of Cut -/
theorem ba_append_assoc (a b c : ByteArray) : a ++ b ++ c = a ++ (b ++ c) := by
  apply ByteArray.ext; apply Array.ext'; simp
theorem ba_split (s : ByteArray) (i : Nat) (h : i ≤ s.size) : s.extract 0 i ++ s.extract i s.size = s := by
  apply ByteArray.ext
  simp only [ByteArray.data_append, ByteArray.data_extract]
  apply Array.ext'
  have : i ≤ s.data.toList.length := h
  simp [Array.toList_extract, List.extract]
  exact List.take_of_length_le (by show s.size ≤ max i s.size; omega)
theorem ba_nil_append (s : ByteArray) : noB ++ s = s := by
  apply ByteArray.ext; apply Array.ext'; simp [noB]
theorem join_cut : ∀ (n : Nat) (s o : ByteArray) (rest : List DPart) (out : List ByteArray), s.size ≤ 20 * n → 0 < n → o.size + s.size ≤ 200 → joinL (cutL n s ++ rest) o out = joinL rest noB (out ++ [o ++ s])
  | 0, s, o, rest, out, h, h0, hs => by omega
  | n + 1, s, o, rest, out, h, h0, hs => by
    simp only [cutL]
    split
    · rename_i h1
      simp only [List.cons_append, joinL]
      rw [if_neg (by rw [ByteArray.size_extract]; omega)]
      simp only [Bool.false_eq_true, if_false]
      rw [join_cut n (s.extract 20 s.size) (o ++ s.extract 0 20) rest out (by rw [ByteArray.size_extract]; omega) (by omega) (by rw [ba_size_append, ByteArray.size_extract, ByteArray.size_extract]; omega), ba_append_assoc, ba_split s 20 (by omega)]
    · simp only [List.cons_append, List.nil_append, joinL]
      rw [if_neg (by omega)]
      simp
def firstT (s : ByteArray) : List ByteArray := if s.size ≤ 200 then [s] else []
theorem join_cutM (s : ByteArray) (rest : List DPart) (out : List ByteArray) : joinL (cutM s ++ rest) noB out = joinL rest noB (out ++ firstT s) := by
  unfold cutM firstT
  split
  · rw [if_neg (by omega)]; simp
  · rw [if_pos (by omega), join_cut 10 s noB rest out (by omega) (by omega) (by rw [noB_size]; omega), ba_nil_append]
end Km.X
namespace Km.X
open Go Km
set_option linter.unusedVariables false
set_option linter.unusedSimpArgs false
/-! ### drawn sends -/
theorem both_self {R : Type} (x : Option R) : Km.both x x = x := by unfold Km.both; rw [if_pos rfl]
theorem idx_any {α : Type} {xs : List α} {i : Int} (h : 0 ≤ i) (h' : i < xs.length) : ∃ y ∈ xs, idx xs i = some y ∧ xs[i.toNat]? = some y := by
  have hlt : i.toNat < xs.length := by omega
  have := idx_at hlt
  rw [Int.toNat_of_nonneg h] at this
  exact ⟨_, List.getElem_mem hlt, this, List.getElem?_eq_getElem hlt⟩
def DSd (n : Int) (v : DSend × DL1Rd) : Prop := VSend v.1 ∧ Rd n v.2
theorem d18 (n : Int) (r : DL1Rd) (c b : Int) (e xs : List DItem) (h : VSend ⟨b, xs⟩) (hr : Rd n r) : Wp (fun k => spec_l4Draw_l18 k r.b r.p c b e xs) (DSd n) := by
  refine Wp.step ?_
  simp only [spec_l4Draw_l18]
  refine Wp.bind (l4Copy_ok ⟨b, xs⟩ (by have := h.1; simp only at this ⊢; omega)) (fun r2 q => ?_); rw [q]
  exact Wp.ret ⟨h, hr⟩
theorem d16 (n : Int) (r : DL1Rd) (c b m : Int) (e : List DItem) (hm : m ≤ 60) (hr : Rd n r) : ∀ (d : Nat) (xs : List DItem), VSend ⟨b, xs⟩ → d = (m - xs.length).toNat → Wp (fun k => spec_l4Draw_l16 k m r.b r.p c b e xs) (DSd n)
  | 0, xs, h, hd => by
    refine Wp.step ?_
    simp only [spec_l4Draw_l16]
    simp (disch := omega) only [cbdec, if_neg]
    exact d18 n r c b e xs h hr
  | d + 1, xs, h, hd => by
    refine Wp.step ?_
    simp only [spec_l4Draw_l16]
    obtain ⟨h1, h2, h3, h4⟩ := h
    simp only at h1 h2 h3
    simp (disch := omega) only [cbdec, if_pos, w64']
    refine Wp.ite (fun hb => ?_) (fun hb => d18 n r c b e xs ⟨h1, h2, h3, h4⟩ hr)
    refine Wp.opt (app_ok (by simp; omega)) ?_
    refine d16 n r c b m e hm hr d _ ⟨by simp; omega, h2, by simp; omega, okItems_app h4 ⟨⟨?_, by simp, fun _ => rfl, fun h => by simp at h⟩, trivial⟩⟩ (by simp; omega)
    show 1 ≤ 20
    omega
/-- how many answers the loop has drawn by then -/
theorem d3 : ∀ (d : Nat) (n : Int) (r : DL1Rd) (c b : Int) (e xs : List DItem), VSend ⟨b, xs⟩ → Rd n r → 0 ≤ n → n + 60 * d ≤ 500000 → Wp (fun k => spec_l4Draw_l3 k (d : Int) r.b r.p c b e xs) (DSd (n + 60 * d + 10))
  | 0, n, r, c, b, e, xs, h, hr, hn0, hn => by
    refine Wp.step ?_
    simp only [spec_l4Draw_l3]
    simp (disch := omega) only [cbdec, if_neg, cbeq]
    refine Wp.bind (pick_ok r n 12 hr (by omega) (by omega)) ?_
    rintro ⟨q, r1⟩ ⟨hq, hr1⟩
    simp only
    refine Wp.ite (fun _ => ?_) (fun _ => d18 _ r1 c b e xs h (hr1.mono (by omega)))
    refine Wp.bind (pick_ok r1 _ 3 hr1 (by omega) (by omega)) ?_
    rintro ⟨q2, r2⟩ ⟨hq2, hr2⟩
    simp only at hq2 ⊢
    rw [w64' (by omega) (by omega)]
    exact d16 _ r2 c b _ e (by omega) (hr2.mono (by omega)) _ xs h rfl
  | d + 1, n, r, c, b, e, xs, h, hr, hn0, hn => by
    refine Wp.step ?_
    simp only [spec_l4Draw_l3, both_self]
    have hpos : ((d + 1 : Nat) : Int) > 0 := by omega
    simp only [cbdec, if_pos hpos]
    -- the next message
    have N4 : ∀ (n' : Int) (r' : DL1Rd) (b' : Int) (xs' : List DItem), VSend ⟨b', xs'⟩ → Rd n' r' → n' ≤ n + 60 → Wp (fun k => spec_l4Draw_l4 k ((d + 1 : Nat) : Int) r'.b r'.p c b' e xs') (DSd (n + 60 * (d + 1 : Nat) + 10)) := fun n' r' b' xs' hv hr' hn' => by
      refine Wp.step ?_
      simp only [spec_l4Draw_l4]
      rw [w64' (by omega) (by omega), show ((d + 1 : Nat) : Int) - 1 = (d : Int) by omega]
      exact (d3 d (n + 60) r' c b' e xs' hv (hr'.mono hn') (by omega) (by omega)).mono fun v hv => ⟨hv.1, hv.2.mono (by omega)⟩
    have N9 : ∀ (j : Nat) (n' : Int) (r' : DL1Rd) (b' : Int) (xs' : List DItem), j ≤ 10 → VSend ⟨b', xs'⟩ → Rd n' r' → n' ≤ n + 50 → Wp (fun k => spec_l4Draw_l9 k ((d + 1 : Nat) : Int) (j : Int) r'.b r'.p c b' e xs') (DSd (n + 60 * (d + 1 : Nat) + 10)) := by
      intro j
      induction j with
      | zero =>
        intro n' r' b' xs' hj hv hr' hn'
        refine Wp.step ?_
        simp only [spec_l4Draw_l9]
        simp (disch := omega) only [cbdec, if_neg, cbeq]
        refine Wp.bind (pick_ok r' n' 3 hr' (by omega) (by omega)) ?_
        rintro ⟨q, r1⟩ ⟨hq, hr1⟩
        simp only
        refine Wp.ite (fun _ => ?_) (fun _ => N4 _ r1 b' xs' hv hr1 (by omega))
        refine Wp.bind (pick_ok r1 _ 4 hr1 (by omega) (by omega)) ?_
        rintro ⟨q2, r2⟩ ⟨hq2, hr2⟩
        refine Wp.bind (pick_ok r2 _ 256 hr2 (by omega) (by omega)) ?_
        rintro ⟨q3, r3⟩ ⟨hq3, hr3⟩
        refine Wp.bind (specWord_ok _ _ _) (fun _ q => ?_); subst q
        exact N4 _ r3 _ _ (wordM_ok _ _ _) hr3 (by omega)
      | succ j ih =>
        intro n' r' b' xs' hj hv hr' hn'
        refine Wp.step ?_
        simp only [spec_l4Draw_l9]
        have hpos : ((j + 1 : Nat) : Int) > 0 := by omega
        simp only [cbdec, if_pos hpos]
        refine Wp.bind (specTick_ok _) (fun _ q => ?_); subst q
        rw [w64' (by omega) (by omega), show ((j + 1 : Nat) : Int) - 1 = (j : Int) by omega]
        exact ih n' r' _ _ (by omega) (tickM_ok _).1 hr' hn'
    have N8 : ∀ (n' : Int) (r' : DL1Rd) (b' : Int) (xs' : List DItem), VSend ⟨b', xs'⟩ → Rd n' r' → n' ≤ n + 45 → Wp (fun k => spec_l4Draw_l8 k ((d + 1 : Nat) : Int) r'.b r'.p c b' e xs') (DSd (n + 60 * (d + 1 : Nat) + 10)) := fun n' r' b' xs' hv hr' hn' => by
      refine Wp.step ?_
      simp only [spec_l4Draw_l8]
      refine Wp.bind (pick_ok r' n' 6 hr' (by omega) (by omega)) ?_
      rintro ⟨q, r1⟩ ⟨hq, hr1⟩
      simp only at hq ⊢
      have := N9 q.toNat _ r1 b' xs' (by omega) hv hr1 (by omega)
      rwa [Int.toNat_of_nonneg hq.1] at this
    refine Wp.bind (message_ok r n hr (by omega)) ?_
    rintro ⟨u, r1⟩ ⟨hu, hr1⟩
    refine Wp.bind (specPush_ok _ _) (fun _ q => ?_); subst q
    simp only [cbeq]
    exact Wp.ite (fun _ => N8 _ r1 _ _ (pushM_ok _ _) hr1 (by omega)) (fun _ => N8 _ r1 _ _ h hr1 (by omega))
def RdOnly (n : Int) (v : DSend × DL1Rd) : Prop := Rd n v.2
theorem p21 (n : Int) (r : DL1Rd) (c b : Int) (e xs : List DItem) (hr : Rd n r) : Wp (fun k => spec_l4Spoil_l21 k r.b r.p c b e xs) (RdOnly n) := by
  refine Wp.step ?_
  simp only [spec_l4Spoil_l21]
  exact Wp.ret hr
theorem p19 (n : Int) (r : DL1Rd) (c b m : Int) (e : List DItem) (hm : m ≤ 100) (hr : Rd n r) : ∀ (d : Nat) (xs : List DItem), xs.length ≤ 200 → d = (m - xs.length).toNat → Wp (fun k => spec_l4Spoil_l19 k m r.b r.p c b e xs) (RdOnly n)
  | 0, xs, h, hd => by
    refine Wp.step ?_
    simp only [spec_l4Spoil_l19]
    simp (disch := omega) only [cbdec, if_neg]
    exact p21 n r c b e xs hr
  | d + 1, xs, h, hd => by
    refine Wp.step ?_
    simp only [spec_l4Spoil_l19]
    simp (disch := omega) only [cbdec, if_pos]
    refine Wp.opt (app_ok (by simp; omega)) ?_
    exact p19 n r c b m e hm hr d _ (by simp; omega) (by simp; omega)
theorem p6 (n : Int) (r : DL1Rd) (c b : Int) (e : List DItem) (hr : Rd n r) (hn : n ≤ 900000) : ∀ (d : Nat) (xs : List DItem), xs.length ≤ 200 → d = 9 - xs.length → Wp (fun k => spec_l4Spoil_l6 k r.b r.p c b e xs) (RdOnly (n + 1))
  | 0, xs, h, hd => by
    refine Wp.step ?_
    simp only [spec_l4Spoil_l6]
    simp (disch := omega) only [cbdec, if_neg]
    refine Wp.bind (pick_ok r n 2 hr (by omega) (by omega)) ?_
    rintro ⟨q, r1⟩ ⟨hq, hr1⟩
    obtain ⟨y, _, e1, e2⟩ := idx_any (xs := xs) (i := 8) (by omega) (by omega)
    simp only [e1, e2, Option.bind_some]
    exact p21 _ r1 c b e _ hr1
  | d + 1, xs, h, hd => by
    refine Wp.step ?_
    simp only [spec_l4Spoil_l6]
    simp (disch := omega) only [cbdec, if_pos]
    refine Wp.opt (app_ok (by simp; omega)) ?_
    exact p6 n r c b e hr hn d _ (by simp; omega) (by simp; omega)
theorem p4 (n : Int) (r : DL1Rd) (c b : Int) (e xs : List DItem) (hr : Rd n r) (hn : n ≤ 890000) (hx : 0 < xs.length ∧ xs.length ≤ 100) : Wp (fun k => spec_l4Spoil_l4 k r.b r.p c b e xs) (RdOnly (n + 10)) := by
  have L : ∀ (n' : Int) (r' : DL1Rd) (b' : Int) (xs' : List DItem), Rd n' r' → n' ≤ n + 10 → Wp (fun k => spec_l4Spoil_l21 k r'.b r'.p c b' e xs') (RdOnly (n + 10)) := fun n' r' b' xs' h h' => p21 _ r' c b' e xs' (h.mono h')
  refine Wp.step ?_
  simp only [spec_l4Spoil_l4, both_self]
  refine Wp.bind (pick_ok r n (xs.length : Int) hr (by omega) (by omega)) ?_
  rintro ⟨q, r1⟩ ⟨hq, hr1⟩
  refine Wp.bind (pick_ok r1 _ 6 hr1 (by omega) (by omega)) ?_
  rintro ⟨q2, r2⟩ ⟨hq2, hr2⟩
  simp only at hq hq2
  obtain ⟨y, _, e1, e2⟩ := idx_any (xs := xs) hq.1 hq.2
  simp only [e1, e2, Option.bind_some, cbeq]
  refine Wp.ite (fun _ => ?_) (fun _ => ?_)
  · refine Wp.bind (pick_ok r2 _ 3 hr2 (by omega) (by omega)) ?_
    rintro ⟨q3, r3⟩ ⟨hq3, hr3⟩
    simp only at hq3
    obtain ⟨z, _, f1, f2⟩ := idx_any (xs := ([(-1), 1000000, 1000001] : List Int)) hq3.1 (by simp; omega)
    simp only [f1, f2, Option.bind_some]
    exact L _ r3 _ _ hr3 (by omega)
  refine Wp.ite (fun _ => ?_) (fun _ => ?_)
  · refine Wp.bind (pick_ok r2 _ 5 hr2 (by omega) (by omega)) ?_
    rintro ⟨q3, r3⟩ ⟨hq3, hr3⟩
    simp only at hq3
    obtain ⟨z, _, f1, f2⟩ := idx_any (xs := ([(-2), (-1), 0, 3, 4] : List Int)) hq3.1 (by simp; omega)
    simp only [f1, f2, Option.bind_some]
    exact L _ r3 _ _ hr3 (by omega)
  refine Wp.ite (fun _ => L _ r2 _ _ hr2 (by omega)) (fun _ => ?_)
  refine Wp.ite (fun _ => ?_) (fun _ => ?_)
  · refine Wp.bind (pick_ok r2 _ 2 hr2 (by omega) (by omega)) ?_
    rintro ⟨q3, r3⟩ ⟨hq3, hr3⟩
    simp only at hq3 ⊢
    rw [w64' (by omega) (by omega)]
    refine Wp.bind (many_ok _ _ 100 (by omega) (by show 1 * _ ≤ 100; omega) (by omega)) (fun u hu => ?_)
    exact L _ r3 _ _ hr3 (by omega)
  refine Wp.ite (fun _ => ?_) (fun _ => ?_)
  · refine Wp.bind (pick_ok r2 _ 2 hr2 (by omega) (by omega)) ?_
    rintro ⟨q3, r3⟩ ⟨hq3, hr3⟩
    simp only at hq3 ⊢
    rw [w64' (by omega) (by omega)]
    exact p19 _ r3 c b _ e (by omega) (hr3.mono (by omega)) _ xs (by omega) rfl
  · exact (p6 _ r2 c b e hr2 (by omega) _ xs (by omega) rfl).mono fun v hv => Rd.mono hv (by omega)
end Km.X
namespace Km.X
open Go Km
set_option linter.unusedVariables false
set_option linter.unusedSimpArgs false
/-! ### what is written is read back -/
def dl (b : ByteArray) : List UInt8 := b.data.toList
theorem dl_append (a b : ByteArray) : dl (a ++ b) = dl a ++ dl b := by unfold dl; rw [ByteArray.data_append, Array.toList_append]
theorem dl_inj {a b : ByteArray} (h : dl a = dl b) : a = b := by
  apply ByteArray.ext; apply Array.ext'; exact h
theorem dl_size (b : ByteArray) : (dl b).length = b.size := by unfold dl; rw [Array.length_toList]; rfl
theorem dl_bstr (bs : List Int) : dl (bstr bs) = bs.map fun n => UInt8.ofNat n.toNat := by
  induction bs with
  | nil => rfl
  | cons b bs ih =>
    rw [← bstr_cons, dl_append, ih]
    rfl
theorem dl_extract (b : ByteArray) (i j : Nat) : dl (b.extract i j) = (dl b).extract i j := by
  simp [dl]
def dg (w n : Nat) : List UInt8 := (bytesL w n).map fun n => UInt8.ofNat n.toNat
theorem dg_length (w n : Nat) : (dg w n).length = w := by simp [dg, bytesL_length]
theorem dl_N (w : Nat) (x : Int) : dl (N w x) = dg w x.toNat := by rw [N, dl_bstr]; rfl
theorem byte_nat (m : Nat) : (UInt8.ofNat ((m % 256 : Nat) : Int).toNat).toNat = m % 256 := by
  rw [Int.toNat_natCast, UInt8.toNat_ofNat']; omega
theorem num_dg : ∀ (w n : Nat), n < 256 ^ w → numL (dg w n) = (n : Int)
  | 0, n, h => by
    have : n = 0 := by simpa using h
    subst this; rfl
  | w + 1, n, h => by
    have ih := num_dg w (n / 256) (by rw [Nat.pow_succ] at h; omega)
    unfold numL dg at *
    simp only [bytesL, List.map_append, List.foldl_append, ih]
    simp only [List.map_cons, List.map_nil, List.foldl_cons, List.foldl_nil, byte_nat]
    omega
theorem dg1 (n : Nat) : dg 1 n = [UInt8.ofNat ((n % 256 : Nat) : Int).toNat] := rfl
theorem at_list {b : ByteArray} {l : List UInt8} (h : dl b = l) (i : Nat) : at' b i = l.getD i 0 := by unfold at'; rw [← h]; rfl
theorem numS_list {b : ByteArray} {l : List UInt8} (h : dl b = l) (i j : Nat) : numS b i j = numL (l.extract i j) := by
  unfold numS; rw [← h, ← dl_extract]; rfl
theorem dg_split (a : Nat) (w n : Nat) (l r : List UInt8) (h : l.length = a) : (l ++ (dg w n ++ r)).extract a (a + w) = dg w n := by
  rw [List.extract_eq_take_drop, List.drop_left' h, show a + w - a = w by omega, List.take_left' (dg_length w n)]
theorem get_split (a : Nat) (n : Nat) (l r : List UInt8) (h : l.length = a) : (l ++ (dg 1 n ++ r)).getD a 0 = UInt8.ofNat ((n % 256 : Nat) : Int).toNat := by
  rw [List.getD_eq_getElem?_getD, List.getElem?_append_right (by omega), h, Nat.sub_self, dg1]; rfl
theorem extract_all (b : ByteArray) (i : Nat) : dl (b.extract i b.size) = (dl b).drop i := by
  rw [dl_extract, List.extract_eq_take_drop, List.take_of_length_le]
  simp [dl_size]
theorem cand_body (p : DPacket) (h : Fits p) : candP (bodyP p) = p := by
  obtain ⟨k, fr, mi, yo, ne, ma, se, la, pa⟩ := p
  obtain ⟨h1, h2, h3, h4⟩ := h
  dsimp only at h1 h2 h3 h4
  have hk : k = 1 ∨ k = 2 := by rcases h4 with h | h <;> omega
  have hfr : ((fr.toNat % 256 : Nat) : Int) = fr := by omega
  -- the head
  have hd : ∀ rest, dl (headP ⟨k, fr, mi, yo, ne, ma, se, la, pa⟩ ++ rest) = dg 1 k.toNat ++ (dg 1 fr.toNat ++ (dg 2 mi.toNat ++ (dg 2 yo.toNat ++ dl rest))) := fun rest => by
    simp only [headP, dl_append, dl_N, List.append_assoc]
  have len : ∀ w n, (dg w n).length = w := dg_length
  have main : ∀ (b : ByteArray) (x y : Nat) (tail : List UInt8), dl b = dg 1 k.toNat ++ (dg 1 fr.toNat ++ (dg 2 mi.toNat ++ (dg 2 yo.toNat ++ (dg 4 x ++ (dg 1 y ++ tail))))) →
      ((at' b 0).toNat : Int) = k ∧ ((at' b 1).toNat : Int) = fr ∧ numS b 2 4 = mi ∧ numS b 4 6 = yo ∧ (x < 256 ^ 4 → numS b 6 10 = (x : Int)) ∧ ((at' b 10).toNat : Int) = ((y % 256 : Nat) : Int) ∧ (dl b).drop 11 = tail := fun b x y tail hb => by
    refine ⟨?_, ?_, ?_, ?_, fun hx => ?_, ?_, ?_⟩
    · rw [at_list hb]
      have := get_split 0 k.toNat [] (dg 1 fr.toNat ++ (dg 2 mi.toNat ++ (dg 2 yo.toNat ++ (dg 4 x ++ (dg 1 y ++ tail))))) rfl
      rw [List.nil_append] at this
      rw [this, byte_nat]; omega
    · rw [at_list hb, get_split 1 fr.toNat (dg 1 k.toNat) _ (len _ _), byte_nat]; omega
    · rw [numS_list hb]
      have e : dg 1 k.toNat ++ (dg 1 fr.toNat ++ (dg 2 mi.toNat ++ (dg 2 yo.toNat ++ (dg 4 x ++ (dg 1 y ++ tail))))) = (dg 1 k.toNat ++ dg 1 fr.toNat) ++ (dg 2 mi.toNat ++ (dg 2 yo.toNat ++ (dg 4 x ++ (dg 1 y ++ tail)))) := by simp
      rw [e, dg_split 2 2 mi.toNat _ _ (by simp [len]), num_dg 2 _ (by have : (256:Nat)^2 = 65536 := rfl; omega)]; omega
    · rw [numS_list hb]
      have e : dg 1 k.toNat ++ (dg 1 fr.toNat ++ (dg 2 mi.toNat ++ (dg 2 yo.toNat ++ (dg 4 x ++ (dg 1 y ++ tail))))) = (dg 1 k.toNat ++ dg 1 fr.toNat ++ dg 2 mi.toNat) ++ (dg 2 yo.toNat ++ (dg 4 x ++ (dg 1 y ++ tail))) := by simp
      rw [e, dg_split 4 2 yo.toNat _ _ (by simp [len]), num_dg 2 _ (by have : (256:Nat)^2 = 65536 := rfl; omega)]; omega
    · rw [numS_list hb]
      have e : dg 1 k.toNat ++ (dg 1 fr.toNat ++ (dg 2 mi.toNat ++ (dg 2 yo.toNat ++ (dg 4 x ++ (dg 1 y ++ tail))))) = (dg 1 k.toNat ++ dg 1 fr.toNat ++ dg 2 mi.toNat ++ dg 2 yo.toNat) ++ (dg 4 x ++ (dg 1 y ++ tail)) := by simp
      rw [e, dg_split 6 4 x _ _ (by simp [len]), num_dg 4 _ hx]
    · have e : dg 1 k.toNat ++ (dg 1 fr.toNat ++ (dg 2 mi.toNat ++ (dg 2 yo.toNat ++ (dg 4 x ++ (dg 1 y ++ tail))))) = (dg 1 k.toNat ++ dg 1 fr.toNat ++ dg 2 mi.toNat ++ dg 2 yo.toNat ++ dg 4 x) ++ (dg 1 y ++ tail) := by simp
      rw [at_list hb, e, get_split 10 y _ _ (by simp [len]), byte_nat]
    · rw [hb]
      have e : dg 1 k.toNat ++ (dg 1 fr.toNat ++ (dg 2 mi.toNat ++ (dg 2 yo.toNat ++ (dg 4 x ++ (dg 1 y ++ tail))))) = (dg 1 k.toNat ++ dg 1 fr.toNat ++ dg 2 mi.toNat ++ dg 2 yo.toNat ++ dg 4 x ++ dg 1 y) ++ tail := by simp
      rw [e, List.drop_left' (by simp [len])]
  have p4 : (256:Nat)^4 = 4294967296 := rfl
  rcases h4 with ⟨k1, g1, g2, g3, g4, g5⟩ | ⟨k2, g1, g2, g3, g4⟩
  · have hb : dl (bodyP ⟨k, fr, mi, yo, ne, ma, se, la, pa⟩) = dg 1 k.toNat ++ (dg 1 fr.toNat ++ (dg 2 mi.toNat ++ (dg 2 yo.toNat ++ (dg 4 ne.toNat ++ (dg 1 ma.toNat ++ []))))) := by
      unfold bodyP; rw [if_pos k1, ba_assoc, hd, dl_append, dl_N, dl_N, List.append_nil]
    obtain ⟨a1, a2, a3, a4, a5, a6, a7⟩ := main _ _ _ _ hb
    unfold candP
    rw [if_pos (by rw [a1]; exact k1), a1, a2, a3, a4, a5 (by omega), a6]
    subst g3; subst g4; subst g5
    congr 1 <;> omega
  · have hb : dl (bodyP ⟨k, fr, mi, yo, ne, ma, se, la, pa⟩) = dg 1 k.toNat ++ (dg 1 fr.toNat ++ (dg 2 mi.toNat ++ (dg 2 yo.toNat ++ (dg 4 se.toNat ++ (dg 1 (lastI la).toNat ++ dl pa))))) := by
      unfold bodyP; rw [if_neg (by show ¬ k = 1; omega)]
      rw [show headP ⟨k, fr, mi, yo, ne, ma, se, la, pa⟩ ++ N 4 se ++ N 1 (lastI la) ++ pa = headP ⟨k, fr, mi, yo, ne, ma, se, la, pa⟩ ++ (N 4 se ++ (N 1 (lastI la) ++ pa)) by rw [ba_assoc, ba_assoc], hd]
      simp only [dl_append, dl_N]
    obtain ⟨a1, a2, a3, a4, a5, a6, a7⟩ := main _ _ _ _ hb
    unfold candP
    rw [if_neg (by rw [a1]; omega), a1, a2, a3, a4, a5 (by omega), a6]
    have epa : (bodyP ⟨k, fr, mi, yo, ne, ma, se, la, pa⟩).extract 11 (bodyP ⟨k, fr, mi, yo, ne, ma, se, la, pa⟩).size = pa := dl_inj (by rw [extract_all, a7])
    rw [epa]
    have ela : (((((lastI la).toNat % 256 : Nat) : Int)) == 1) = la := by cases la <;> rfl
    rw [ela]
    subst g1; subst g2
    congr 1; omega
theorem tagM_sz (a b : ByteArray) (w : Int) (hw : 1 ≤ w ∧ w ≤ 8) (hb : b.size ≤ 30) : (tagM a b w).size = w.toNat := by
  unfold tagM; rw [if_neg (by omega), bstr_size, bytesL_length]
theorem body_min (p : DPacket) (h : Fits p) : 11 ≤ (bodyP p).size := by
  have hs := headP_size p
  unfold bodyP
  split <;> simp [N_size, hs] <;> omega
theorem form_eq {p : DPacket} {b : ByteArray} {w : Int} (h : Fits p) (hw : 1 ≤ w ∧ w ≤ 8) (hb : b.size ≤ 30) : formM p b w = tagM (bodyP p) b w ++ bodyP p := by
  unfold formM; rw [if_pos ⟨h, hw, hb⟩]
theorem form_size {p : DPacket} {b : ByteArray} {w : Int} (h : Fits p) (hw : 1 ≤ w ∧ w ≤ 8) (hb : b.size ≤ 30) : (formM p b w).size = w.toNat + (bodyP p).size := by
  rw [form_eq h hw hb, ba_size_append, tagM_sz _ _ _ hw hb]
theorem form_rest {p : DPacket} {b : ByteArray} {w : Int} (h : Fits p) (hw : 1 ≤ w ∧ w ≤ 8) (hb : b.size ≤ 30) : (formM p b w).extract w.toNat (formM p b w).size = bodyP p := by
  apply dl_inj
  rw [extract_all, form_eq h hw hb, dl_append, List.drop_left']
  rw [dl_size, tagM_sz _ _ _ hw hb]
theorem read_form {p : DPacket} {b : ByteArray} {w : Int} (h : Fits p) (hw : 1 ≤ w ∧ w ≤ 8) (hb : b.size ≤ 30) : readM (formM p b w) b w = (p, true) := by
  unfold readM
  have := body_min p h
  rw [if_pos ⟨hw, by rw [form_size h hw hb]; omega⟩, form_rest h hw hb, cand_body p h, if_pos rfl]
/-- what reads is the form of what was read -/
theorem readM_true {s b : ByteArray} {w : Int} (h : (readM s b w).2 = true) : formM (readM s b w).1 b w = s ∧ Fits (readM s b w).1 ∧ (1 ≤ w ∧ w ≤ 8) ∧ w + 11 ≤ s.size ∧ b.size ≤ 30 := by
  unfold readM at h ⊢
  split at h
  · rename_i hc
    rw [if_pos hc]
    split at h
    · rename_i hf
      rw [if_pos hf]
      refine ⟨hf, ?_⟩
      have : ¬ ¬ (Fits (candP (s.extract w.toNat s.size)) ∧ b.size ≤ 30) := fun hn => form_no (s := s) hn (by omega) hf
      have := Classical.not_not.mp this
      exact ⟨this.1, hc.1, hc.2, this.2⟩
    · cases h
  · cases h
end Km.X
namespace Km.X
open Go Km
set_option linter.unusedVariables false
set_option linter.unusedSimpArgs false
/-! ### picks -/
theorem Wp.pick {R : Type} {Q : R → Prop} {g : Nat → Int × DL1Rd → Option R} {r : DL1Rd} {n a : Int} (h : Rd n r) (hn : n ≤ 1000000) (ha : 1 ≤ a ∧ a ≤ 1000000) (H : ∀ q r', 0 ≤ q → q < a → Rd (n + 1) r' → Wp (fun k => g k (q, r')) Q) : Wp (fun k => (spec_l1Rd_pick k r a).bind (g k)) Q :=
  Wp.bind (pick_ok r n a h hn ha) (fun v hv => H v.1 v.2 hv.1.1 hv.1.2 hv.2)
theorem Wp.from {R α : Type} {Q : R → Prop} {xs : List α} {i : Int} {g : Nat → α → Option R} (h0 : 0 ≤ i) (h1 : i < xs.length) (H : ∀ y ∈ xs, Wp (fun k => g k y) Q) : Wp (fun k => (idx xs i).bind (g k)) Q := by
  obtain ⟨y, hy, e, _⟩ := idx_any h0 h1
  exact Wp.opt e (H y hy)
theorem Wp.from2 {R α : Type} {Q : R → Prop} {xs : List α} {i : Int} {g : Nat → α → Option R} (h0 : 0 ≤ i) (h1 : i < xs.length) (H : ∀ y ∈ xs, Wp (fun k => g k y) Q) : Wp (fun k => (idx xs i).bind fun _ => (xs[i.toNat]?).bind (g k)) Q := by
  obtain ⟨y, hy, e, e'⟩ := idx_any h0 h1
  exact Wp.opt e (Wp.opt e' (H y hy))
theorem key_ok (r : DL1Rd) (n : Int) (h : Rd n r) (hn : n ≤ 900000) : Wp (fun k => spec_l1Key k r) (fun v => v.1.size ≤ 30 ∧ Rd (n + 1) v.2) := by
  unfold spec_l1Key
  refine Wp.bind (many_ok _ _ 30 (by omega) (by show 1 * 30 ≤ 30; omega) (by omega)) (fun m hm => ?_)
  refine Wp.pick h (by omega) (by omega) (fun q r' q0 q1 h' => ?_)
  dsimp only
  refine Wp.from2 q0 (by simp; omega) (fun y hy => ?_)
  refine Wp.ret ⟨?_, h'⟩
  simp only [List.mem_cons, List.not_mem_nil, or_false] at hy
  rcases hy with rfl | rfl | rfl | rfl
  · exact (by decide : (3 : Nat) ≤ 30)
  · exact (by decide : (1 : Nat) ≤ 30)
  · exact (by decide : (0 : Nat) ≤ 30)
  · exact hm
theorem width_ok (r : DL1Rd) (n : Int) (h : Rd n r) (hn : n ≤ 900000) : Wp (fun k => spec_l1Width k r) (fun v => (1 ≤ v.1 ∧ v.1 ≤ 8) ∧ Rd (n + 1) v.2) := by
  unfold spec_l1Width
  refine Wp.pick h (by omega) (by omega) (fun q r' q0 q1 h' => ?_)
  dsimp only
  refine Wp.from q0 (by simp; omega) (fun y hy => ?_)
  refine Wp.ret ⟨?_, h'⟩
  simp only [List.mem_cons, List.not_mem_nil, or_false] at hy
  omega
/-! ### drawn packets -/
end Km.X
namespace Km.X
open Go Km
set_option linter.unusedVariables false
set_option linter.unusedSimpArgs false
/-! ### worlds that events lead to -/
def newW (b : ByteArray) (wd : Int) : DWorld := if (1 ≤ wd ∧ wd ≤ 8) ∧ b.size ≤ 30 then ⟨b, wd, [newM 1, newM 2], [], noB, [], []⟩ else noWorld
theorem specNewW_ok (b : ByteArray) (wd : Int) : Wp (fun k => spec_NewWorld k b wd) (· = newW b wd) := by
  unfold spec_NewWorld newW
  refine Wp.bind (l1In_ok _ _ _) (fun _ e => ?_); subst e
  refine Wp.not (fun h => ?_) (fun h => ?_)
  · simp only [Bool.and_eq_false_iff, decide_eq_false_iff_not] at h
    exact Wp.ret (by rw [if_neg (fun g => by omega)]; rfl)
  simp only [Bool.and_eq_true, decide_eq_true_eq] at h
  refine Wp.dec (fun h1 => Wp.ret (by rw [if_neg (fun g => by omega)]; rfl)) (fun h1 => ?_)
  refine Wp.bind (specNew_ok 1) (fun _ e => ?_); subst e
  refine Wp.bind (specNew_ok 2) (fun _ e => ?_); subst e
  exact Wp.ret (by rw [if_pos ⟨h, by omega⟩])
theorem newE_V : VEnd (newM 1) ∧ VEnd (newM 2) := by decide
theorem newW_V {b : ByteArray} {wd : Int} (hb : b.size ≤ 30) (hw : 1 ≤ wd ∧ wd ≤ 8) : VWorld (newW b wd) := by
  unfold newW
  rw [if_pos ⟨hw, hb⟩]
  exact ⟨hw, hb, by simp, by simp, vends_of newE_V.1 rfl newE_V.2 rfl, (fun p hp => by cases hp), (fun p hp => by cases hp), (fun p hp => by cases hp)⟩
/-- reached with so many falls and so many steps -/
inductive Reach : Nat → Nat → DWorld → Prop
  | new {b : ByteArray} {wd : Int} : b.size ≤ 30 → (1 ≤ wd ∧ wd ≤ 8) → Reach 0 0 (newW b wd)
  | step {n m : Nat} {w : DWorld} (v : DEvent) : Reach n m w → Reach (n + if v.Kind = 8 then 1 else 0) (m + 1) (doW w v)
  | more {n m n' m' : Nat} {w : DWorld} : n ≤ n' → m ≤ m' → Reach n m w → Reach n' m' w
theorem Reach.V {n m : Nat} {w : DWorld} (h : Reach n m w) : VWorld w := by
  induction h with
  | new h1 h2 => exact newW_V h1 h2
  | step v _ ih => exact doW_V ih v
  | more _ _ _ ih => exact ih
theorem Reach.go {n m : Nat} {w : DWorld} (h : Reach n m w) {v : DEvent} (hv : v.Kind ≠ 8) : Reach n (m + 1) (doW w v) := by
  have := Reach.step v h
  rw [if_neg hv] at this
  exact this
theorem doW_tick (w : DWorld) (x y z : Int) (t : ByteArray) : doW w ⟨1, x, y, z, t⟩ = tickW w := by unfold doW; rw [if_pos rfl]
theorem doW_pull (w : DWorld) {n : Int} (hn : 1 ≤ n ∧ n ≤ 2) (y z : Int) (t : ByteArray) : doW w ⟨11, n, y, z, t⟩ = pullW w n := by
  rw [doW_end (by dsimp only; omega) hn, endDo_pull]
theorem doW_bring0 (w : DWorld) (p : DParcel) (t : List DParcel) : doW (setFl w (p :: t)) ⟨2, 0, 0, 0, noB⟩ = setFl (bringW w p) t := by
  rw [doW_par (p := p) (by dsimp only; omega) (by dsimp only; omega) rfl, ← bring_setFl]
  rfl
theorem doW_lose0 (w : DWorld) (p : DParcel) (t : List DParcel) : doW (setFl w (p :: t)) ⟨4, 0, 0, 0, noB⟩ = setFl w t := by
  rw [doW_par (p := p) (by dsimp only; omega) (by dsimp only; omega) rfl]
  rfl
theorem setFl_fl_nil (w : DWorld) (h : w.Flight = []) : setFl w [] = w := by rw [← h]; rfl
theorem reach_flow {n : Nat} (ev : Int) : ∀ (t : List DParcel) (h : List DKey) (w : DWorld) (m : Nat), Reach n m (setFl w t) → Reach n (m + t.length) (setFl (flowW ev t h w).1 [])
  | [], h, w, m, hr => hr
  | p :: t, h, w, m, hr => by
    simp only [flowW]
    rw [show m + (p :: t).length = (m + 1) + t.length by simp; omega]
    apply reach_flow ev t
    split
    · rw [← doW_bring0]; exact hr.go (by simp)
    · rw [← doW_lose0 w p t]; exact hr.go (by simp)
theorem reach_pulls {n : Nat} {m : Int} (hm : 1 ≤ m ∧ m ≤ 2) : ∀ (d : Nat) (w : DWorld) (s : Nat), Reach n s w → Reach n (s + d) (pullsW m d w)
  | 0, w, s, h => h
  | d + 1, w, s, h => by
    simp only [pullsW]
    split
    · exact .more (Nat.le_refl _) (by omega) h
    · rw [show s + (d + 1) = (s + 1) + d by omega]
      apply reach_pulls hm d
      rw [← doW_pull w hm 0 0 noB]; exact h.go (by simp)
theorem reach_round {n m : Nat} {ev : Int} {s : DWorld × List DKey} (h : Reach n m s.1) : Reach n (m + 1009) (roundW ev s).1 := by
  have hl := (tickW_V h.V).2.2.1
  have h1 : Reach n (m + 1) (tickW s.1) := by rw [← doW_tick s.1 0 0 0 noB]; exact h.go (by simp)
  have h2 := reach_flow ev (tickW s.1).Flight s.2 (setFl (tickW s.1) []) _ h1
  have h3 : setFl (flowW ev (tickW s.1).Flight s.2 (setFl (tickW s.1) [])).1 [] = (flowW ev (tickW s.1).Flight s.2 (setFl (tickW s.1) [])).1 := by
    have := flowW_fl ev (tickW s.1).Flight s.2 (setFl (tickW s.1) [])
    rw [show ([] : List DParcel) = (flowW ev (tickW s.1).Flight s.2 (setFl (tickW s.1) [])).1.Flight from this.symm]
    rw [this]
    exact setFl_fl_nil _ this
  rw [h3] at h2
  exact .more (Nat.le_refl _) (by omega) (reach_pulls (by omega) 4 _ _ (reach_pulls (by omega) 4 _ _ h2))
theorem reach_rounds {n : Nat} {ev : Int} : ∀ (d : Nat) (s : DWorld × List DKey) (m : Nat), Reach n m s.1 → Reach n (m + 1009 * d) (roundsW ev d s).1
  | 0, s, m, h => h
  | d + 1, s, m, h => .more (Nat.le_refl _) (by omega) (reach_rounds d _ _ (reach_round h))
theorem reach_calm {n s : Nat} {w : DWorld} (h : Reach n s w) (m ev : Int) (he : 1 ≤ ev ∧ ev ≤ 10) : Reach n (s + 1009 * m.toNat) (calmM w m ev) := by
  unfold calmM
  rw [if_pos ⟨h.V, he⟩]
  exact .more (Nat.le_refl _) (by have : (min m 5000).toNat ≤ m.toNat := by omega
                                  have := Nat.mul_le_mul_left 1009 this
                                  omega) (reach_rounds _ _ _ h)
theorem vw_hist {w : DWorld} (h : VWorld w) : w.Given.length ≤ 1048576 ∧ w.Taken.length ≤ 1048576 := by
  have := h.2.2.2.1; omega
/-! ### drawn events -/
def EvP (n : Int) (v : DEvent × DL1Rd) : Prop := (v.1.Text.size ≤ 190 ∧ (1 ≤ v.1.Kind ∧ v.1.Kind ≤ 11)) ∧ Rd n v.2
theorem ev17 (a m : Int) (r : DL1Rd) (h : Rd m r) : Wp (fun k => spec_l7Event_l17 k a r.b r.p 0 0 0 0 noB) (EvP m) := by
  refine Wp.step ?_
  simp only [spec_l7Event_l17]
  exact Wp.ret ⟨⟨Nat.zero_le _, by dsimp only; omega⟩, h⟩
theorem ev20 (a m : Int) (r : DL1Rd) (h : Rd m r) : Wp (fun k => spec_l7Event_l20 k a r.b r.p 0 0 0 0 noB) (EvP m) := by
  refine Wp.step ?_
  simp only [spec_l7Event_l20]
  exact Wp.ret ⟨⟨Nat.zero_le _, by dsimp only; omega⟩, h⟩
theorem ev21 (a e kk n m : Int) (r : DL1Rd) (h : Rd n r) (hn : n ≤ 900000) (hm : n + 2 ≤ m) : Wp (fun k => spec_l7Event_l21 k a e kk r.b r.p 0 0 0 0 noB) (EvP m) := by
  refine Wp.step ?_
  simp only [spec_l7Event_l21, cbeq]
  refine Wp.ite (fun _ => ?_) (fun _ => ?_)
  · refine Wp.pick h (by omega) (by omega) (fun q r' q0 q1 h' => ?_)
    refine Wp.pick h' (by omega) (by omega) (fun q r' q0 q1 h' => ?_)
    exact Wp.ret ⟨⟨Nat.zero_le _, by dsimp only; omega⟩, h'.mono (by omega)⟩
  refine Wp.ite (fun _ => ?_) (fun _ => ?_)
  · refine Wp.pick h (by omega) (by omega) (fun q r' q0 q1 h' => ?_)
    exact Wp.ret ⟨⟨Nat.zero_le _, by dsimp only; omega⟩, h'.mono (by omega)⟩
  refine Wp.ite (fun _ => ?_) (fun _ => ?_)
  · exact Wp.ret ⟨⟨Nat.zero_le _, by dsimp only; omega⟩, h.mono (by omega)⟩
  refine Wp.ite (fun _ => ?_) (fun _ => ?_)
  · exact Wp.ret ⟨⟨Nat.zero_le _, by dsimp only; omega⟩, h.mono (by omega)⟩
  · exact Wp.ret ⟨⟨Nat.zero_le _, by dsimp only; omega⟩, h.mono (by omega)⟩
theorem ev5 (a kk n m : Int) (r : DL1Rd) (h : Rd n r) (hn : 0 ≤ n ∧ n ≤ 700000) (hm : n + 45 ≤ m) : Wp (fun k => spec_l7Event_l5 k kk a r.b r.p 0 0 0 0 noB) (EvP m) := by
  refine Wp.step ?_
  simp only [spec_l7Event_l5]
  refine Wp.pick h (by omega) (by omega) (fun q r1 q0 q1 h1 => ?_)
  simp only [cbdec, cbeq]
  refine Wp.ite (fun _ => ?_) (fun _ => ?_)
  · exact Wp.ret ⟨⟨Nat.zero_le _, by dsimp only; omega⟩, h1.mono (by omega)⟩
  refine Wp.ite (fun _ => ?_) (fun _ => ?_)
  · exact Wp.ret ⟨⟨Nat.zero_le _, by dsimp only; omega⟩, h1.mono (by omega)⟩
  refine Wp.ite (fun _ => ?_) (fun _ => ?_)
  · refine Wp.bind (message_ok r1 _ h1 (by omega)) (fun v hv => ?_)
    exact Wp.ret ⟨⟨hv.1, by dsimp only; omega⟩, hv.2.mono (by omega)⟩
  refine Wp.ite (fun _ => ?_) (fun _ => ?_)
  · exact Wp.ret ⟨⟨Nat.zero_le _, by dsimp only; omega⟩, h1.mono (by omega)⟩
  refine Wp.ite (fun _ => ev17 _ _ r1 (h1.mono (by omega))) (fun _ => ?_)
  refine Wp.ite (fun _ => ev17 _ _ r1 (h1.mono (by omega))) (fun _ => ?_)
  refine Wp.step ?_
  simp only [spec_l7Event_l18, cbeq]
  refine Wp.ite (fun _ => ev20 _ _ r1 (h1.mono (by omega))) (fun _ => ?_)
  refine Wp.ite (fun _ => ev20 _ _ r1 (h1.mono (by omega))) (fun _ => ?_)
  exact ev21 _ _ _ _ _ r1 h1 (by omega) (by omega)
theorem l7Event_ok (r : DL1Rd) (n : Int) (h : Rd n r) (hn : 0 ≤ n ∧ n ≤ 600000) : Wp (fun k => spec_l7Event k r) (EvP (n + 50)) := by
  unfold spec_l7Event
  refine Wp.pick h (by omega) (by omega) (fun q1 r1 q10 q11 h1 => ?_)
  refine Wp.pick h1 (by omega) (by omega) (fun q2 r2 q20 q21 h2 => ?_)
  refine Wp.pick h2 (by omega) (by omega) (fun q3 r3 q30 q31 h3 => ?_)
  simp only [cbeq]
  refine Wp.ite (fun _ => ?_) (fun _ => ?_)
  · refine Wp.pick h3 (by omega) (by omega) (fun q4 r4 q40 q41 h4 => ?_)
    exact ev5 _ _ _ _ r4 h4 (by omega) (by omega)
  · exact ev5 _ _ _ _ r3 h3 (by omega) (by omega)
/-! ### worlds that drawn events led to -/
def RchP (f s : Nat) (n : Int) (v : DWorld × DL1Rd) : Prop := Reach f s v.1 ∧ Rd n v.2
theorem rc_more {f g s u : Nat} {n m : Int} {v : DWorld × DL1Rd} (h : RchP f s n v) (hf : f ≤ g) (hs : s ≤ u) (hn : n ≤ m) : RchP g u m v := ⟨.more hf hs h.1, h.2.mono hn⟩
section
variable (a b : ByteArray) (z : Int) (E2 : List DEnd) (F2 : List DParcel) (G2 T2 : List DRecord)
theorem rc15 (x0 x1 : Int) (f s : Nat) (n : Int) (r : DL1Rd) (w : DWorld) (hw : Reach f s w) (hr : Rd n r) (hn : n ≤ 900000) (Q : DWorld × DL1Rd → Prop)
    (go : ∀ w' r', Reach f (s + 2) w' → Rd (n + 1) r' → Wp (fun k => spec_l7Reached_l6 k x0 (IntKind.wrap .i64 (x1 + 1)) r'.b r'.p a z b w'.Key w'.Width w'.Forged E2 F2 G2 T2 w'.Ends w'.Flight w'.Given w'.Taken) Q) :
    Wp (fun k => spec_l7Reached_l15 k x0 x1 r.b r.p a z b w.Key w.Width w.Forged E2 F2 G2 T2 w.Ends w.Flight w.Given w.Taken) Q := by
  have l7 : ∀ w' r', Reach f (s + 2) w' → Rd (n + 1) r' → Wp (fun k => spec_l7Reached_l7 k x0 x1 r'.b r'.p a z b w'.Key w'.Width w'.Forged E2 F2 G2 T2 w'.Ends w'.Flight w'.Given w'.Taken) Q := fun w' r' h1 h2 => by
    refine Wp.step ?_
    simp only [spec_l7Reached_l7]
    exact go w' r' h1 h2
  refine Wp.step ?_
  simp only [spec_l7Reached_l15]
  refine Wp.pick hr (by omega) (by omega) (fun q r1 q0 q1 h1 => ?_)
  simp only [cbeq]
  refine Wp.ite (fun _ => ?_) (fun _ => l7 w r1 (.more (Nat.le_refl _) (by omega) hw) h1)
  refine Wp.bind (specDoW_ok w hw.V _) (fun _ e => ?_); subst e
  have h2 : Reach f (s + 1) (doW w ⟨9, 1, 0, 0, noB⟩) := hw.go (by simp)
  refine Wp.bind (specDoW_ok _ h2.V _) (fun _ e => ?_); subst e
  exact l7 _ r1 (h2.go (by simp)) h1
theorem rc12 (x0 x1 : Int) (f s : Nat) (n : Int) (r : DL1Rd) (hr : Rd n r) (hn : n ≤ 900000) (Q : DWorld × DL1Rd → Prop)
    (go : ∀ w' r', Reach f (s + 7) w' → Rd (n + 1) r' → Wp (fun k => spec_l7Reached_l6 k x0 (IntKind.wrap .i64 (x1 + 1)) r'.b r'.p a z b w'.Key w'.Width w'.Forged E2 F2 G2 T2 w'.Ends w'.Flight w'.Given w'.Taken) Q) :
    ∀ (d : Nat) (w : DWorld) (u : Nat), u + d ≤ s + 5 → d ≤ 100 → Reach f u w → Wp (fun k => spec_l7Reached_l12 k x0 x1 (d : Int) r.b r.p a z b w.Key w.Width w.Forged E2 F2 G2 T2 w.Ends w.Flight w.Given w.Taken) Q
  | 0, w, u, hu, hd, hw => by
    refine Wp.step ?_
    simp only [spec_l7Reached_l12]
    exact Wp.dec (fun g => by omega) (fun _ => rc15 a b z E2 F2 G2 T2 x0 x1 f u n r w hw hr hn Q (fun w' r' h1 h2 => go w' r' (.more (Nat.le_refl _) (by omega) h1) h2))
  | d + 1, w, u, hu, hd, hw => by
    refine Wp.step ?_
    simp only [spec_l7Reached_l12]
    refine Wp.dec (fun _ => ?_) (fun g => by omega)
    refine Wp.dec (fun g => ?_) (fun _ => rc15 a b z E2 F2 G2 T2 x0 x1 f u n r w hw hr hn Q (fun w' r' h1 h2 => go w' r' (.more (Nat.le_refl _) (by omega) h1) h2))
    obtain ⟨p, hp⟩ : ∃ p, w.Flight[0]? = some p := ⟨w.Flight[0]'(by omega), List.getElem?_eq_getElem (by omega)⟩
    refine Wp.bind (specBringW_ok w hw.V 0 hp) (fun x hx => ?_)
    have hx' : Reach f (u + 1) x := by
      rw [hx]
      have := hw.go (v := ⟨2, 0, 0, 0, noB⟩) (by simp)
      rw [doW_par (p := p) (by dsimp only; omega) (by dsimp only; omega) hp] at this
      exact this
    rw [w64' (n := ((d + 1 : Nat) : Int) - 1) (by omega) (by omega), show ((d + 1 : Nat) : Int) - 1 = (d : Int) by omega]
    exact rc12 x0 x1 f s n r hr hn Q go d x (u + 1) (by omega) (by omega) hx'
theorem rc6 (x0 : Int) (hx0 : x0 ≤ 49) : ∀ (d : Nat) (x1 : Int) (f s : Nat) (n : Int) (r : DL1Rd) (w : DWorld), d = (x0 - x1).toNat → 0 ≤ x1 → Reach f s w → Rd n r → 0 ≤ n → n + 60 * d ≤ 500000 →
    Wp (fun k => spec_l7Reached_l6 k x0 x1 r.b r.p a z b w.Key w.Width w.Forged E2 F2 G2 T2 w.Ends w.Flight w.Given w.Taken) (RchP (f + d) (s + 9 * d) (n + 60 * d))
  | 0, x1, f, s, n, r, w, hd, h0, hw, hr, hn0, hn => by
    refine Wp.step ?_
    simp only [spec_l7Reached_l6]
    refine Wp.dec (fun g => by omega) (fun _ => ?_)
    refine Wp.bind (specCopyW_ok w hw.V) (fun x hx => ?_); rw [hx]
    exact Wp.ret ⟨hw, hr.mono (by omega)⟩
  | d + 1, x1, f, s, n, r, w, hd, h0, hw, hr, hn0, hn => by
    refine Wp.step ?_
    simp only [spec_l7Reached_l6]
    refine Wp.dec (fun _ => ?_) (fun g => by omega)
    refine Wp.bind (l7Event_ok r n hr (by omega)) ?_
    rintro ⟨v, r1⟩ ⟨hv, h1⟩
    dsimp only at hv h1 ⊢
    refine Wp.bind (specDoW_ok w hw.V v) (fun _ e => ?_); subst e
    have hw1 : Reach (f + 1) (s + 1) (doW w v) := .more (by split <;> omega) (Nat.le_refl _) (Reach.step v hw)
    have nx : ∀ (m : Int), m ≤ n + 59 → ∀ w' r', Reach (f + 1) (s + 9) w' → Rd (m + 1) r' → Wp (fun k => spec_l7Reached_l6 k x0 (IntKind.wrap .i64 (x1 + 1)) r'.b r'.p a z b w'.Key w'.Width w'.Forged E2 F2 G2 T2 w'.Ends w'.Flight w'.Given w'.Taken) (RchP (f + (d + 1)) (s + 9 * (d + 1)) (n + 60 * ((d + 1 : Nat) : Int))) := fun m hm w' r' h2 h3 => by
      rw [w64' (n := x1 + 1) (by omega) (by omega)]
      refine (rc6 x0 hx0 d (x1 + 1) (f + 1) (s + 9) (n + 60) r' w' (by omega) (by omega) h2 (h3.mono (by omega)) (by omega) (by omega)).mono fun v hv => rc_more hv (by omega) (by omega) (by omega)
    refine Wp.pick h1 (by omega) (by omega) (fun q r2 q0 q1 h2 => ?_)
    simp only [cbeq]
    refine Wp.ite (fun _ => ?_) (fun _ => rc15 a b z E2 F2 G2 T2 x0 x1 (f + 1) (s + 1) _ r2 _ hw1 h2 (by omega) _ (fun w' r' h1 h2 => nx _ (by omega) w' r' (.more (Nat.le_refl _) (by omega) h1) h2))
    refine Wp.bind (specTickW_ok _ hw1.V) (fun _ e => ?_); subst e
    have hw2 : Reach (f + 1) (s + 2) (tickW (doW w v)) := by rw [← doW_tick _ 0 0 0 noB]; exact hw1.go (by simp)
    refine Wp.pick h2 (by omega) (by omega) (fun q r3 q0 q1 h3 => ?_)
    dsimp only
    have := rc12 a b z E2 F2 G2 T2 x0 x1 (f + 1) (s + 2) _ r3 h3 (by omega) _ (fun w' r' h1 h2 => nx _ (by omega) w' r' (.more (Nat.le_refl _) (by omega) h1) h2) q.toNat (tickW (doW w v)) (s + 2) (by omega) (by omega) hw2
    rw [Int.toNat_of_nonneg q0] at this
    exact this
end
theorem l7Reached_ok (r : DL1Rd) (n : Int) (h : Rd n r) (hn : 0 ≤ n ∧ n ≤ 400000) : Wp (fun k => spec_l7Reached k r) (RchP 49 11000 (n + 3000)) := by
  unfold spec_l7Reached
  refine Wp.bind (key_ok r n h (by omega)) (fun ky hk => ?_)
  refine Wp.bind (width_ok ky.2 _ hk.2 (by omega)) (fun wd hw => ?_)
  refine Wp.bind (specNewW_ok _ _) (fun _ e => ?_); subst e
  have hr0 : Reach 0 0 (newW ky.1 wd.1) := .new hk.1 hw.1
  have l4 : ∀ (m : Int) w r', m ≤ n + 10 → Reach 0 10090 w → Rd m r' → 0 ≤ m → Wp (fun k => spec_l7Reached_l4 k r'.b r'.p noB 0 noB w.Key w.Width w.Forged [] [] [] [] w.Ends w.Flight w.Given w.Taken) (RchP 49 11000 (n + 3000)) := fun m w r' hm h1 h2 h0 => by
    refine Wp.step ?_
    simp only [spec_l7Reached_l4]
    refine Wp.pick h2 (by omega) (by omega) (fun q r1 q0 q1 h3 => ?_)
    dsimp only
    exact (rc6 noB noB 0 [] [] [] [] q (by omega) q.toNat 0 0 10090 (m + 1) r1 w (by omega) (by omega) h1 h3 (by omega) (by omega)).mono fun v hv => rc_more hv (by omega) (by omega) (by omega)
  refine Wp.pick hw.2 (by omega) (by omega) (fun q r1 q0 q1 h1 => ?_)
  dsimp only
  refine Wp.dec (fun _ => ?_) (fun _ => l4 _ _ r1 (by omega) (.more (Nat.le_refl _) (by omega) hr0) h1 (by omega))
  refine Wp.pick h1 (by omega) (by omega) (fun q r2 q0 q1 h2 => ?_)
  dsimp only
  refine Wp.bind (specCalm_ok _ (vw_hist hr0.V) _ _) (fun _ e => ?_); subst e
  exact l4 _ _ r2 (by omega) (.more (Nat.le_refl _) (by rw [w64' (by omega) (by omega)]; omega) (reach_calm hr0 _ 1 (by omega))) h2 (by omega)
theorem drawReached_ok (a : List Int) (h : ∀ y ∈ a, wf_byte y) : Wp (fun k => spec_DrawReached k a) (Reach 49 11000) := by
  unfold spec_DrawReached
  refine Wp.bind (open_ok a h) (fun r h0 => ?_)
  refine Wp.bind (l7Reached_ok r 0 h0 (by omega)) (fun v hv => ?_)
  exact Wp.ret hv.1
end Km.X
namespace Km.X
open Go Km
set_option linter.unusedVariables false
set_option linter.unusedSimpArgs false
/-! ### drawn takes -/
def DTk (m : Int) (v : DTake × DL1Rd) : Prop := VTake v.1 ∧ Rd m v.2
theorem vt_len {t : DTake} (h : VTake t) : t.Held.length ≤ 1048576 ∧ t.Ready.length ≤ 1048576 := by have := h.2.1; have := h.2.2.2.1; omega
theorem t3 (e : ByteArray) (c : Int) (g : ByteArray) (y : List DHeld) (z : List ByteArray) : ∀ (d : Nat) (n : Int) (r : DL1Rd) (t : DTake), VTake t → Rd n r → n + 10 * d ≤ 800000 →
    Wp (fun k => spec_l5Draw_l3 k (d : Int) r.b r.p c e t.Next t.Open y z t.Held t.Ready) (DTk (n + 10 * d))
  | 0, n, r, t, ht, hr, hn => by
    refine Wp.step ?_
    simp only [spec_l5Draw_l3]
    refine Wp.dec (fun g => by omega) (fun _ => ?_)
    refine Wp.bind (l5Copy_ok t (vt_len ht).1 (vt_len ht).2) (fun x hx => ?_); rw [hx]
    exact Wp.ret ⟨ht, hr.mono (by omega)⟩
  | d + 1, n, r, t, ht, hr, hn => by
    have hn0 : 0 ≤ n := by have := hr.2.2; omega
    have l4 : ∀ (t' : DTake) (r' : DL1Rd), VTake t' → Rd (n + 10) r' → Wp (fun k => spec_l5Draw_l4 k ((d + 1 : Nat) : Int) r'.b r'.p c e t'.Next t'.Open y z t'.Held t'.Ready) (DTk (n + 10 * ((d + 1 : Nat) : Int))) := fun t' r' h1 h2 => by
      refine Wp.step ?_
      simp only [spec_l5Draw_l4]
      rw [w64' (n := ((d + 1 : Nat) : Int) - 1) (by omega) (by omega), show ((d + 1 : Nat) : Int) - 1 = (d : Int) by omega]
      exact (t3 e c g y z d (n + 10) r' t' h1 h2 (by omega)).mono fun v hv => ⟨hv.1, hv.2.mono (by omega)⟩
    have l9 : ∀ (q : Int) (r' : DL1Rd), Rd (n + 5) r' → Wp (fun k => spec_l5Draw_l9 k ((d + 1 : Nat) : Int) q r'.b r'.p c e t.Next t.Open y z t.Held t.Ready) (DTk (n + 10 * ((d + 1 : Nat) : Int))) := fun q r' h2 => by
      refine Wp.step ?_
      simp only [spec_l5Draw_l9]
      refine Wp.pick h2 (by omega) (by omega) (fun q1 r1 q10 q11 h1 => ?_)
      dsimp only
      refine Wp.from q10 (by simp; omega) (fun u hu => ?_)
      simp only [List.mem_cons, List.not_mem_nil, or_false] at hu
      refine Wp.bind (many_ok _ _ 20 (by omega) (by show 1 * _ ≤ 20; omega) (by omega)) (fun m hm => ?_)
      refine Wp.pick h1 (by omega) (by omega) (fun q2 r2 q20 q21 h3 => ?_)
      refine Wp.bind (specPart_ok t _ _) (fun x hx => ?_)
      exact l4 x r2 (by rw [hx]; exact partM_V _ _ _) (h3.mono (by omega))
    refine Wp.step ?_
    simp only [spec_l5Draw_l3]
    refine Wp.dec (fun _ => ?_) (fun g => by omega)
    refine Wp.pick hr (by omega) (by omega) (fun q1 r1 q10 q11 h1 => ?_)
    simp only [cbeq]
    refine Wp.ite (fun _ => ?_) (fun _ => ?_)
    · refine Wp.bind (specPull_ok t) (fun x hx => ?_)
      exact l4 x.1 r1 (by rw [hx]; exact (pullM_ok t).1) (h1.mono (by omega))
    · refine Wp.pick h1 (by omega) (by omega) (fun q2 r2 q20 q21 h2 => ?_)
      dsimp only
      refine Wp.ite (fun _ => ?_) (fun _ => l9 _ r2 (h2.mono (by omega)))
      refine Wp.pick h2 (by omega) (by omega) (fun q3 r3 q30 q31 h3 => ?_)
      exact l9 _ r3 (h3.mono (by omega))
theorem t20 (m : Int) (r : DL1Rd) (c n : Int) (e o : ByteArray) (y : List DHeld) (z : List ByteArray) (h : List DHeld) (s : List ByteArray) (hr : Rd m r) : Wp (fun k => spec_l5Spoil_l20 k r.b r.p c e n o y z h s) (fun v => Rd m v.2) := by
  refine Wp.step ?_
  simp only [spec_l5Spoil_l20]
  exact Wp.ret hr
theorem t15 (m x0 : Int) (r : DL1Rd) (c n : Int) (e o : ByteArray) (y : List DHeld) (z : List ByteArray) (h : List DHeld) (hr : Rd m r) (hx : x0 ≤ 100) : ∀ (d : Nat) (s : List ByteArray), d = (x0 - s.length).toNat → s.length ≤ 1000 → Wp (fun k => spec_l5Spoil_l15 k x0 r.b r.p c e n o y z h s) (fun v => Rd m v.2)
  | 0, s, hd, hs => by
    refine Wp.step ?_
    simp only [spec_l5Spoil_l15]
    exact Wp.dec (fun g => by omega) (fun _ => t20 m r c n e o y z h s hr)
  | d + 1, s, hd, hs => by
    refine Wp.step ?_
    simp only [spec_l5Spoil_l15]
    refine Wp.dec (fun _ => ?_) (fun g => by omega)
    refine Wp.opt (app_ok (by simp; omega)) ?_
    exact t15 m x0 r c n e o y z h hr hx d (s ++ [noB]) (by simp; omega) (by simp; omega)
/-! ### drawn ends -/
theorem e9 (m : Int) (r : DL1Rd) (hr : Rd m r) (a : Int) (b : Bool) (c d e : Int) (f : Bool) (g h : Int) (i : ByteArray) (a' : Int) (b' : Bool) (c' d' e' : Int) (f' : Bool) (g' : Int) (l1 : List DItem) (h' : Int) (l2 : List DHeld) (i' : ByteArray) (l3 : List ByteArray) (l4 : List DItem) (l5 : List DHeld) (l6 : List ByteArray) :
    Wp (fun k => spec_l6Any_l9 k r.b r.p a b c d e f g h i a' b' c' d' e' f' g' l1 h' l2 i' l3 l4 l5 l6) (fun v => Rd m v.2) := by
  refine Wp.step ?_
  simp only [spec_l6Any_l9]
  exact Wp.ret hr
end Km.X
namespace Km.X
open Go Km
set_option linter.unusedVariables false
set_option linter.unusedSimpArgs false
/-! ### an end, and what it is given -/
end Km.X
