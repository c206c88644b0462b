/- A part of the proof of FnExactNewWorld: plain laws of these functions. There is no condition. -/
import Derived.Test.YthafpbpfnkncmaaKyPureExactNewWorld1
import Derived.Test.YthafpbpfnkncmaaKxDef2
namespace Km.X
open Go Km
set_option linter.unusedVariables false
set_option linter.unusedSimpArgs false
/-! ### EndTake -/
def bodyE (e : DEnd) (p : DPacket) : DActed :=
  if p.Yours = e.Life then
    if p.Kind = 1 then ⟨0, ⟨e.Number, e.Up, e.Life, e.Peer, e.Since, e.Owes, wordM e.Send p.Next p.Mask, e.Take⟩, [], noB⟩
    else ⟨0, ⟨e.Number, e.Up, e.Life, e.Peer, e.Since, true, e.Send, partM e.Take p.Seq ⟨p.Part, p.Last⟩⟩, [], noB⟩
  else ⟨0, ⟨e.Number, e.Up, e.Life, e.Peer, e.Since, true, e.Send, e.Take⟩, [], noB⟩
def metE (e : DEnd) (p : DPacket) : DEnd := if p.Mine > e.Peer then ⟨e.Number, e.Up, e.Life, p.Mine, e.Since, true, noSend, noTake⟩ else e
def takeE (e : DEnd) (p : DPacket) : DActed :=
  if VEnd e then
    if e.Up = true ∧ Fits p ∧ ¬ p.From = e.Number ∧ ¬ p.Mine < e.Peer then bodyE (metE e p) p else ⟨0, e, [], noB⟩
  else ⟨1, noEnd, [], noB⟩
end Km.X
namespace Km.X
open Go Km
set_option linter.unusedVariables false
set_option linter.unusedSimpArgs false
def numL (l : List UInt8) : Int := l.foldl (fun v c => v * 256 + (c.toNat : Int)) 0
def at' (b : ByteArray) (i : Nat) : UInt8 := b.data.toList.getD i 0
def zeroP : DPacket := ⟨0, 0, 0, 0, 0, 0, 0, false, noB⟩
def numS (b : ByteArray) (i j : Nat) : Int := numL (b.extract i j).data.toList
/-- what a body may be the body of -/
def candP (b : ByteArray) : DPacket :=
  if ((at' b 0).toNat : Int) = 1 then ⟨(at' b 0).toNat, (at' b 1).toNat, numS b 2 4, numS b 4 6, numS b 6 10, (at' b 10).toNat, 0, false, noB⟩
  else ⟨(at' b 0).toNat, (at' b 1).toNat, numS b 2 4, numS b 4 6, 0, 0, numS b 6 10, (((at' b 10).toNat : Int) == 1), b.extract 11 b.size⟩
def readM (s b : ByteArray) (w : Int) : DPacket × Bool :=
  if (1 ≤ w ∧ w ≤ 8) ∧ w + 11 ≤ s.size then (if formM (candP (s.extract w.toNat s.size)) b w = s then (candP (s.extract w.toNat s.size), true) else (zeroP, false)) else (zeroP, false)
theorem ext_size (s : ByteArray) (i j : Nat) : (s.extract i j).size = min j s.size - i := by simp
end Km.X
namespace Km.X
open Go Km
set_option linter.unusedVariables false
set_option linter.unusedSimpArgs false
/-! ### valid ends stay valid -/
theorem tickE_V {e : DEnd} (h : VEnd e) : VEnd (tickE e).End := by
  obtain ⟨h1, h2, h3, h4, h5, h6, h7, h8⟩ := h
  have h : VEnd e := ⟨h1, h2, h3, h4, h5, h6, h7, h8⟩
  have hs := (tickS_V e h).1
  have hz : e.Peer = 0 → PNoS (tickS e).1 ∧ PNoT e.Take := fun hp => by unfold tickS; rw [if_pos hp]; exact h7 hp
  unfold tickE
  rw [if_pos h]
  split
  · rename_i hu
    have nu : ∀ q : Prop, (e.Up = false → q) := fun q g => by rw [hu] at g; cases g
    split
    · exact ⟨h1, h2, h3, ⟨by simp, by simp⟩, hs, h6, hz, nu _⟩
    · refine ⟨h1, h2, h3, ?_, hs, h6, hz, nu _⟩
      show 0 ≤ upS e ∧ upS e ≤ 1000000
      unfold upS; split <;> omega
  · exact h
theorem metE_V {e : DEnd} {p : DPacket} (h : VEnd e) (hu : e.Up = true) (hf : Fits p) : VEnd (metE e p) ∧ (metE e p).Up = true := by
  unfold metE
  split
  · refine ⟨⟨h.1, h.2.1, ?_, h.2.2.2.1, noSend_V, noTake_V, fun _ => ⟨pnoS, pnoT⟩, fun g => ?_⟩, hu⟩
    · have := hf.2.1; have := h.2.2.1
      show 0 ≤ p.Mine ∧ p.Mine ≤ 1000; omega
    · change e.Up = false at g; rw [hu] at g; cases g
  · exact ⟨h, hu⟩
theorem metE_peer {e : DEnd} {p : DPacket} (h : VEnd e) (hf : Fits p) (hm : ¬ p.Mine < e.Peer) : (metE e p).Peer = p.Mine := by
  unfold metE; split
  · rfl
  · omega
theorem bodyE_V {e : DEnd} {p : DPacket} (h : VEnd e) (hu : e.Up = true) (hp : e.Peer ≠ 0) : VEnd (bodyE e p).End := by
  obtain ⟨h1, h2, h3, h4, h5, h6, h7, h8⟩ := h
  have nu : ∀ q : Prop, (e.Up = false → q) := fun q g => by rw [hu] at g; cases g
  unfold bodyE
  split
  · split
    · exact ⟨h1, h2, h3, h4, wordM_ok _ _ _, h6, fun g => absurd g hp, nu _⟩
    · exact ⟨h1, h2, h3, h4, h5, partM_V _ _ _, fun g => absurd g hp, nu _⟩
  · exact ⟨h1, h2, h3, h4, h5, h6, fun g => absurd g hp, nu _⟩
theorem takeE_V {e : DEnd} (p : DPacket) (h : VEnd e) : VEnd (takeE e p).End := by
  unfold takeE
  rw [if_pos h]
  split
  · rename_i hc
    obtain ⟨g1, g2⟩ := metE_V h hc.1 hc.2.1
    refine bodyE_V g1 g2 ?_
    rw [metE_peer h hc.2.1 hc.2.2.2]
    have := hc.2.1.2.1; omega
  · exact h
theorem pushE_V {e : DEnd} {t : ByteArray} (h : VEnd e) (hc : (pushE e t).Code = 0) : VEnd (pushE e t).End ∧ e.Up = true ∧ e.Peer ≠ 0 ∧ t.size ≤ 200 := by
  unfold pushE at hc ⊢
  rw [if_pos h] at hc ⊢
  split at hc
  · rename_i hu
    rw [if_pos hu]
    split at hc
    · cases hc
    · rename_i hp
      rw [if_neg hp]
      split at hc
      · rename_i h0
        rw [if_pos h0]
        obtain ⟨h1, h2, h3, h4, h5, h6, h7, h8⟩ := h
        refine ⟨⟨h1, h2, h3, h4, pushM_ok _ _, h6, fun g => absurd g hp, fun g => ?_⟩, hu, hp, ?_⟩
        · change e.Up = false at g; rw [hu] at g; cases g
        · unfold pushM at h0
          split at h0
          · rename_i hh; exact hh.2
          · cases h0
      · rename_i h0; exact absurd hc h0
  · cases hc
theorem pullE_V {e : DEnd} (h : VEnd e) (hc : (pullE e).Code = 0) : VEnd (pullE e).End ∧ e.Up = true ∧ e.Peer ≠ 0 ∧ (pullE e).Text.size ≤ 200 := by
  unfold pullE at hc ⊢
  rw [if_pos h] at hc ⊢
  split at hc
  · rename_i hu
    rw [if_pos hu]
    split at hc
    · rename_i hr
      rw [if_pos hr]
      obtain ⟨h1, h2, h3, h4, h5, h6, h7, h8⟩ := h
      have hp : e.Peer ≠ 0 := fun e0 => by
        have hz := (h7 e0).2.2.2.2
        unfold pullM at hr
        rw [if_pos h6] at hr
        split at hr
        · cases hr
        · rename_i s rs hrr; rw [hrr] at hz; cases hz
      refine ⟨⟨h1, h2, h3, h4, h5, (pullM_ok _).1, fun g => absurd g hp, fun g => ?_⟩, hu, hp, (pullM_ok _).2⟩
      change e.Up = false at g; rw [hu] at g; cases g
    · cases hc
  · cases hc
theorem tickE_num {e : DEnd} (h : VEnd e) : (tickE e).End.Number = e.Number := by
  unfold tickE; rw [if_pos h]; split
  · split <;> rfl
  · rfl
theorem takeE_num {e : DEnd} (p : DPacket) (h : VEnd e) : (takeE e p).End.Number = e.Number := by
  unfold takeE; rw [if_pos h]; split
  · unfold bodyE metE; repeat' split
    all_goals rfl
  · rfl
theorem pushE_num {e : DEnd} {t : ByteArray} (h : VEnd e) (hc : (pushE e t).Code = 0) : (pushE e t).End.Number = e.Number := by
  unfold pushE at hc ⊢
  rw [if_pos h] at hc ⊢
  split at hc
  · rename_i hu; rw [if_pos hu]
    split at hc
    · cases hc
    · rename_i hp; rw [if_neg hp]
      split at hc
      · rename_i h0; rw [if_pos h0]
      · rename_i h0; exact absurd hc h0
  · cases hc
theorem pullE_num {e : DEnd} (h : VEnd e) (hc : (pullE e).Code = 0) : (pullE e).End.Number = e.Number := by
  unfold pullE at hc ⊢
  rw [if_pos h] at hc ⊢
  split at hc
  · rename_i hu; rw [if_pos hu]
    split at hc
    · rename_i hr; rw [if_pos hr]
    · cases hc
  · cases hc
theorem fallM_num {e : DEnd} (h : VEnd e) : (fallM e).Number = e.Number := by unfold fallM; rw [if_pos h]
theorem riseM_num {e : DEnd} (h : VEnd e) : (riseM e).Number = e.Number := by unfold riseM; rw [if_pos h]; repeat' split <;> try rfl
/-! ### the world, as it goes on -/
def parM (b : ByteArray) (wd to : Int) (p : DPacket) : DParcel := ⟨to, formM p b wd, formM p b wd⟩
def putM (b : ByteArray) (wd to : Int) (out : List DPacket) (fl : List DParcel) : List DParcel := fl ++ (out.map (parM b wd to)).take (1000 - fl.length)
def endAt (n : Int) (l : List DEnd) : DEnd := match l with | [e, f] => if n = 1 then e else f | _ => noEnd
def onEnd (n : Int) (x : DEnd) (l : List DEnd) : List DEnd := match l with | [e, f] => if n = 1 then [x, f] else [e, x] | l => l
def tickW (w : DWorld) : DWorld :=
  ⟨w.Key, w.Width, [(tickE (endAt 1 w.Ends)).End, (tickE (endAt 2 w.Ends)).End], putM w.Key w.Width 1 (tickE (endAt 2 w.Ends)).Out (putM w.Key w.Width 2 (tickE (endAt 1 w.Ends)).Out w.Flight), w.Forged, w.Given, w.Taken⟩
def bringW (w : DWorld) (p : DParcel) : DWorld :=
  if (readM p.Bytes w.Key w.Width).2 = true then
    ⟨w.Key, w.Width, onEnd p.To (takeE (endAt p.To w.Ends) (readM p.Bytes w.Key w.Width).1).End w.Ends, w.Flight, if ¬ p.Bytes = p.Sent ∧ w.Forged = noB then p.Bytes else w.Forged, w.Given, w.Taken⟩
  else w
def pullW (w : DWorld) (n : Int) : DWorld :=
  if w.Given.length + w.Taken.length < 400 ∧ (pullE (endAt n w.Ends)).Code = 0 then
    ⟨w.Key, w.Width, onEnd n (pullE (endAt n w.Ends)).End w.Ends, w.Flight, w.Forged, w.Given, w.Taken ++ [⟨3 - n, (endAt n w.Ends).Peer, (endAt n w.Ends).Life, (pullE (endAt n w.Ends)).Text⟩]⟩
  else w
def pushW (w : DWorld) (n : Int) (t : ByteArray) : DWorld :=
  if w.Given.length + w.Taken.length < 400 ∧ (pushE (endAt n w.Ends) t).Code = 0 then
    ⟨w.Key, w.Width, onEnd n (pushE (endAt n w.Ends) t).End w.Ends, w.Flight, w.Forged, w.Given ++ [⟨n, (endAt n w.Ends).Life, (endAt n w.Ends).Peer, t⟩], w.Taken⟩
  else w
def setFl (w : DWorld) (fl : List DParcel) : DWorld := ⟨w.Key, w.Width, w.Ends, fl, w.Forged, w.Given, w.Taken⟩
def setEn (w : DWorld) (n : Int) (x : DEnd) : DWorld := ⟨w.Key, w.Width, onEnd n x w.Ends, w.Flight, w.Forged, w.Given, w.Taken⟩
/-- one byte of a text is another one -/
def bendB (s : ByteArray) (b c : Int) : ByteArray := bstr ((bytesOf s).set b.toNat (bitsXor .u8 ((bytesOf s).getD b.toNat 0) (IntKind.wrap .u8 (c % 256))))
def parDo (w : DWorld) (v : DEvent) (p : DParcel) : DWorld :=
  if v.Kind = 2 then bringW (setFl w (w.Flight.eraseIdx v.A.toNat)) p
  else if v.Kind = 3 then (if w.Flight.length < 1000 then setFl w (w.Flight ++ [p]) else w)
  else if v.Kind = 4 then setFl w (w.Flight.eraseIdx v.A.toNat)
  else if v.Kind = 5 then (if (0 ≤ v.B ∧ v.B < p.Bytes.size) ∧ 0 ≤ v.C then setFl w (w.Flight.set v.A.toNat ⟨p.To, p.Sent, bendB p.Bytes v.B v.C⟩) else w)
  else if v.Kind = 6 then (if 0 ≤ v.B ∧ v.B ≤ p.Bytes.size then setFl w (w.Flight.set v.A.toNat ⟨p.To, p.Sent, p.Bytes.extract 0 v.B.toNat⟩) else w)
  else setFl w (w.Flight.set v.A.toNat ⟨3 - p.To, p.Sent, p.Bytes⟩)
def endDo (w : DWorld) (v : DEvent) : DWorld :=
  if v.Kind = 8 then setEn w v.A (fallM (endAt v.A w.Ends))
  else if v.Kind = 9 then setEn w v.A (riseM (endAt v.A w.Ends))
  else if v.Kind = 10 then pushW w v.A v.Text
  else pullW w v.A
def doW (w : DWorld) (v : DEvent) : DWorld :=
  if v.Kind = 1 then tickW w
  else if 2 ≤ v.Kind ∧ v.Kind ≤ 7 then (if 0 ≤ v.A then (match w.Flight[v.A.toNat]? with | some p => parDo w v p | none => w) else w)
  else if (8 ≤ v.Kind ∧ v.Kind ≤ 11) ∧ (1 ≤ v.A ∧ v.A ≤ 2) then endDo w v
  else w
def noWorld : DWorld := ⟨noB, 0, [], [], noB, [], []⟩
/-! ### a valid world stays valid -/
theorem vends_two : ∀ {l : List DEnd}, VEnds l → ∃ e f, l = [e, f] ∧ VEnd e ∧ e.Number = 1 ∧ VEnd f ∧ f.Number = 2
  | [a, b], h => ⟨a, b, rfl, h.1.1, h.1.2, h.2.1, h.2.2⟩
theorem vends_of {e f : DEnd} (h1 : VEnd e) (h2 : e.Number = 1) (h3 : VEnd f) (h4 : f.Number = 2) : VEnds [e, f] := ⟨⟨h1, h2⟩, ⟨h3, h4⟩⟩
theorem endAt_V {l : List DEnd} (h : VEnds l) {n : Int} (hn : 1 ≤ n ∧ n ≤ 2) : VEnd (endAt n l) ∧ (endAt n l).Number = n := by
  obtain ⟨e, f, rfl, h1, h2, h3, h4⟩ := vends_two h
  unfold endAt
  dsimp only
  split
  · rename_i hh; exact ⟨h1, by omega⟩
  · exact ⟨h3, by omega⟩
theorem onEnd_V {l : List DEnd} (h : VEnds l) {n : Int} (hn : 1 ≤ n ∧ n ≤ 2) {x : DEnd} (hx : VEnd x) (hx' : x.Number = n) : VEnds (onEnd n x l) := by
  obtain ⟨e, f, rfl, h1, h2, h3, h4⟩ := vends_two h
  unfold onEnd
  dsimp only
  split
  · rename_i hh; exact vends_of hx (by omega) h3 h4
  · exact vends_of h1 h2 hx (by omega)
theorem putM_len {b : ByteArray} {wd to : Int} {out : List DPacket} {fl : List DParcel} (h : fl.length ≤ 1000) : (putM b wd to out fl).length ≤ 1000 := by
  unfold putM; simp; omega
theorem putM_V {b : ByteArray} {wd to : Int} {out : List DPacket} {fl : List DParcel} (h : VPars fl) (ht : 1 ≤ to ∧ to ≤ 2) : VPars (putM b wd to out fl) := fun p hp => by
  unfold putM at hp
  simp only [List.mem_append] at hp
  rcases hp with hp | hp
  · exact h p hp
  · have := List.mem_of_mem_take hp
    simp only [List.mem_map] at this
    obtain ⟨q, _, rfl⟩ := this
    have := formM_size q b wd
    exact ⟨ht, by show (formM q b wd).size ≤ 100; omega, by show (formM q b wd).size ≤ 100; omega⟩
theorem tickW_V {w : DWorld} (h : VWorld w) : VWorld (tickW w) := by
  obtain ⟨h1, h2, h3, h4, h5, h6, h7, h8⟩ := h
  obtain ⟨e1, e2⟩ := endAt_V h5 (n := 1) (by omega)
  obtain ⟨f1, f2⟩ := endAt_V h5 (n := 2) (by omega)
  exact ⟨h1, h2, putM_len (putM_len h3), h4, vends_of (tickE_V e1) ((tickE_num e1).trans e2) (tickE_V f1) ((tickE_num f1).trans f2), putM_V (putM_V h6 (by omega)) (by omega), h7, h8⟩
theorem bringW_V {w : DWorld} (h : VWorld w) {p : DParcel} (hp : 1 ≤ p.To ∧ p.To ≤ 2) : VWorld (bringW w p) := by
  unfold bringW
  split
  · obtain ⟨h1, h2, h3, h4, h5, h6, h7, h8⟩ := h
    obtain ⟨e1, e2⟩ := endAt_V h5 hp
    exact ⟨h1, h2, h3, h4, onEnd_V h5 hp (takeE_V _ e1) ((takeE_num _ e1).trans e2), h6, h7, h8⟩
  · exact h
theorem vrecs_snoc {l : List DRecord} {r : DRecord} (h : VRecs l) (hr : VRec r) : VRecs (l ++ [r]) := fun x hx => by
  simp only [List.mem_append, List.mem_singleton] at hx
  rcases hx with hx | rfl
  · exact h x hx
  · exact hr
theorem pullW_V {w : DWorld} (h : VWorld w) {n : Int} (hn : 1 ≤ n ∧ n ≤ 2) : VWorld (pullW w n) := by
  unfold pullW
  split
  · rename_i hc
    obtain ⟨h1, h2, h3, h4, h5, h6, h7, h8⟩ := h
    obtain ⟨e1, e2⟩ := endAt_V h5 hn
    obtain ⟨g1, g2, g3, g4⟩ := pullE_V e1 hc.2
    have hp := e1.2.2.1
    exact ⟨h1, h2, h3, by simp only [List.length_append, List.length_singleton]; omega, onEnd_V h5 hn g1 ((pullE_num e1 hc.2).trans e2), h6, h7, vrecs_snoc h8 ⟨by simp only; omega, by simp only; omega, e1.2.1, g4⟩⟩
  · exact h
theorem pushW_V {w : DWorld} (h : VWorld w) {n : Int} (hn : 1 ≤ n ∧ n ≤ 2) (t : ByteArray) : VWorld (pushW w n t) := by
  unfold pushW
  split
  · rename_i hc
    obtain ⟨h1, h2, h3, h4, h5, h6, h7, h8⟩ := h
    obtain ⟨e1, e2⟩ := endAt_V h5 hn
    obtain ⟨g1, g2, g3, g4⟩ := pushE_V e1 hc.2
    have hp := e1.2.2.1
    exact ⟨h1, h2, h3, by simp only [List.length_append, List.length_singleton]; omega, onEnd_V h5 hn g1 ((pushE_num e1 hc.2).trans e2), h6, vrecs_snoc h7 ⟨by simp only; omega, e1.2.1, by simp only; omega, g4⟩, h8⟩
  · exact h
theorem setEn_V {w : DWorld} (h : VWorld w) {n : Int} (hn : 1 ≤ n ∧ n ≤ 2) {x : DEnd} (hx : VEnd x) (hx' : x.Number = n) : VWorld (setEn w n x) := by
  obtain ⟨h1, h2, h3, h4, h5, h6, h7, h8⟩ := h
  exact ⟨h1, h2, h3, h4, onEnd_V h5 hn hx hx', h6, h7, h8⟩
theorem setFl_V {w : DWorld} (h : VWorld w) {fl : List DParcel} (h1 : fl.length ≤ 1000) (h2 : VPars fl) : VWorld (setFl w fl) := by
  obtain ⟨g1, g2, g3, g4, g5, g6, g7, g8⟩ := h
  exact ⟨g1, g2, h1, g4, g5, h2, g7, g8⟩
theorem erase_V {l : List DParcel} (h : VPars l) (i : Nat) : VPars (l.eraseIdx i) := fun p hp => h p (List.mem_of_mem_eraseIdx hp)
theorem set_V {l : List DParcel} (h : VPars l) (i : Nat) {q : DParcel} (hq : VPar q) : VPars (l.set i q) := fun p hp => by
  rcases List.mem_or_eq_of_mem_set hp with h' | h'
  · exact h p h'
  · rw [h']; exact hq
theorem bendB_size (s : ByteArray) (b c : Int) : (bendB s b c).size = s.size := by
  unfold bendB; rw [bstr_size, List.length_set]; unfold bytesOf; simp
theorem doW_V {w : DWorld} (h : VWorld w) (v : DEvent) : VWorld (doW w v) := by
  unfold doW
  split
  · exact tickW_V h
  · split
    · split
      · split
        · rename_i p hp
          have hv : VPar p := h.2.2.2.2.2.1 p (List.mem_of_getElem? hp)
          have h6 := h.2.2.2.2.2.1
          have h3 := h.2.2.1
          have hel : (w.Flight.eraseIdx v.A.toNat).length ≤ 1000 := by have := List.length_eraseIdx_le w.Flight v.A.toNat; omega
          unfold parDo
          split
          · exact bringW_V (setFl_V h hel (erase_V h6 _)) hv.1
          · split
            · split
              · refine setFl_V h (by simp; omega) (fun q hq => ?_)
                simp only [List.mem_append, List.mem_singleton] at hq
                rcases hq with hq | rfl
                · exact h6 q hq
                · exact hv
              · exact h
            · split
              · exact setFl_V h hel (erase_V h6 _)
              · split
                · split
                  · exact setFl_V h (by simp; omega) (set_V h6 _ ⟨hv.1, hv.2.1, by show (bendB p.Bytes v.B v.C).size ≤ 100; rw [bendB_size]; exact hv.2.2⟩)
                  · exact h
                · split
                  · split
                    · exact setFl_V h (by simp; omega) (set_V h6 _ ⟨hv.1, hv.2.1, by
                        show (p.Bytes.extract 0 v.B.toNat).size ≤ 100
                        have := hv.2.2
                        rw [ext_size]; omega⟩)
                    · exact h
                  · have hvt := hv.1
                    exact setFl_V h (by simp; omega) (set_V h6 _ ⟨by show 1 ≤ 3 - p.To ∧ 3 - p.To ≤ 2; omega, hv.2.1, hv.2.2⟩)
        · exact h
      · exact h
    · split
      · rename_i hc
        have hn := hc.2
        obtain ⟨e1, e2⟩ := endAt_V h.2.2.2.2.1 hn
        unfold endDo
        split
        · exact setEn_V h hn (fallM_V _ e1) ((fallM_num e1).trans e2)
        · split
          · exact setEn_V h hn (riseM_V _ e1) ((riseM_num e1).trans e2)
          · split
            · exact pushW_V h hn _
            · exact pullW_V h hn
      · exact h
end Km.X
namespace Km.X
open Go Km
set_option linter.unusedVariables false
set_option linter.unusedSimpArgs false
/-! ### ticks, parcels, pulls: what the program does, and the reference -/
/-! ### a parcel is brought -/
/-! ### a message is taken -/
end Km.X
namespace Km.X
open Go Km
set_option linter.unusedVariables false
/-! ### the document's events -/
/-! ### which event it is -/
/-! ### copies -/
end Km.X
namespace Km.X
open Go Km
set_option linter.unusedVariables false
section
variable (K Fo t1 t2 Tx : ByteArray) (W z Kd A B C : Int) (Es : List DEnd) (Fl : List DParcel) (Gi Ta : List DRecord) (E2 : List DEnd) (F2 : List DParcel) (G2 T2 : List DRecord)
end
end Km.X
namespace Km.X
open Go Km
set_option linter.unusedVariables false
set_option linter.unusedSimpArgs false
/-! ### maps by the key of a pair of lives -/
theorem eq_pair_iff {x y : DPair} : eq_pair x y = true ↔ x = y := ⟨eq_pair_eq, fun h => by subst h; simp [eq_pair]⟩
instance : DecidableEq DPair := fun x y => decidable_of_iff _ eq_pair_iff
def mget {β : Type} (key : DPair) : List (DPair × β) → Option β
  | [] => none
  | (a, b) :: l => if a = key then some b else mget key l
/-! ### what was taken is what was given, life by life -/
/-! ### the document's: each taken one is the one given at its place -/
end Km.X
namespace Km.X
open Go Km
set_option linter.unusedVariables false
set_option linter.unusedSimpArgs false
theorem Wp.optK {α R : Type} {o : Option α} {A : Nat → Option R} {B : Nat → α → Option R} {Q : R → Prop} (h0 : o = none → Wp A Q) (h1 : ∀ p, o = some p → Wp (fun k => B k p) Q) : Wp (fun k => Km.optK o (A k) (B k)) Q := by
  cases o with
  | none => exact h0 rfl
  | some p => exact h1 p rfl
end Km.X
namespace Km.X
open Go Km
set_option linter.unusedVariables false
set_option linter.unusedSimpArgs false
/-! ### calm rounds -/
theorem eq_key_iff {x y : DKey} : eq_key x y = true ↔ x = y := ⟨eq_key_eq, fun h => by subst h; simp [eq_key]⟩
instance : DecidableEq DKey := fun x y => decidable_of_iff _ eq_key_iff
def pk (p : DParcel) : DKey := ⟨p.To, p.Bytes⟩
/-! ### impl -/
section
variable (a b : ByteArray) (z : Int) (E2 : List DEnd) (F2 : List DParcel) (G2 T2 : List DRecord) (Q : DWorld → Prop) (r ev : Int)
end
end Km.X
namespace Km.X
open Go Km
set_option linter.unusedVariables false
set_option linter.unusedSimpArgs false
theorem set_mid {α : Type} (pre t : List α) (y y' : α) : (pre ++ y :: t).set pre.length y' = pre ++ y' :: t := by simp
section
variable (a b : ByteArray) (z : Int) (E2 : List DEnd) (F2 : List DParcel) (G2 T2 : List DRecord) (Q : DWorld → Prop) (r ev i : Int)
end
end Km.X
namespace Km.X
open Go Km
set_option linter.unusedVariables false
set_option linter.unusedSimpArgs false
end Km.X
namespace Km.X
open Go Km
set_option linter.unusedVariables false
set_option linter.unusedSimpArgs false
/-! ### draws -/
def Rd (n : Int) (r : DL1Rd) : Prop := r.b.length ≤ 2000 ∧ (∀ y ∈ r.b, 0 ≤ y ∧ y ≤ 255) ∧ 0 ≤ r.p ∧ r.p ≤ n
theorem Rd.mono {n m : Int} {r : DL1Rd} (h : Rd n r) (hm : n ≤ m) : Rd m r := ⟨h.1, h.2.1, h.2.2.1, by have := h.2.2.2; omega⟩
theorem xor_ok (n m : Nat) (hn : n < 2 ^ 62) (hm : m < 2 ^ 62) : bitsXor .i64 (n : Int) (m : Int) = ((n ^^^ m : Nat) : Int) := by
  have e : ∀ m : Nat, BitVec.ofInt 64 (m : Int) = BitVec.ofNat 64 m := fun m => by
    apply BitVec.eq_of_toNat_eq
    simp [BitVec.toNat_ofInt]
  have hx := Nat.xor_lt_two_pow hn hm
  show IntKind.wrap .i64 ((BitVec.ofInt 64 ((n : Nat) : Int) ^^^ BitVec.ofInt 64 ((m : Nat) : Int)).toNat : Int) = _
  rw [e, e, BitVec.toNat_xor, BitVec.toNat_ofNat, BitVec.toNat_ofNat, Nat.mod_eq_of_lt (by omega), Nat.mod_eq_of_lt (by omega)]
  exact w64' (by omega) (by omega)
theorem idx_get {xs : List Int} {i : Int} (h : 0 ≤ i) (h' : i < xs.length) : ∃ y ∈ xs, idx xs i = some y := by
  have hlt : i.toNat < xs.length := by omega
  have := idx_at hlt
  rw [Int.toNat_of_nonneg h] at this
  exact ⟨_, List.getElem_mem hlt, this⟩
theorem pick_ok (r : DL1Rd) (n a : Int) (h : Rd n r) (hn : n ≤ 1000000) (ha : 1 ≤ a ∧ a ≤ 1000000) : Wp (fun k => spec_l1Rd_pick k r a) (fun v => (0 ≤ v.1 ∧ v.1 < a) ∧ Rd (n + 1) v.2) := by
  obtain ⟨h1, h2, h3, h4⟩ := h
  have R1 : Rd (n + 1) ⟨r.b, r.p + 1⟩ := ⟨h1, h2, by simp only; omega, by simp only; omega⟩
  unfold spec_l1Rd_pick
  rw [w64' (n := r.p + 1) (by omega) (by omega), w64' (n := r.p + 1 - 1) (by omega) (by omega), show r.p + 1 - 1 = r.p by omega]
  simp only [cbdec, cbeq]
  refine Wp.ite (fun h => by omega) (fun _ => ?_)
  refine Wp.ite (fun h => Wp.ret ⟨⟨by omega, by omega⟩, R1⟩) (fun h5 => ?_)
  refine Wp.ite (fun h6 => ?_) (fun h6 => ?_)
  · obtain ⟨y, hy, e⟩ := idx_get h3 h6
    have hy := h2 y hy
    refine Wp.opt e ?_
    rw [w64' (by omega) (by omega)]
    refine Wp.opt (qrem_nn (by omega) (by omega)) ?_
    exact Wp.ret ⟨⟨Int.emod_nonneg _ (by omega), Int.emod_lt_of_pos _ (by omega)⟩, R1⟩
  · refine Wp.opt (qrem_nn h3 (by omega)) ?_
    obtain ⟨y, hy, e⟩ := idx_get (xs := r.b) (Int.emod_nonneg r.p (b := r.b.length) (by omega)) (Int.emod_lt_of_pos _ (by omega))
    have hy := h2 y hy
    refine Wp.opt e ?_
    rw [w64' (n := r.p * 7) (by omega) (by omega), w64' (n := r.p * 7 + 3) (by omega) (by omega)]
    refine Wp.opt (qrem_nn (by omega) (by omega)) ?_
    obtain ⟨z, hz, e⟩ := idx_get (xs := r.b) (Int.emod_nonneg (r.p * 7 + 3) (b := r.b.length) (by omega)) (Int.emod_lt_of_pos _ (by omega))
    have hz := h2 z hz
    refine Wp.opt e ?_
    refine Wp.opt (qdiv_nn h3 (by omega)) ?_
    have hd0 : 0 ≤ r.p / (r.b.length : Int) := Int.ediv_nonneg h3 (by omega)
    have hd1 : r.p / (r.b.length : Int) ≤ r.p := Int.ediv_le_self _ h3
    generalize r.p / (r.b.length : Int) = d at *
    rw [w64' (n := y) (by omega) (by omega), w64' (n := z) (by omega) (by omega), w64' (n := d) (by omega) (by omega), w64' (n := y * 131) (by omega) (by omega), w64' (n := z * 1117) (by omega) (by omega), w64' (n := r.p * 29) (by omega) (by omega), w64' (n := d * 53) (by omega) (by omega), w64' (n := y * 131 + z * 1117) (by omega) (by omega), w64' (n := y * 131 + z * 1117 + r.p * 29) (by omega) (by omega), w64' (n := y * 131 + z * 1117 + r.p * 29 + d * 53) (by omega) (by omega)]
    have hv : 0 ≤ y * 131 + z * 1117 + r.p * 29 + d * 53 ∧ y * 131 + z * 1117 + r.p * 29 + d * 53 ≤ 1000000000 := by omega
    generalize y * 131 + z * 1117 + r.p * 29 + d * 53 = v at *
    refine Wp.opt (qdiv_nn hv.1 (by omega)) ?_
    rw [w64' (n := v / 64) (by omega) (by omega)]
    obtain ⟨m, rfl⟩ := Int.eq_ofNat_of_zero_le hv.1
    rw [show ((m : Int) / 64) = ((m / 64 : Nat) : Int) by omega, xor_ok _ _ (by omega) (by omega)]
    refine Wp.opt (qrem_nn (by omega) (by omega)) ?_
    exact Wp.ret ⟨⟨Int.emod_nonneg _ (by omega), Int.emod_lt_of_pos _ (by omega)⟩, R1⟩
theorem many_loop : ∀ (n : Nat) (s acc : ByteArray), n ≤ 1000000 → acc.size + s.size * n ≤ 1000000 → Wp (fun k => spec_l1Many_l2 k s (n : Int) acc) (fun r => r.size = acc.size + s.size * n)
  | 0, s, acc, hn, h => by
    refine Wp.step ?_
    simp only [spec_l1Many_l2]
    simp (disch := omega) only [cbdec, if_neg]
    exact Wp.ret (by simp)
  | n + 1, s, acc, hn, h => by
    have hs : s.size ≤ s.size * (n + 1) := Nat.le_mul_of_pos_right _ (by omega)
    have hle : (s ++ s).size * ((n + 1) / 2) + s.size * ((n + 1) % 2) = s.size * (n + 1) := by
      rw [ba_size_append]
      have := Nat.div_add_mod (n + 1) 2
      calc (s.size + s.size) * ((n + 1) / 2) + s.size * ((n + 1) % 2) = s.size * (2 * ((n + 1) / 2) + (n + 1) % 2) := by rw [Nat.mul_add, ← Nat.two_mul, Nat.mul_comm 2 s.size, Nat.mul_assoc]
        _ = s.size * (n + 1) := by rw [this]
    have G : ∀ acc' : ByteArray, acc'.size = acc.size + s.size * ((n + 1) % 2) → Wp (fun k => spec_l1Many_l5 k s ((n + 1 : Nat) : Int) acc') (fun r => r.size = acc.size + s.size * (n + 1)) := fun acc' h' => by
      refine Wp.step ?_
      simp only [spec_l1Many_l5]
      refine Wp.opt (sadd_ok (by omega)) ?_
      refine Wp.opt (qdiv_nn (by omega) (by omega)) ?_
      rw [w64' (by omega) (by omega), show ((n + 1 : Nat) : Int) / 2 = (((n + 1) / 2 : Nat) : Int) by omega]
      exact (many_loop ((n + 1) / 2) (s ++ s) acc' (by omega) (by omega)).mono fun r hr => by rw [hr]; omega
    refine Wp.step ?_
    simp only [spec_l1Many_l2]
    simp (disch := omega) only [cbdec, if_pos, cbeq]
    refine Wp.opt (qrem_nn (by omega) (by omega)) ?_
    refine Wp.ite (fun h1 => ?_) (fun h1 => ?_)
    · have e : (n + 1) % 2 = 1 := by omega
      refine Wp.opt (sadd_ok (by omega)) ?_
      exact G _ (by rw [ba_size_append, e]; omega)
    · have e : (n + 1) % 2 = 0 := by omega
      exact G _ (by rw [e]; omega)
theorem many_ok (s : ByteArray) (n : Int) (B : Nat) (hB : B ≤ 1000000) (h : s.size * n.toNat ≤ B) (hn1 : n ≤ 1000000) : Wp (fun k => spec_l1Many k s n) (fun r => r.size ≤ B) := by
  unfold spec_l1Many
  by_cases hn : 0 ≤ n
  · have e0 : (⟨#[]⟩ : ByteArray).size = 0 := rfl
    have := many_loop n.toNat s (⟨#[]⟩ : ByteArray) (by omega) (by rw [e0]; omega)
    rw [Int.toNat_of_nonneg hn] at this
    exact this.mono fun r hr => by rw [hr, e0]; omega
  · refine Wp.step ?_
    simp only [spec_l1Many_l2]
    simp (disch := omega) only [cbdec, if_neg]
    exact Wp.ret (Nat.zero_le _)
theorem letters_loop : ∀ (d : Nat) (n : Int) (r : DL1Rd) (s : ByteArray), Rd n r → n + d ≤ 900000 → s.size + d ≤ 100 → Wp (fun k => spec_l1Message_l12 k s (d : Int) r.b r.p) (fun v => v.1.size ≤ s.size + d ∧ Rd (n + d) v.2)
  | 0, n, r, s, h, hn, hs => by
    refine Wp.step ?_
    simp only [spec_l1Message_l12]
    simp (disch := omega) only [cbdec, if_neg]
    exact Wp.ret ⟨by simp, by simpa using h⟩
  | d + 1, n, r, s, h, hn, hs => by
    refine Wp.step ?_
    simp only [spec_l1Message_l12]
    simp (disch := omega) only [cbdec, if_pos]
    refine Wp.bind (pick_ok r n 5 h (by omega) (by omega)) ?_
    rintro ⟨q, r'⟩ ⟨hq, hr'⟩
    have e5 : (⟨#[97, 98, 99, 100, 32]⟩ : ByteArray).size = 5 := rfl
    simp only at hq
    dsimp only
    refine Wp.opt (wnd_ok (by rw [e5]; omega)) ?_
    dsimp only
    refine Wp.opt (wnd_ok (by simp only [ByteArray.size_extract, e5]; omega)) ?_
    dsimp only
    refine Wp.opt (sadd_ok (by simp only [ByteArray.size_extract, e5]; omega)) ?_
    rw [w64' (by omega) (by omega), show ((d + 1 : Nat) : Int) - 1 = (d : Int) by omega]
    have hsz : ∀ u : ByteArray, (s ++ u.extract (0 : Int).toNat (1 : Int).toNat).size ≤ s.size + 1 := fun u => by
      rw [ba_size_append, ByteArray.size_extract]; omega
    have hz := hsz ((⟨#[97, 98, 99, 100, 32]⟩ : ByteArray).extract q.toNat (((⟨#[97, 98, 99, 100, 32]⟩ : ByteArray).size : Int)).toNat)
    exact (letters_loop d (n + 1) r' _ hr' (by omega) (by omega)).mono fun v hv => ⟨by omega, hv.2.mono (by omega)⟩
theorem message_ok (r : DL1Rd) (n : Int) (h : Rd n r) (hn : 0 ≤ n ∧ n ≤ 800000) : Wp (fun k => spec_l1Message k r) (fun v => v.1.size ≤ 190 ∧ Rd (n + 40) v.2) := by
  unfold spec_l1Message
  refine Wp.bind (pick_ok r n 8 h (by omega) (by omega)) ?_
  rintro ⟨q, r1⟩ ⟨hq, h1⟩
  simp only at hq
  simp only [cbeq]
  refine Wp.ite (fun _ => Wp.ret ⟨Nat.zero_le _, h1.mono (by omega)⟩) (fun _ => ?_)
  refine Wp.ite (fun _ => ?_) (fun _ => ?_)
  · refine Wp.bind (pick_ok r1 _ 5 h1 (by omega) (by omega)) ?_
    rintro ⟨q2, r2⟩ ⟨hq2, h2⟩
    refine Wp.bind (pick_ok r2 _ 3 h2 (by omega) (by omega)) ?_
    rintro ⟨q3, r3⟩ ⟨hq3, h3⟩
    refine Wp.bind (pick_ok r3 _ 2 h3 (by omega) (by omega)) ?_
    rintro ⟨q4, r4⟩ ⟨hq4, h4⟩
    refine Wp.bind (pick_ok r4 _ 2 h4 (by omega) (by omega)) ?_
    rintro ⟨q5, r5⟩ ⟨hq5, h5⟩
    simp only at hq2 hq3 hq4 hq5 ⊢
    have hm : 0 ≤ q4 * q5 ∧ q4 * q5 ≤ 1 := by
      have : q4 = 0 ∨ q4 = 1 := by omega
      rcases this with rfl | rfl <;> omega
    generalize q4 * q5 = m at *
    simp (disch := omega) only [w64']
    refine Wp.bind (many_ok _ _ 190 (by omega) (by show 1 * _ ≤ 190; omega) (by omega)) (fun u hu => ?_)
    exact Wp.ret ⟨hu, h5.mono (by omega)⟩
  refine Wp.ite (fun _ => ?_) (fun _ => ?_)
  · refine Wp.bind (pick_ok r1 _ 19 h1 (by omega) (by omega)) ?_
    rintro ⟨q2, r2⟩ ⟨hq2, h2⟩
    simp only at hq2 ⊢
    simp (disch := omega) only [w64']
    refine Wp.bind (many_ok _ _ 190 (by omega) (by show 10 * _ ≤ 190; omega) (by omega)) (fun u hu => ?_)
    exact Wp.ret ⟨hu, h2.mono (by omega)⟩
  refine Wp.ite (fun _ => Wp.ret ⟨by show 2 ≤ 190; omega, h1.mono (by omega)⟩) (fun _ => ?_)
  refine Wp.bind (pick_ok r1 _ 30 h1 (by omega) (by omega)) ?_
  rintro ⟨q2, r2⟩ ⟨hq2, h2⟩
  simp only at hq2 ⊢
  simp (disch := omega) only [w64']
  have := letters_loop (1 + q2).toNat _ r2 (⟨#[]⟩ : ByteArray) h2 (by omega) (by show 0 + _ ≤ 100; omega)
  rw [Int.toNat_of_nonneg (by omega)] at this
  exact this.mono fun v hv => ⟨by have := hv.1; have e0 : (⟨#[]⟩ : ByteArray).size = 0 := rfl; rw [e0] at this; omega, hv.2.mono (by omega)⟩
/-! ### Join of Cut -/
end Km.X
namespace Km.X
open Go Km
set_option linter.unusedVariables false
set_option linter.unusedSimpArgs false
/-! ### drawn sends -/
theorem both_self {R : Type} (x : Option R) : Km.both x x = x := by unfold Km.both; rw [if_pos rfl]
theorem idx_any {α : Type} {xs : List α} {i : Int} (h : 0 ≤ i) (h' : i < xs.length) : ∃ y ∈ xs, idx xs i = some y ∧ xs[i.toNat]? = some y := by
  have hlt : i.toNat < xs.length := by omega
  have := idx_at hlt
  rw [Int.toNat_of_nonneg h] at this
  exact ⟨_, List.getElem_mem hlt, this, List.getElem?_eq_getElem hlt⟩
def DSd (n : Int) (v : DSend × DL1Rd) : Prop := VSend v.1 ∧ Rd n v.2
theorem d18 (n : Int) (r : DL1Rd) (c b : Int) (e xs : List DItem) (h : VSend ⟨b, xs⟩) (hr : Rd n r) : Wp (fun k => spec_l4Draw_l18 k r.b r.p c b e xs) (DSd n) := by
  refine Wp.step ?_
  simp only [spec_l4Draw_l18]
  refine Wp.bind (l4Copy_ok ⟨b, xs⟩ (by have := h.1; simp only at this ⊢; omega)) (fun r2 q => ?_); rw [q]
  exact Wp.ret ⟨h, hr⟩
theorem d16 (n : Int) (r : DL1Rd) (c b m : Int) (e : List DItem) (hm : m ≤ 60) (hr : Rd n r) : ∀ (d : Nat) (xs : List DItem), VSend ⟨b, xs⟩ → d = (m - xs.length).toNat → Wp (fun k => spec_l4Draw_l16 k m r.b r.p c b e xs) (DSd n)
  | 0, xs, h, hd => by
    refine Wp.step ?_
    simp only [spec_l4Draw_l16]
    simp (disch := omega) only [cbdec, if_neg]
    exact d18 n r c b e xs h hr
  | d + 1, xs, h, hd => by
    refine Wp.step ?_
    simp only [spec_l4Draw_l16]
    obtain ⟨h1, h2, h3, h4⟩ := h
    simp only at h1 h2 h3
    simp (disch := omega) only [cbdec, if_pos, w64']
    refine Wp.ite (fun hb => ?_) (fun hb => d18 n r c b e xs ⟨h1, h2, h3, h4⟩ hr)
    refine Wp.opt (app_ok (by simp; omega)) ?_
    refine d16 n r c b m e hm hr d _ ⟨by simp; omega, h2, by simp; omega, okItems_app h4 ⟨⟨?_, by simp, fun _ => rfl, fun h => by simp at h⟩, trivial⟩⟩ (by simp; omega)
    show 1 ≤ 20
    omega
/-- how many answers the loop has drawn by then -/
theorem d3 : ∀ (d : Nat) (n : Int) (r : DL1Rd) (c b : Int) (e xs : List DItem), VSend ⟨b, xs⟩ → Rd n r → 0 ≤ n → n + 60 * d ≤ 500000 → Wp (fun k => spec_l4Draw_l3 k (d : Int) r.b r.p c b e xs) (DSd (n + 60 * d + 10))
  | 0, n, r, c, b, e, xs, h, hr, hn0, hn => by
    refine Wp.step ?_
    simp only [spec_l4Draw_l3]
    simp (disch := omega) only [cbdec, if_neg, cbeq]
    refine Wp.bind (pick_ok r n 12 hr (by omega) (by omega)) ?_
    rintro ⟨q, r1⟩ ⟨hq, hr1⟩
    simp only
    refine Wp.ite (fun _ => ?_) (fun _ => d18 _ r1 c b e xs h (hr1.mono (by omega)))
    refine Wp.bind (pick_ok r1 _ 3 hr1 (by omega) (by omega)) ?_
    rintro ⟨q2, r2⟩ ⟨hq2, hr2⟩
    simp only at hq2 ⊢
    rw [w64' (by omega) (by omega)]
    exact d16 _ r2 c b _ e (by omega) (hr2.mono (by omega)) _ xs h rfl
  | d + 1, n, r, c, b, e, xs, h, hr, hn0, hn => by
    refine Wp.step ?_
    simp only [spec_l4Draw_l3, both_self]
    have hpos : ((d + 1 : Nat) : Int) > 0 := by omega
    simp only [cbdec, if_pos hpos]
    -- the next message
    have N4 : ∀ (n' : Int) (r' : DL1Rd) (b' : Int) (xs' : List DItem), VSend ⟨b', xs'⟩ → Rd n' r' → n' ≤ n + 60 → Wp (fun k => spec_l4Draw_l4 k ((d + 1 : Nat) : Int) r'.b r'.p c b' e xs') (DSd (n + 60 * (d + 1 : Nat) + 10)) := fun n' r' b' xs' hv hr' hn' => by
      refine Wp.step ?_
      simp only [spec_l4Draw_l4]
      rw [w64' (by omega) (by omega), show ((d + 1 : Nat) : Int) - 1 = (d : Int) by omega]
      exact (d3 d (n + 60) r' c b' e xs' hv (hr'.mono hn') (by omega) (by omega)).mono fun v hv => ⟨hv.1, hv.2.mono (by omega)⟩
    have N9 : ∀ (j : Nat) (n' : Int) (r' : DL1Rd) (b' : Int) (xs' : List DItem), j ≤ 10 → VSend ⟨b', xs'⟩ → Rd n' r' → n' ≤ n + 50 → Wp (fun k => spec_l4Draw_l9 k ((d + 1 : Nat) : Int) (j : Int) r'.b r'.p c b' e xs') (DSd (n + 60 * (d + 1 : Nat) + 10)) := by
      intro j
      induction j with
      | zero =>
        intro n' r' b' xs' hj hv hr' hn'
        refine Wp.step ?_
        simp only [spec_l4Draw_l9]
        simp (disch := omega) only [cbdec, if_neg, cbeq]
        refine Wp.bind (pick_ok r' n' 3 hr' (by omega) (by omega)) ?_
        rintro ⟨q, r1⟩ ⟨hq, hr1⟩
        simp only
        refine Wp.ite (fun _ => ?_) (fun _ => N4 _ r1 b' xs' hv hr1 (by omega))
        refine Wp.bind (pick_ok r1 _ 4 hr1 (by omega) (by omega)) ?_
        rintro ⟨q2, r2⟩ ⟨hq2, hr2⟩
        refine Wp.bind (pick_ok r2 _ 256 hr2 (by omega) (by omega)) ?_
        rintro ⟨q3, r3⟩ ⟨hq3, hr3⟩
        refine Wp.bind (specWord_ok _ _ _) (fun _ q => ?_); subst q
        exact N4 _ r3 _ _ (wordM_ok _ _ _) hr3 (by omega)
      | succ j ih =>
        intro n' r' b' xs' hj hv hr' hn'
        refine Wp.step ?_
        simp only [spec_l4Draw_l9]
        have hpos : ((j + 1 : Nat) : Int) > 0 := by omega
        simp only [cbdec, if_pos hpos]
        refine Wp.bind (specTick_ok _) (fun _ q => ?_); subst q
        rw [w64' (by omega) (by omega), show ((j + 1 : Nat) : Int) - 1 = (j : Int) by omega]
        exact ih n' r' _ _ (by omega) (tickM_ok _).1 hr' hn'
    have N8 : ∀ (n' : Int) (r' : DL1Rd) (b' : Int) (xs' : List DItem), VSend ⟨b', xs'⟩ → Rd n' r' → n' ≤ n + 45 → Wp (fun k => spec_l4Draw_l8 k ((d + 1 : Nat) : Int) r'.b r'.p c b' e xs') (DSd (n + 60 * (d + 1 : Nat) + 10)) := fun n' r' b' xs' hv hr' hn' => by
      refine Wp.step ?_
      simp only [spec_l4Draw_l8]
      refine Wp.bind (pick_ok r' n' 6 hr' (by omega) (by omega)) ?_
      rintro ⟨q, r1⟩ ⟨hq, hr1⟩
      simp only at hq ⊢
      have := N9 q.toNat _ r1 b' xs' (by omega) hv hr1 (by omega)
      rwa [Int.toNat_of_nonneg hq.1] at this
    refine Wp.bind (message_ok r n hr (by omega)) ?_
    rintro ⟨u, r1⟩ ⟨hu, hr1⟩
    refine Wp.bind (specPush_ok _ _) (fun _ q => ?_); subst q
    simp only [cbeq]
    exact Wp.ite (fun _ => N8 _ r1 _ _ (pushM_ok _ _) hr1 (by omega)) (fun _ => N8 _ r1 _ _ h hr1 (by omega))
end Km.X
namespace Km.X
open Go Km
set_option linter.unusedVariables false
set_option linter.unusedSimpArgs false
/-! ### what is written is read back -/
end Km.X
namespace Km.X
open Go Km
set_option linter.unusedVariables false
set_option linter.unusedSimpArgs false
/-! ### picks -/
theorem Wp.pick {R : Type} {Q : R → Prop} {g : Nat → Int × DL1Rd → Option R} {r : DL1Rd} {n a : Int} (h : Rd n r) (hn : n ≤ 1000000) (ha : 1 ≤ a ∧ a ≤ 1000000) (H : ∀ q r', 0 ≤ q → q < a → Rd (n + 1) r' → Wp (fun k => g k (q, r')) Q) : Wp (fun k => (spec_l1Rd_pick k r a).bind (g k)) Q :=
  Wp.bind (pick_ok r n a h hn ha) (fun v hv => H v.1 v.2 hv.1.1 hv.1.2 hv.2)
theorem Wp.from {R α : Type} {Q : R → Prop} {xs : List α} {i : Int} {g : Nat → α → Option R} (h0 : 0 ≤ i) (h1 : i < xs.length) (H : ∀ y ∈ xs, Wp (fun k => g k y) Q) : Wp (fun k => (idx xs i).bind (g k)) Q := by
  obtain ⟨y, hy, e, _⟩ := idx_any h0 h1
  exact Wp.opt e (H y hy)
/-! ### drawn packets -/
end Km.X
namespace Km.X
open Go Km
set_option linter.unusedVariables false
set_option linter.unusedSimpArgs false
/-! ### worlds that events lead to -/
def newW (b : ByteArray) (wd : Int) : DWorld := if (1 ≤ wd ∧ wd ≤ 8) ∧ b.size ≤ 30 then ⟨b, wd, [newM 1, newM 2], [], noB, [], []⟩ else noWorld
theorem specNewW_ok (b : ByteArray) (wd : Int) : Wp (fun k => spec_NewWorld k b wd) (· = newW b wd) := by
  unfold spec_NewWorld newW
  refine Wp.bind (l1In_ok _ _ _) (fun _ e => ?_); subst e
  refine Wp.not (fun h => ?_) (fun h => ?_)
  · simp only [Bool.and_eq_false_iff, decide_eq_false_iff_not] at h
    exact Wp.ret (by rw [if_neg (fun g => by omega)]; rfl)
  simp only [Bool.and_eq_true, decide_eq_true_eq] at h
  refine Wp.dec (fun h1 => Wp.ret (by rw [if_neg (fun g => by omega)]; rfl)) (fun h1 => ?_)
  refine Wp.bind (specNew_ok 1) (fun _ e => ?_); subst e
  refine Wp.bind (specNew_ok 2) (fun _ e => ?_); subst e
  exact Wp.ret (by rw [if_pos ⟨h, by omega⟩])
theorem newE_V : VEnd (newM 1) ∧ VEnd (newM 2) := by decide
theorem newW_V {b : ByteArray} {wd : Int} (hb : b.size ≤ 30) (hw : 1 ≤ wd ∧ wd ≤ 8) : VWorld (newW b wd) := by
  unfold newW
  rw [if_pos ⟨hw, hb⟩]
  exact ⟨hw, hb, by simp, by simp, vends_of newE_V.1 rfl newE_V.2 rfl, (fun p hp => by cases hp), (fun p hp => by cases hp), (fun p hp => by cases hp)⟩
/-- reached with so many falls and so many steps -/
inductive Reach : Nat → Nat → DWorld → Prop
  | new {b : ByteArray} {wd : Int} : b.size ≤ 30 → (1 ≤ wd ∧ wd ≤ 8) → Reach 0 0 (newW b wd)
  | step {n m : Nat} {w : DWorld} (v : DEvent) : Reach n m w → Reach (n + if v.Kind = 8 then 1 else 0) (m + 1) (doW w v)
  | more {n m n' m' : Nat} {w : DWorld} : n ≤ n' → m ≤ m' → Reach n m w → Reach n' m' w
theorem Reach.V {n m : Nat} {w : DWorld} (h : Reach n m w) : VWorld w := by
  induction h with
  | new h1 h2 => exact newW_V h1 h2
  | step v _ ih => exact doW_V ih v
  | more _ _ _ ih => exact ih
theorem Reach.go {n m : Nat} {w : DWorld} (h : Reach n m w) {v : DEvent} (hv : v.Kind ≠ 8) : Reach n (m + 1) (doW w v) := by
  have := Reach.step v h
  rw [if_neg hv] at this
  exact this
/-! ### drawn events -/
/-! ### worlds that drawn events led to -/
section
variable (a b : ByteArray) (z : Int) (E2 : List DEnd) (F2 : List DParcel) (G2 T2 : List DRecord)
end
end Km.X
namespace Km.X
open Go Km
set_option linter.unusedVariables false
set_option linter.unusedSimpArgs false
theorem implNewW_ok (b : ByteArray) (wd : Int) : Wp (fun k => impl_NewWorld k b wd) (· = newW b wd) := by
  unfold impl_NewWorld newW
  refine Wp.dec (fun h => Wp.ret (by rw [if_neg (fun g => by omega)]; rfl)) (fun h1 => ?_)
  refine Wp.dec (fun h => Wp.ret (by rw [if_neg (fun g => by omega)]; rfl)) (fun h2 => ?_)
  refine Wp.dec (fun h => Wp.ret (by rw [if_neg (fun g => by omega)]; rfl)) (fun h3 => ?_)
  refine Wp.bind (implNew_ok 1) (fun _ e => ?_); subst e
  refine Wp.bind (implNew_ok 2) (fun _ e => ?_); subst e
  exact Wp.ret (by rw [if_pos ⟨by omega, by omega⟩])
end Km.X
namespace Km.X
open Go Km
set_option linter.unusedVariables false
set_option linter.unusedSimpArgs false

theorem eqParcel_ok (x : DParcel) (h : smParcel x) : Wp (fun k => laws_eqParcel k x x) (· = true) := by
  unfold laws_eqParcel
  unfold smParcel at h
  obtain ⟨h0, h1⟩ := h
  simp only [w64', cbdec, cbnot, cbeq, cbne, cbseq, cbbeq, cond_true, cond_false, Option.bind_some, Bool.not_true, Bool.not_false, if_true, if_false]
  exact Wp.ret rfl
theorem eqRecord_ok (x : DRecord) (h : smRecord x) : Wp (fun k => laws_eqRecord k x x) (· = true) := by
  unfold laws_eqRecord
  unfold smRecord at h
  have h0 := h
  simp only [w64', cbdec, cbnot, cbeq, cbne, cbseq, cbbeq, cond_true, cond_false, Option.bind_some, Bool.not_true, Bool.not_false, if_true, if_false]
  exact Wp.ret rfl
theorem eqEndS_ok (xs : List DEnd) (h : smL smEnd xs) : Wp (fun k => laws_eqEndS k xs xs) (· = true) := by
  unfold laws_eqEndS
  obtain ⟨hl, hp⟩ := h
  simp only [cbne, if_true]
  refine Wp.loop (n := xs.length) (f := fun k i (_ : Unit) => laws_eqEndS_l4 k xs xs (i : Int)) (Inv := fun _ _ => True) (Q := (· = true)) ?_ ?_ xs.length 0 () (by omega) trivial
  · rintro i _ hi _ ih
    refine Wp.step ?_
    simp only [laws_eqEndS_l4]
    simp (disch := omega) only [cbdec, if_pos, idxN, Option.bind_some, w64', castS]
    refine Wp.bind (eqEnd_ok _ (hp _ (List.getElem_mem hi))) (fun _ e => ?_); subst e
    simp only [w64', cbdec, cbnot, cbeq, cbne, cbseq, cbbeq, cond_true, cond_false, Option.bind_some, Bool.not_true, Bool.not_false, if_true, if_false]
    exact ih () trivial
  · rintro _ _
    refine Wp.step ?_
    simp only [laws_eqEndS_l4]
    simp (disch := omega) only [cbdec, if_neg]
    exact Wp.ret rfl
theorem eqParcelS_ok (xs : List DParcel) (h : smL smParcel xs) : Wp (fun k => laws_eqParcelS k xs xs) (· = true) := by
  unfold laws_eqParcelS
  obtain ⟨hl, hp⟩ := h
  simp only [cbne, if_true]
  refine Wp.loop (n := xs.length) (f := fun k i (_ : Unit) => laws_eqParcelS_l4 k xs xs (i : Int)) (Inv := fun _ _ => True) (Q := (· = true)) ?_ ?_ xs.length 0 () (by omega) trivial
  · rintro i _ hi _ ih
    refine Wp.step ?_
    simp only [laws_eqParcelS_l4]
    simp (disch := omega) only [cbdec, if_pos, idxN, Option.bind_some, w64', castS]
    refine Wp.bind (eqParcel_ok _ (hp _ (List.getElem_mem hi))) (fun _ e => ?_); subst e
    simp only [w64', cbdec, cbnot, cbeq, cbne, cbseq, cbbeq, cond_true, cond_false, Option.bind_some, Bool.not_true, Bool.not_false, if_true, if_false]
    exact ih () trivial
  · rintro _ _
    refine Wp.step ?_
    simp only [laws_eqParcelS_l4]
    simp (disch := omega) only [cbdec, if_neg]
    exact Wp.ret rfl
theorem eqRecordS_ok (xs : List DRecord) (h : smL smRecord xs) : Wp (fun k => laws_eqRecordS k xs xs) (· = true) := by
  unfold laws_eqRecordS
  obtain ⟨hl, hp⟩ := h
  simp only [cbne, if_true]
  refine Wp.loop (n := xs.length) (f := fun k i (_ : Unit) => laws_eqRecordS_l4 k xs xs (i : Int)) (Inv := fun _ _ => True) (Q := (· = true)) ?_ ?_ xs.length 0 () (by omega) trivial
  · rintro i _ hi _ ih
    refine Wp.step ?_
    simp only [laws_eqRecordS_l4]
    simp (disch := omega) only [cbdec, if_pos, idxN, Option.bind_some, w64', castS]
    refine Wp.bind (eqRecord_ok _ (hp _ (List.getElem_mem hi))) (fun _ e => ?_); subst e
    simp only [w64', cbdec, cbnot, cbeq, cbne, cbseq, cbbeq, cond_true, cond_false, Option.bind_some, Bool.not_true, Bool.not_false, if_true, if_false]
    exact ih () trivial
  · rintro _ _
    refine Wp.step ?_
    simp only [laws_eqRecordS_l4]
    simp (disch := omega) only [cbdec, if_neg]
    exact Wp.ret rfl
theorem eqWorld_ok (x : DWorld) (h : smWorld x) : Wp (fun k => laws_eqWorld k x x) (· = true) := by
  unfold laws_eqWorld
  unfold smWorld at h
  obtain ⟨h0, h1, h2, h3, h4, h5⟩ := h
  simp only [w64', cbdec, cbnot, cbeq, cbne, cbseq, cbbeq, cond_true, cond_false, Option.bind_some, Bool.not_true, Bool.not_false, if_true, if_false]
  refine Wp.bind (eqEndS_ok _ h1) (fun _ e => ?_); subst e
  simp only [w64', cbdec, cbnot, cbeq, cbne, cbseq, cbbeq, cond_true, cond_false, Option.bind_some, Bool.not_true, Bool.not_false, if_true, if_false]
  refine Wp.bind (eqParcelS_ok _ h2) (fun _ e => ?_); subst e
  simp only [w64', cbdec, cbnot, cbeq, cbne, cbseq, cbbeq, cond_true, cond_false, Option.bind_some, Bool.not_true, Bool.not_false, if_true, if_false]
  refine Wp.bind (eqRecordS_ok _ h4) (fun _ e => ?_); subst e
  simp only [w64', cbdec, cbnot, cbeq, cbne, cbseq, cbbeq, cond_true, cond_false, Option.bind_some, Bool.not_true, Bool.not_false, if_true, if_false]
  refine Wp.bind (eqRecordS_ok _ h5) (fun _ e => ?_); subst e
  simp only [w64', cbdec, cbnot, cbeq, cbne, cbseq, cbbeq, cond_true, cond_false, Option.bind_some, Bool.not_true, Bool.not_false, if_true, if_false]
  exact Wp.ret rfl
end Km.X
