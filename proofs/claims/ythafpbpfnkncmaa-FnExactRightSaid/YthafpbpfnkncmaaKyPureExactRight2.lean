/- A part of the proof of FnExactRight: plain laws of these functions. There is no condition. -/
import Derived.Test.YthafpbpfnkncmaaKyPureExactRight1
import Derived.Test.YthafpbpfnkncmaaKxDef2
namespace Km.X
open Go Km
set_option linter.unusedVariables false
set_option linter.unusedSimpArgs false
/-- a packet that may be written -/
def Fits (p : DPacket) : Prop :=
  (1 ≤ p.From ∧ p.From ≤ 2) ∧ (1 ≤ p.Mine ∧ p.Mine ≤ 1000) ∧ (0 ≤ p.Yours ∧ p.Yours ≤ 1000) ∧
  ((p.Kind = 1 ∧ (0 ≤ p.Next ∧ p.Next ≤ 1000000) ∧ (0 ≤ p.Mask ∧ p.Mask ≤ 255) ∧ p.Seq = 0 ∧ p.Last = false ∧ p.Part = noB) ∨
   (p.Kind = 2 ∧ p.Next = 0 ∧ p.Mask = 0 ∧ (0 ≤ p.Seq ∧ p.Seq ≤ 999999) ∧ p.Part.size ≤ 20))
instance (p : DPacket) : Decidable (Fits p) := by unfold Fits; infer_instance

/-! ### numbers in bytes -/
def N (w : Nat) (x : Int) : ByteArray := bstr (bytesL w x.toNat)
end Km.X
namespace Km.X
open Go Km
set_option linter.unusedVariables false
set_option linter.unusedSimpArgs false
/-! ### EndTake -/
end Km.X
namespace Km.X
open Go Km
set_option linter.unusedVariables false
set_option linter.unusedSimpArgs false
def at' (b : ByteArray) (i : Nat) : UInt8 := b.data.toList.getD i 0
end Km.X
namespace Km.X
open Go Km
set_option linter.unusedVariables false
set_option linter.unusedSimpArgs false
/-! ### valid ends stay valid -/
/-! ### the world, as it goes on -/
/-! ### a valid world stays valid -/
end Km.X
namespace Km.X
open Go Km
set_option linter.unusedVariables false
set_option linter.unusedSimpArgs false
/-! ### ticks, parcels, pulls: what the program does, and the reference -/
/-! ### a parcel is brought -/
/-! ### a message is taken -/
end Km.X
namespace Km.X
open Go Km
set_option linter.unusedVariables false
/-! ### the document's events -/
/-! ### which event it is -/
/-! ### copies -/
end Km.X
namespace Km.X
open Go Km
set_option linter.unusedVariables false
theorem both_same {R : Type} (x : Option R) : Km.both x x = x := by unfold Km.both; rw [if_pos rfl]
section
variable (K Fo t1 t2 Tx : ByteArray) (W z Kd A B C : Int) (Es : List DEnd) (Fl : List DParcel) (Gi Ta : List DRecord) (E2 : List DEnd) (F2 : List DParcel) (G2 T2 : List DRecord)
end
end Km.X
namespace Km.X
open Go Km
set_option linter.unusedVariables false
set_option linter.unusedSimpArgs false
/-! ### maps by the key of a pair of lives -/
theorem eq_pair_iff {x y : DPair} : eq_pair x y = true ↔ x = y := ⟨eq_pair_eq, fun h => by subst h; simp [eq_pair]⟩
instance : DecidableEq DPair := fun x y => decidable_of_iff _ eq_pair_iff
def mget {β : Type} (key : DPair) : List (DPair × β) → Option β
  | [] => none
  | (a, b) :: l => if a = key then some b else mget key l
theorem mfind_none {β : Type} {key : DPair} : ∀ {l : List (DPair × β)} {i : Nat}, mfind (eq_pair key) l i = none → mget key l = none
  | [], _, _ => rfl
  | (a, b) :: l, i, h => by
    simp only [mfind] at h
    split at h
    · cases h
    · rename_i hq
      simp only [mget]
      rw [if_neg (fun e => by subst e; rw [eq_pair_iff.mpr rfl] at hq; cases hq)]
      exact mfind_none h
theorem mfind_some {β : Type} {key : DPair} : ∀ {l : List (DPair × β)} {i j : Nat} {b : β}, mfind (eq_pair key) l i = some (j, b) → ∃ d, j = i + d ∧ l[d]? = some (key, b) ∧ mget key l = some b ∧ ∀ v key', mget key' (l.set d (key, v)) = if key' = key then some v else mget key' l
  | [], _, _, _, h => by cases h
  | (a, c) :: l, i, j, b, h => by
    simp only [mfind] at h
    split at h
    · rename_i hq
      have := eq_pair_eq hq; subst this
      cases h
      refine ⟨0, rfl, rfl, by simp only [mget, if_true], fun v key' => ?_⟩
      simp only [List.set_cons_zero, mget]
      by_cases e : key = key'
      · subst e; simp
      · rw [if_neg e, if_neg e, if_neg (fun g => e g.symm)]
    · rename_i hq
      have hne : a ≠ key := fun e => by subst e; rw [eq_pair_iff.mpr rfl] at hq; cases hq
      obtain ⟨d, e1, e2, e3, e4⟩ := mfind_some h
      refine ⟨d + 1, by omega, e2, by simp only [mget]; rw [if_neg hne, e3], fun v key' => ?_⟩
      simp only [List.set_cons_succ, mget, e4]
      by_cases e : a = key'
      · subst e; rw [if_pos rfl, if_neg hne, if_pos rfl]
      · rw [if_neg e, if_neg e]
theorem mget_append {β : Type} {key key' : DPair} {v : β} : ∀ (l : List (DPair × β)), mget key l = none → mget key' (l ++ [(key, v)]) = if key' = key then some v else mget key' l
  | [], _ => by
    simp only [List.nil_append, mget]
    by_cases e : key = key'
    · subst e; simp
    · rw [if_neg e, if_neg (fun g => e g.symm)]
  | (a, b) :: l, h => by
    simp only [mget] at h
    split at h
    · cases h
    · rename_i hne
      simp only [List.cons_append, mget, mget_append l h]
      by_cases e : a = key'
      · subst e; rw [if_pos rfl, if_neg hne, if_pos rfl]
      · rw [if_neg e, if_neg e]
theorem set_last {α : Type} (l : List α) (x y : α) : (l ++ [x]).set l.length y = l ++ [y] := by simp
theorem mod_same {β : Type} {l : List (DPair × β)} {d : Nat} {key : DPair} {b : β} (h : l[d]? = some (key, b)) : (l.modify d fun e => (e.1, b)) = l := by
  obtain ⟨h1, h2⟩ := List.getElem?_eq_some_iff.mp h
  apply List.ext_getElem?
  intro i
  rw [List.getElem?_modify]
  by_cases e : d = i
  · subst e; rw [h]; simp
  · cases l[i]? <;> simp [e]
/-! ### what was taken is what was given, life by life -/
def kf (r : DRecord) : DPair := ⟨r.From, r.A, r.B⟩
def recsOf (l : List DRecord) (key : DPair) : List ByteArray := (l.filter (fun r => decide (kf r = key))).map (·.Text)
theorem recsOf_snoc (l : List DRecord) (r : DRecord) (key : DPair) : recsOf (l ++ [r]) key = if key = kf r then recsOf l key ++ [r.Text] else recsOf l key := by
  unfold recsOf
  rw [List.filter_append, List.map_append]
  by_cases e : kf r = key
  · subst e; simp
  · rw [if_neg (fun g => e g.symm)]; simp [e]
theorem recsOf_cons (l : List DRecord) (r : DRecord) (key : DPair) : recsOf (r :: l) key = if kf r = key then r.Text :: recsOf l key else recsOf l key := by
  unfold recsOf
  by_cases e : kf r = key
  · simp [e]
  · simp [e]
theorem recsOf_len (l : List DRecord) (key : DPair) : (recsOf l key).length ≤ l.length := by
  unfold recsOf; rw [List.length_map]; exact List.length_filter_le _ _
def rightL (G : List DRecord) : List DRecord → List DRecord → Bool
  | _, [] => true
  | pre, r :: t => decide ((recsOf G (kf r))[(recsOf pre (kf r)).length]? = some r.Text) && rightL G (pre ++ [r]) t
def rightM (w : DWorld) : Bool := decide (VWorld w) && rightL w.Given [] w.Taken
/-! ### the document's: each taken one is the one given at its place -/
def seen (th : Bool) (n : Int) (t : List DRecord) (x : DRecord) : Bool := th || decide (0 ≤ n ∧ (recsOf t (kf x))[n.toNat]? = some x.Text)
theorem sr15 (K Fo : ByteArray) (W i : Int) (Es : List DEnd) (Fl : List DParcel) (Ta : List DRecord) (x : DRecord) (Q : Bool → Prop) (G : List DRecord) (hG : G.length ≤ 1000) : ∀ (t pre : List DRecord) (n : Int) (th : Bool), pre ++ t = G → (-(pre.length : Int) ≤ n ∧ n ≤ 1000) →
    (seen th n t x = true → Wp (fun k => spec_Right_l4 k (IntKind.wrap .i64 (i + 1)) K W Es Fl Fo G Ta) Q) → (seen th n t x = false → Q false) →
    Wp (fun k => spec_Right_l15 k i n th (pre.length : Int) K W Es Fl Fo G Ta x.From x.A x.B x.Text) Q
  | [], pre, n, th, he, hn, go, no => by
    have he' : pre = G := by simpa using he
    refine Wp.step ?_
    simp only [spec_Right_l15]
    refine Wp.dec (fun h => by rw [← he'] at h; omega) (fun _ => ?_)
    have e : seen th n [] x = th := by simp [seen, recsOf]
    refine Wp.not (fun h => ?_) (fun h => go (by rw [e, h]))
    exact Wp.ret (no (by rw [e, h]))
  | y :: t, pre, n, th, he, hn, go, no => by
    have hl : pre.length + (y :: t).length ≤ 1000 := by rw [← List.length_append, he]; exact hG
    simp only [List.length_cons] at hl
    refine Wp.step ?_
    simp only [spec_Right_l15]
    refine Wp.dec (fun _ => ?_) (fun h => absurd (by rw [← he]; simp; omega) h)
    rw [show idx G (pre.length : Int) = some y by rw [← he]; exact idx_mid]
    simp only [Option.bind_some, cbeq]
    have nx : ∀ (m : Int) (b : Bool), (n - 1 ≤ m ∧ m ≤ n) → seen b m t x = seen th n (y :: t) x → Wp (fun k => spec_Right_l16 k i m b (pre.length : Int) K W Es Fl Fo G Ta x.From x.A x.B x.Text) Q := fun m b hm hs => by
      refine Wp.step ?_
      simp only [spec_Right_l16]
      rw [w64' (n := (pre.length : Int) + 1) (by omega) (by omega)]
      have := sr15 K Fo W i Es Fl Ta x Q G hG t (pre ++ [y]) m b (by rw [← he]; simp) (by simp; omega) (fun h => go (hs ▸ h)) (fun h => no (hs ▸ h))
      rw [show ((pre ++ [y]).length : Int) = (pre.length : Int) + 1 by simp] at this
      exact this
    have other : kf y ≠ kf x → Wp (fun k => spec_Right_l16 k i n th (pre.length : Int) K W Es Fl Fo G Ta x.From x.A x.B x.Text) Q := fun hne => by
      refine nx n th (by omega) ?_
      simp only [seen, recsOf_cons, if_neg hne]
    refine Wp.ite (fun e1 => ?_) (fun e1 => other (fun g => e1 (congrArg DPair.f g)))
    refine Wp.ite (fun e2 => ?_) (fun e2 => other (fun g => e2 (congrArg DPair.a g)))
    refine Wp.ite (fun e3 => ?_) (fun e3 => other (fun g => e3 (congrArg DPair.b g)))
    have hk : kf y = kf x := by simp [kf, e1, e2, e3]
    rw [w64' (n := n - 1) (by omega) (by omega)]
    refine Wp.bif (fun h => ?_) (fun h => ?_)
    · exact nx _ _ (by omega) (by simp [seen, h])
    · refine Wp.ite (fun h0 => ?_) (fun h0 => ?_)
      · rw [seqB]
        refine nx _ _ (by omega) ?_
        subst h0
        simp only [seen, h, recsOf_cons, if_pos hk]
        simp
      · refine nx _ _ (by omega) ?_
        simp only [seen, h, recsOf_cons, if_pos hk, Bool.false_or]
        apply decide_eq_decide.mpr
        constructor
        · rintro ⟨h1, h2⟩
          refine ⟨by omega, ?_⟩
          rw [show n.toNat = (n - 1).toNat + 1 by omega, List.getElem?_cons_succ]; exact h2
        · rintro ⟨h1, h2⟩
          refine ⟨by omega, ?_⟩
          rw [show n.toNat = (n - 1).toNat + 1 by omega, List.getElem?_cons_succ] at h2; exact h2
theorem sr9 (K Fo : ByteArray) (W i : Int) (Es : List DEnd) (Fl : List DParcel) (G : List DRecord) (x : DRecord) (Q : Bool → Prop) (Ta : List DRecord) (hT : Ta.length ≤ 1000) : ∀ (p2 p1 rest : List DRecord), p1 ++ p2 ++ rest = Ta → i = ((p1 ++ p2).length : Int) →
    Wp (fun k => spec_Right_l15 k i ((recsOf (p1 ++ p2) (kf x)).length : Int) false 0 K W Es Fl Fo G Ta x.From x.A x.B x.Text) Q →
    Wp (fun k => spec_Right_l9 k i ((recsOf p1 (kf x)).length : Int) (p1.length : Int) K W Es Fl Fo G Ta x.From x.A x.B x.Text) Q
  | [], p1, rest, he, hi, go => by
    simp only [List.append_nil] at hi go
    refine Wp.step ?_
    simp only [spec_Right_l9]
    refine Wp.dec (fun h => by omega) (fun _ => go)
  | y :: p2, p1, rest, he, hi, go => by
    have hl : p1.length + (p2.length + 1) + rest.length ≤ 1000 := by
      have : (p1 ++ (y :: p2) ++ rest).length ≤ 1000 := by rw [he]; exact hT
      simp at this; omega
    refine Wp.step ?_
    simp only [spec_Right_l9]
    refine Wp.dec (fun _ => ?_) (fun h => absurd (by rw [hi]; simp; omega) h)
    rw [show idx Ta (p1.length : Int) = some y by rw [← he, List.append_assoc]; exact idx_mid]
    simp only [Option.bind_some, cbeq]
    have hlen := recsOf_len p1 (kf x)
    have nx : Wp (fun k => spec_Right_l10 k i ((recsOf (p1 ++ [y]) (kf x)).length : Int) (p1.length : Int) K W Es Fl Fo G Ta x.From x.A x.B x.Text) Q := by
      refine Wp.step ?_
      simp only [spec_Right_l10]
      rw [w64' (n := (p1.length : Int) + 1) (by omega) (by omega)]
      have := sr9 K Fo W i Es Fl G x Q Ta hT p2 (p1 ++ [y]) rest (by rw [← he]; simp) (by rw [hi]; simp) (by simpa using go)
      rw [show ((p1 ++ [y]).length : Int) = (p1.length : Int) + 1 by simp] at this
      exact this
    have other : kf y ≠ kf x → Wp (fun k => spec_Right_l10 k i ((recsOf p1 (kf x)).length : Int) (p1.length : Int) K W Es Fl Fo G Ta x.From x.A x.B x.Text) Q := fun hne => by
      rw [recsOf_snoc, if_neg (fun g => hne g.symm)] at nx; exact nx
    refine Wp.ite (fun e1 => ?_) (fun e1 => other (fun g => e1 (congrArg DPair.f g)))
    refine Wp.ite (fun e2 => ?_) (fun e2 => other (fun g => e2 (congrArg DPair.a g)))
    refine Wp.ite (fun e3 => ?_) (fun e3 => other (fun g => e3 (congrArg DPair.b g)))
    have hk : kf x = kf y := by simp [kf, e1, e2, e3]
    rw [w64' (n := ((recsOf p1 (kf x)).length : Int) + 1) (by omega) (by omega)]
    rw [recsOf_snoc, if_pos hk, List.length_append] at nx
    exact nx
theorem sr4 (K Fo : ByteArray) (W : Int) (Es : List DEnd) (Fl : List DParcel) (G Ta : List DRecord) (hG : G.length ≤ 1000) (hT : Ta.length ≤ 1000) : ∀ (t pre : List DRecord), pre ++ t = Ta → Wp (fun k => spec_Right_l4 k (pre.length : Int) K W Es Fl Fo G Ta) (· = rightL G pre t)
  | [], pre, he => by
    have he' : pre = Ta := by simpa using he
    refine Wp.step ?_
    simp only [spec_Right_l4]
    refine Wp.dec (fun h => by rw [← he'] at h; omega) (fun _ => Wp.ret rfl)
  | x :: t, pre, he => by
    have hl : pre.length + (t.length + 1) ≤ 1000 := by
      have : (pre ++ (x :: t)).length ≤ 1000 := by rw [he]; exact hT
      simpa using this
    refine Wp.step ?_
    simp only [spec_Right_l4]
    refine Wp.dec (fun _ => ?_) (fun h => absurd (by rw [← he]; simp; omega) h)
    rw [show idx Ta (pre.length : Int) = some x by rw [← he]; exact idx_mid]
    simp only [Option.bind_some]
    have hlen := recsOf_len pre (kf x)
    refine sr9 K Fo W (pre.length : Int) Es Fl G x _ Ta hT pre [] (x :: t) (by simpa using he) (by simp) ?_
    simp only [List.nil_append]
    refine sr15 K Fo W (pre.length : Int) Es Fl Ta x _ G hG G [] _ false rfl (by simp; omega) (fun hs => ?_) (fun hs => ?_)
    · rw [w64' (n := (pre.length : Int) + 1) (by omega) (by omega)]
      have := sr4 K Fo W Es Fl G Ta hG hT t (pre ++ [x]) (by rw [← he]; simp)
      rw [show ((pre ++ [x]).length : Int) = (pre.length : Int) + 1 by simp] at this
      refine this.mono fun r hr => ?_
      rw [hr]
      simp only [seen, Bool.false_or, decide_eq_true_eq, Int.toNat_natCast] at hs
      simp only [rightL, decide_eq_true hs.2, Bool.true_and]
    · simp only [seen, Bool.false_or, decide_eq_false_iff_not, Int.toNat_natCast] at hs
      simp only [rightL]
      rw [decide_eq_false (fun g => hs ⟨by omega, g⟩)]; rfl
theorem specRight_ok (w : DWorld) (hb : w.Given.length ≤ 1048576 ∧ w.Taken.length ≤ 1048576) : Wp (fun k => spec_Right k w) (· = rightM w) := by
  unfold spec_Right rightM
  refine Wp.bind (specValidWorld_ok w hb) (fun _ e => ?_); subst e
  refine Wp.not (fun h => Wp.ret (by rw [h]; rfl)) (fun h => ?_)
  have hv := of_decide_eq_true h
  have h4 := hv.2.2.2.1
  rw [h]
  exact sr4 w.Key w.Forged w.Width w.Ends w.Flight w.Given w.Taken (by omega) (by omega) w.Taken [] rfl
end Km.X
namespace Km.X
open Go Km
set_option linter.unusedVariables false
set_option linter.unusedSimpArgs false
theorem Wp.optK {α R : Type} {o : Option α} {A : Nat → Option R} {B : Nat → α → Option R} {Q : R → Prop} (h0 : o = none → Wp A Q) (h1 : ∀ p, o = some p → Wp (fun k => B k p) Q) : Wp (fun k => Km.optK o (A k) (B k)) Q := by
  cases o with
  | none => exact h0 rfl
  | some p => exact h1 p rfl
theorem mfind_append {β : Type} {key : DPair} {v : β} : ∀ {l : List (DPair × β)} {i : Nat}, mfind (eq_pair key) l i = none → mfind (eq_pair key) (l ++ [(key, v)]) i = some (i + l.length, v)
  | [], i, _ => by simp only [List.nil_append, mfind, eq_pair_iff.mpr rfl]; rfl
  | (a, b) :: l, i, h => by
    simp only [mfind] at h
    split at h
    · cases h
    · rename_i hq
      simp only [List.cons_append, mfind, hq]
      rw [mfind_append h]; simp; omega
def GivI (m : List (DPair × List ByteArray)) (pre : List DRecord) : Prop := ∀ key, (mget key m).getD [] = recsOf pre key
def AtI (m : List (DPair × Int)) (pre : List DRecord) : Prop := ∀ key, (mget key m).getD 0 = ((recsOf pre key).length : Int)
theorem ir5 (K Fo : ByteArray) (W : Int) (Es : List DEnd) (Fl : List DParcel) (G Ta : List DRecord) (hG : G.length ≤ 1000) (Q : Bool → Prop) : ∀ (t pre : List DRecord) (m : List (DPair × List ByteArray)), pre ++ t = G → GivI m pre →
    (∀ m, GivI m G → Wp (fun k => impl_Right_l12 k Ta (Ta.length : Int) 0 m []) Q) →
    Wp (fun k => impl_Right_l5 k G (G.length : Int) (pre.length : Int) K W Es Fl Fo G Ta m) Q
  | [], pre, m, he, hi, go => by
    have he' : pre = G := by simpa using he
    refine Wp.step ?_
    simp only [impl_Right_l5]
    refine Wp.dec (fun h => by rw [he'] at h; omega) (fun _ => ?_)
    exact go m (he' ▸ hi)
  | x :: t, pre, m, he, hi, go => by
    have hl : pre.length + (t.length + 1) ≤ 1000 := by
      have : (pre ++ (x :: t)).length ≤ 1000 := by rw [he]; exact hG
      simpa using this
    refine Wp.step ?_
    simp only [impl_Right_l5]
    refine Wp.dec (fun _ => ?_) (fun h => absurd (by rw [← he]; simp; omega) h)
    rw [show idx G (pre.length : Int) = some x by rw [← he]; exact idx_mid]
    simp only [Option.bind_some]
    have hk : (⟨x.From, x.A, x.B⟩ : DPair) = kf x := rfl
    rw [hk, w64' (n := (pre.length : Int) + 1) (by omega) (by omega)]
    have hlen := recsOf_len pre (kf x)
    have nx : ∀ m', GivI m' (pre ++ [x]) → Wp (fun k => impl_Right_l5 k G (G.length : Int) ((pre.length : Int) + 1) K W Es Fl Fo G Ta m') Q := fun m' h' => by
      have := ir5 K Fo W Es Fl G Ta hG Q t (pre ++ [x]) m' (by rw [← he]; simp) h' go
      rw [show ((pre ++ [x]).length : Int) = (pre.length : Int) + 1 by simp] at this
      exact this
    refine Wp.optK (fun h0 => ?_) (fun p h1 => ?_)
    · have hn := mfind_none h0
      refine Wp.opt (app_ok (by simp)) ?_
      refine Wp.opt (x := (kf x, [])) (by rw [idx_nat]; simp) ?_
      dsimp only
      rw [Int.toNat_natCast, set_last]
      refine nx _ (fun key => ?_)
      rw [mget_append m hn, recsOf_snoc]
      by_cases e : key = kf x
      · subst e
        rw [if_pos rfl, if_pos rfl, ← hi, hn]; rfl
      · rw [if_neg e, if_neg e, hi]
    · obtain ⟨j, b⟩ := p
      obtain ⟨d, e1, e2, e3, e4⟩ := mfind_some h1
      rw [Nat.zero_add] at e1; subst e1
      have hb := hi (kf x)
      rw [e3] at hb
      simp only [Option.getD_some] at hb
      subst hb
      refine Wp.opt (app_ok (by simp; omega)) ?_
      dsimp only
      rw [Int.toNat_natCast, show Nat.beq j j = true by simp, idx_nat, e2]
      simp only [cond_true, Option.bind_some]
      refine nx _ (fun key => ?_)
      rw [e4, recsOf_snoc]
      by_cases e : key = kf x
      · rw [if_pos e, if_pos e, e]; rfl
      · rw [if_neg e, if_neg e, hi]
theorem ir17 (Ta : List DRecord) (x : DRecord) (Q : Bool → Prop) (i c : Int) (x3 : List (DPair × List ByteArray)) (x4 : List (DPair × Int)) (hc : (mget (kf x) x4).getD 0 = c) (hcb : 0 ≤ c ∧ c ≤ 1000)
    (go : ∀ m, (∀ key, (mget key m).getD 0 = if key = kf x then c + 1 else (mget key x4).getD 0) → Wp (fun k => impl_Right_l12 k Ta (Ta.length : Int) (IntKind.wrap .i64 (i + 1)) x3 m) Q) :
    Wp (fun k => impl_Right_l17 k Ta (Ta.length : Int) i x3 x4 x.From x.A x.B) Q := by
  refine Wp.step ?_
  simp only [impl_Right_l17]
  rw [show (⟨x.From, x.A, x.B⟩ : DPair) = kf x from rfl]
  cases h4 : mfind (eq_pair (kf x)) x4 0 with
  | none =>
    have hn := mfind_none h4
    rw [hn] at hc
    simp only [Option.getD_none] at hc
    subst hc
    simp only [Km.optK, mfind_append h4, Nat.zero_add, idx_nat, Int.toNat_natCast, set_last]
    simp only [List.getElem?_append_right (Nat.le_refl _), Nat.sub_self, List.getElem?_cons_zero, Option.bind_some, both_same]
    rw [w64' (n := 0 + 1) (by omega) (by omega)]
    refine go _ (fun key => ?_)
    rw [mget_append x4 hn]
    by_cases e : key = kf x
    · rw [if_pos e, if_pos e]; rfl
    · rw [if_neg e, if_neg e]
  | some p =>
    obtain ⟨j, b⟩ := p
    obtain ⟨d, e1, e2, e3, e4⟩ := mfind_some h4
    rw [Nat.zero_add] at e1; subst e1
    rw [e3] at hc
    simp only [Option.getD_some] at hc
    subst hc
    simp only [Km.optK, idx_nat, e2, Option.bind_some, Int.toNat_natCast, both_same]
    rw [w64' (n := b + 1) (by omega) (by omega)]
    refine go _ (fun key => ?_)
    rw [e4]
    by_cases e : key = kf x
    · rw [if_pos e, if_pos e]; rfl
    · rw [if_neg e, if_neg e]
theorem ir12 (G Ta : List DRecord) (hG : G.length ≤ 1000) (hT : Ta.length ≤ 1000) (x3 : List (DPair × List ByteArray)) (h3 : GivI x3 G) : ∀ (t pre : List DRecord) (x4 : List (DPair × Int)), pre ++ t = Ta → AtI x4 pre → Wp (fun k => impl_Right_l12 k Ta (Ta.length : Int) (pre.length : Int) x3 x4) (· = rightL G pre t)
  | [], pre, x4, he, hi => by
    have he' : pre = Ta := by simpa using he
    refine Wp.step ?_
    simp only [impl_Right_l12]
    refine Wp.dec (fun h => by rw [he'] at h; omega) (fun _ => Wp.ret rfl)
  | x :: t, pre, x4, he, hi => by
    have hl : pre.length + (t.length + 1) ≤ 1000 := by
      have : (pre ++ (x :: t)).length ≤ 1000 := by rw [he]; exact hT
      simpa using this
    have hlen := recsOf_len pre (kf x)
    have hglen := recsOf_len G (kf x)
    have hc := hi (kf x)
    have hg := h3 (kf x)
    have nx : ∀ c : Int, ((recsOf pre (kf x)).length : Int) = c → (recsOf G (kf x))[c.toNat]? = some x.Text → Wp (fun k => impl_Right_l17 k Ta (Ta.length : Int) (pre.length : Int) x3 x4 x.From x.A x.B) (· = rightL G pre (x :: t)) := fun c hcc hx => by
      refine ir17 Ta x _ (pre.length : Int) c x3 x4 (by rw [hc, hcc]) (by omega) (fun m hm => ?_)
      rw [w64' (n := (pre.length : Int) + 1) (by omega) (by omega)]
      have := ir12 G Ta hG hT x3 h3 t (pre ++ [x]) m (by rw [← he]; simp) (fun key => by
        rw [hm, recsOf_snoc]
        by_cases e : key = kf x
        · rw [if_pos e, if_pos e, e, List.length_append, ← hcc]; rfl
        · rw [if_neg e, if_neg e, hi])
      rw [show ((pre ++ [x]).length : Int) = (pre.length : Int) + 1 by simp] at this
      refine this.mono fun r hr => ?_
      rw [hr]
      simp only [rightL]
      rw [show (recsOf pre (kf x)).length = c.toNat by omega, hx]; simp
    have no : ∀ c : Int, ((recsOf pre (kf x)).length : Int) = c → ¬ (recsOf G (kf x))[c.toNat]? = some x.Text → false = rightL G pre (x :: t) := fun c hcc hx => by
      simp only [rightL]
      rw [decide_eq_false (by rw [show (recsOf pre (kf x)).length = c.toNat by omega]; exact hx)]; rfl
    refine Wp.step ?_
    simp only [impl_Right_l12]
    refine Wp.dec (fun _ => ?_) (fun h => absurd (by rw [← he]; simp; omega) h)
    rw [show idx Ta (pre.length : Int) = some x by rw [← he]; exact idx_mid]
    simp only [Option.bind_some]
    rw [show (⟨x.From, x.A, x.B⟩ : DPair) = kf x from rfl]
    have fin : ∀ (g : List ByteArray) (c : Int), recsOf G (kf x) = g → ((recsOf pre (kf x)).length : Int) = c → ¬ (c ≥ (g.length : Int)) → Wp (fun k => (idx g c).bind fun _ => (g[c.toNat]?).bind fun y => bif (!(y.toList == x.Text.toList)) then some false else impl_Right_l17 k Ta (Ta.length : Int) (pre.length : Int) x3 x4 x.From x.A x.B) (· = rightL G pre (x :: t)) := fun g c hgg hcc hlt => by
      have hx : g[c.toNat]? = some (g[c.toNat]'(by omega)) := List.getElem?_eq_getElem (by omega)
      generalize g[c.toNat]'(by omega) = y at hx
      have hx' : idx g c = some y := by have := idx_nat g c.toNat; rw [Int.toNat_of_nonneg (by omega)] at this; rw [this, hx]
      refine Wp.opt hx' (Wp.opt hx ?_)
      simp only [cbnot, cbseq]
      refine Wp.ite (fun e => nx c hcc (by rw [hgg, hx, e])) (fun e => Wp.ret (no c hcc (by rw [hgg, hx]; simpa using e)))
    cases h4 : mfind (eq_pair (kf x)) x4 0 with
    | none =>
      rw [mfind_none h4] at hc
      simp only [Option.getD_none] at hc
      cases h5 : mfind (eq_pair (kf x)) x3 0 with
      | none =>
        rw [mfind_none h5] at hg
        simp only [Option.getD_none] at hg
        simp only [Km.optK]
        refine Wp.dec (fun _ => Wp.ret (no 0 hc.symm (by rw [← hg]; simp))) (fun h => absurd (by simp) h)
      | some p =>
        obtain ⟨j, b⟩ := p
        obtain ⟨d, e1, e2, e3, e4⟩ := mfind_some h5
        rw [Nat.zero_add] at e1; subst e1
        rw [e3] at hg
        simp only [Option.getD_some] at hg
        simp only [Km.optK, mod_same e2, h5]
        refine Wp.dec (fun h => Wp.ret (no 0 hc.symm (by rw [← hg, List.getElem?_eq_none (by omega)]; simp))) (fun h => fin b 0 hg.symm hc.symm h)
    | some q =>
      obtain ⟨jq, c⟩ := q
      obtain ⟨dq, f1, f2, f3, f4⟩ := mfind_some h4
      rw [f3] at hc
      simp only [Option.getD_some] at hc
      cases h5 : mfind (eq_pair (kf x)) x3 0 with
      | none =>
        rw [mfind_none h5] at hg
        simp only [Option.getD_none] at hg
        simp only [Km.optK]
        refine Wp.dec (fun _ => Wp.ret (no c hc.symm (by rw [← hg]; simp))) (fun h => absurd (by simp; omega) h)
      | some p =>
        obtain ⟨j, b⟩ := p
        obtain ⟨d, e1, e2, e3, e4⟩ := mfind_some h5
        rw [Nat.zero_add] at e1; subst e1
        rw [e3] at hg
        simp only [Option.getD_some] at hg
        simp only [Km.optK, mod_same e2, h5]
        refine Wp.dec (fun h => Wp.ret (no c hc.symm (by rw [← hg, List.getElem?_eq_none (by omega)]; simp))) (fun h => fin b c hg.symm hc.symm h)
theorem implRight_ok (w : DWorld) (hb : w.Given.length ≤ 1048576 ∧ w.Taken.length ≤ 1048576) : Wp (fun k => impl_Right k w) (· = rightM w) := by
  unfold impl_Right rightM
  refine Wp.bind (implValidWorld_ok w hb) (fun _ e => ?_); subst e
  refine Wp.not (fun h => Wp.ret (by rw [h]; rfl)) (fun h => ?_)
  have hv := of_decide_eq_true h
  have h4 := hv.2.2.2.1
  rw [h]
  exact ir5 w.Key w.Forged w.Width w.Ends w.Flight w.Given w.Taken (by omega) _ w.Given [] [] rfl (fun key => rfl) (fun m hm => ir12 w.Given w.Taken (by omega) (by omega) m hm w.Taken [] [] rfl (fun key => rfl))
end Km.X
namespace Km.X
open Go Km
set_option linter.unusedVariables false
set_option linter.unusedSimpArgs false
theorem exact_FnExactRight (a : DWorld) (h : wfDWorld a) : ∃ k, laws_FnExactRight k a = some true := by
  refine Wp.exists (f := fun k => laws_FnExactRight k a) ?_
  unfold laws_FnExactRight
  refine Wp.bind (szWorld_ok a h 1048576 (by omega)) ?_
  rintro r ⟨_, hr⟩
  refine Wp.dec (fun h => Wp.ret rfl) (fun h0 => ?_)
  have ha := hr (by omega)
  have hb : a.Given.length ≤ 1048576 ∧ a.Taken.length ≤ 1048576 := ⟨ha.2.2.2.2.1.1, ha.2.2.2.2.2.1⟩
  have hs := specRight_ok a hb
  have hi := implRight_ok a hb
  generalize rightM a = v at *
  repeat' (first
    | exact Wp.ret rfl
    | (refine Wp.bind hs ?_; rintro _ rfl)
    | (refine Wp.bind hi ?_; rintro _ rfl)
    | (refine Wp.bind (toWorld_ok _ (by assumption)) ?_; rintro _ rfl)
    | (refine Wp.bind (eqWorld_ok _ (by assumption)) ?_; rintro _ rfl)
    | simp (disch := first | omega | rfl) only [cbdec, cbnot, cbeq, cbne, cbseq, cbbeq, cond_true, cond_false, Option.bind_some, Bool.not_true, Bool.not_false, if_true, if_false, if_neg, if_pos])
end Km.X
