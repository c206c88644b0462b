/- A part of the proof: an abstract machine over the program (sound by its theorems), or definitions printed by it. There is no condition. -/
import Derived.Test.YtpedakafdiejfaaKmCall
namespace Km
open Go
set_option linter.unusedVariables false
set_option linter.unusedSimpArgs false

variable {κ : Type} {Ty : κ → Type} {R : Type}

theorem backO_length (g : Nat → Option Nat) : ∀ (l : List Nat) (os objs : Objs κ Ty), (backO g objs l os).length = objs.length
  | [], _, _ => by simp [backO]
  | i :: l, [], _ => by simp [backO]
  | i :: l, o :: os, objs => by simp [backO, backO_length g l os]
theorem backO_out (g : Nat → Option Nat) : ∀ (l : List Nat) (os objs : Objs κ Ty) (i : Nat), i ∉ l → (backO g objs l os)[i]? = objs[i]?
  | [], _, _, _, _ => by simp [backO]
  | k :: l, [], _, _, _ => by simp [backO]
  | k :: l, o :: os, objs, i, h => by
    simp only [List.mem_cons, not_or] at h
    simp only [backO]
    rw [backO_out g l os _ i h.2, List.getElem?_set_ne (Ne.symm h.1)]
theorem backO_in (g : Nat → Option Nat) : ∀ (l : List Nat) (os objs : Objs κ Ty) (j i : Nat) (o : AObj κ Ty), l.Nodup → (∀ i ∈ l, i < objs.length) → l[j]? = some i → os[j]? = some o → (backO g objs l os)[i]? = some (renO g o)
  | [], _, _, _, _, _, _, _, h, _ => by simp at h
  | k :: l, [], _, _, _, _, _, _, _, h => by simp at h
  | k :: l, o :: os, objs, 0, i, o', hn, hl, h, ho => by
    simp at h ho; subst h; subst ho
    simp only [backO]
    have hk : k ∉ l := (List.nodup_cons.mp hn).1
    rw [backO_out g l os _ k hk]
    have := hl k (by simp)
    simp [this]
  | k :: l, o :: os, objs, j + 1, i, o', hn, hl, h, ho => by
    simp only [backO]
    exact backO_in g l os _ j i o' (List.nodup_cons.mp hn).2 (fun i hi => by simp; exact hl i (by simp [hi])) (by simpa using h) (by simpa using ho)

section
variable {P : Program} {C : Cod κ Ty} {T : TypeId → Option (TI κ Ty)}
variable {Mut : Nat → Prop} {Lent : Org κ Ty} {w0 w w' : World} {ρ ρ' ρ2 : Nat → Loc} {env : Env κ Ty} {objs objs' objs2 : Objs κ Ty} {tm : Array Value}

/-- where things lie behind the call -/
def backρ (ρ ρ' : Nat → Loc) (n : Nat) (l : List Nat) : Nat → Loc := fun i => match posN l i 0 with
  | some j => ρ' j
  | none => if i < n then ρ i else ρ' (l.length + (i - n))
def backOs (objs : Objs κ Ty) (l : List Nat) (o' : Objs κ Ty) : Objs κ Ty := backO (backN objs.length l) objs l o' ++ (o'.drop l.length).map (renO (backN objs.length l))

theorem backOs_cases {l : List Nat} {o' : Objs κ Ty} (hn : l.Nodup) (hl : ∀ i ∈ l, i < objs.length) (hlen : l.length ≤ o'.length) (i : Nat) :
    (i < objs.length ∧ i ∉ l ∧ (backOs objs l o')[i]? = objs[i]? ∧ backρ ρ ρ' objs.length l i = ρ i) ∨
    (∃ j o, o'[j]? = some o ∧ backN objs.length l j = some i ∧ (backOs objs l o')[i]? = some (renO (backN objs.length l) o) ∧ backρ ρ ρ' objs.length l i = ρ' j) ∨
    (backOs objs l o')[i]? = none := by
  by_cases hi : i < objs.length
  · cases hp : posN l i 0 with
    | none =>
      refine .inl ⟨hi, posN_none hp, ?_, by simp [backρ, hp, hi]⟩
      unfold backOs
      rw [List.getElem?_append_left (by rw [backO_length]; exact hi), backO_out _ _ _ _ _ (posN_none hp)]
    | some j =>
      obtain ⟨_, h2⟩ := posN_some hp
      simp only [Nat.sub_zero] at h2
      have hj := (List.getElem?_eq_some_iff.mp h2).1
      have ho : o'[j]? = some (o'[j]'(by omega)) := List.getElem?_eq_getElem _
      refine .inr (.inl ⟨j, _, ho, by simp [backN, h2], ?_, by simp [backρ, hp]⟩)
      unfold backOs
      rw [List.getElem?_append_left (by rw [backO_length]; exact hi)]
      exact backO_in _ l o' objs j i _ hn hl h2 ho
  · have hp : posN l i 0 = none := by
      cases hp : posN l i 0 with
      | none => rfl
      | some j =>
        obtain ⟨_, h2⟩ := posN_some hp
        simp only [Nat.sub_zero] at h2
        exact absurd (hl i (List.mem_of_getElem? h2)) hi
    by_cases hk : l.length + (i - objs.length) < o'.length
    · have ho : o'[l.length + (i - objs.length)]? = some (o'[l.length + (i - objs.length)]'hk) := List.getElem?_eq_getElem _
      refine .inr (.inl ⟨_, _, ho, ?_, ?_, by simp [backρ, hp, hi]⟩)
      · have : l[l.length + (i - objs.length)]? = none := List.getElem?_eq_none (by omega)
        simp only [backN, this]; congr 1; omega
      · unfold backOs
        rw [List.getElem?_append_right (by rw [backO_length]; omega), backO_length, List.getElem?_map, List.getElem?_drop, ho]; rfl
    · refine .inr (.inr ?_)
      refine List.getElem?_eq_none ?_
      simp [backOs, backO_length]; omega

theorem back_ren {l : List Nat} {o' : Objs κ Ty} (hn : l.Nodup) (hl : ∀ i ∈ l, i < objs.length) (hlen : l.length ≤ o'.length) : Ren (backN objs.length l) ρ' o' (backρ ρ ρ' objs.length l) (backOs objs l o') := by
  intro j i o hg ho
  have hjo := (List.getElem?_eq_some_iff.mp ho).1
  unfold backN at hg
  split at hg
  · rename_i i' hj
    cases hg
    refine ⟨?_, by simp [backρ, posN_at hn hj]⟩
    unfold backOs
    rw [List.getElem?_append_left (by rw [backO_length]; exact hl _ (List.mem_of_getElem? hj))]
    exact backO_in _ l o' objs j i _ hn hl hj ho
  · rename_i hj
    have hj' : l.length ≤ j := by
      rcases Nat.lt_or_ge j l.length with h | h
      · rw [List.getElem?_eq_getElem h] at hj; cases hj
      · exact h
    cases hg
    have hp : posN l (objs.length + (j - l.length)) 0 = none := by
      cases hp : posN l (objs.length + (j - l.length)) 0 with
      | none => rfl
      | some q =>
        obtain ⟨_, h2⟩ := posN_some hp
        simp only [Nat.sub_zero] at h2
        have := hl _ (List.mem_of_getElem? h2); omega
    refine ⟨?_, ?_⟩
    · unfold backOs
      rw [List.getElem?_append_right (by rw [backO_length]; omega), backO_length, List.getElem?_map, List.getElem?_drop]
      rw [show l.length + (objs.length + (j - l.length) - objs.length) = j by omega, ho]; rfl
    · simp only [backρ, hp]
      rw [if_neg (by omega)]
      congr 1; omega

/-- behind a call: the caller's state -/
theorem call_back (HC : CodOk C) (S : SRel C Mut Lent w0 ρ env objs tm w) {l : List Nat} (hn : l.Nodup) (hl : ∀ i ∈ l, i < objs.length) {o' : Objs κ Ty}
    (S' : SRel C (lentMut Mut ρ objs l) ⟨lentρ ρ l, lentO objs l⟩ w ρ' [] o' #[] w') (hs : ∀ o ∈ o', safeO C o = true) :
    SRel C Mut Lent w0 (backρ ρ ρ' objs.length l) env (backOs objs l o') tm w' ∧
      ∀ (v : AV κ Ty) (u : Value), (∀ vs, v = .tup vs → vs.all safe2 = true) → ((∀ vs, v ≠ .tup vs) → safe2 v = true) → VRel C w' (lentMut Mut ρ objs l) ρ' o' v u → VRel C w' Mut (backρ ρ ρ' objs.length l) (backOs objs l o') (renV (backN objs.length l) v) u := by
  have hlen : l.length ≤ o'.length := by have := S'.len; simpa [lentO] using this
  have G := back_ren (ρ := ρ) (ρ' := ρ') hn hl hlen
  have cs := backOs_cases (ρ := ρ) (ρ' := ρ') hn hl hlen
  have foot : ∀ i b, FootAt (backρ ρ ρ' objs.length l) (backOs objs l o') i b → (i < objs.length ∧ i ∉ l ∧ FootAt ρ objs i b) ∨ (∃ j, backN objs.length l j = some i ∧ FootAt ρ' o' j b) := by
    intro i b h
    rcases cs i with ⟨h1, h2, h3, h4⟩ | ⟨j, o, h1, h2, h3, h4⟩ | h1
    · refine .inl ⟨h1, h2, ?_⟩
      unfold FootAt at h ⊢; rw [h3, h4] at h; exact h
    · exact .inr ⟨j, h2, (footAt_ren h1 h3 h4).mp h⟩
    · unfold FootAt at h; rw [h1] at h; exact h.elim
  have hX : Wider false (lentMut Mut ρ objs l) ρ' o' Mut (backρ ρ ρ' objs.length l) (backOs objs l o') := by
    intro b k hb h h'
    have hb : b = false := by cases b <;> simp_all
    subst hb
    rcases h' with ⟨i, hi⟩ | ⟨_, hm⟩
    · rcases foot i k hi with ⟨_, h2, h3⟩ | ⟨j, _, h3⟩
      · exact h (.inr ⟨rfl, .inr ⟨i, h2, h3⟩⟩)
      · exact h (.inl ⟨j, h3⟩)
    · exact h (.inr ⟨rfl, .inl hm⟩)
  have lfoot : ∀ b, FootB (lentρ ρ l) (lentO objs l) b → FootB ρ objs b := fun b ⟨j, hj⟩ => by
    obtain ⟨i, _, h⟩ := lent_foot hl hj; exact ⟨i, h⟩
  have W : WStep w w' (FootB ρ objs) (FootB (backρ ρ ρ' objs.length l) (backOs objs l o')) := by
    refine ⟨fun b hb hf => S'.frame b hb (fun h => hf (lfoot b h)), S'.size, fun b ⟨i, hi⟩ => ?_⟩
    rcases foot i b hi with ⟨_, _, h⟩ | ⟨j, _, h⟩
    · exact .inl ⟨i, h⟩
    · rcases (S'.live b ⟨j, h⟩).2 with h | h
      · exact .inl (lfoot b h)
      · exact .inr h
  have hcm : ∀ i, Compat ρ objs (backρ ρ ρ' objs.length l) (backOs objs l o') i := by
    intro i
    by_cases hi : i < objs.length
    · rcases cs i with ⟨h1, h2, h3, h4⟩ | ⟨j, o, h1, h2, h3, h4⟩ | h1
      · exact Compat.of_eq (fun _ => h3) (fun _ => h4)
      · -- lent
        have hj : l[j]? = some i := by
          unfold backN at h2
          split at h2
          · rename_i i' hj; cases h2; exact hj
          · cases h2; omega
        have hc := S'.comp j
        have hjl := (List.getElem?_eq_some_iff.mp hj).1
        have hlo : (lentO objs l)[j]? = some (renO (posN l · 0) objs[i]) := by
          simp only [lentO, List.getElem?_map, hj, Option.map_some, List.getElem?_eq_getElem hi]
        have hlρ : lentρ ρ l j = ρ i := by simp [lentρ, List.getD, hj]
        unfold Compat at hc ⊢
        rw [List.getElem?_eq_getElem hi]
        simp only [hlo] at hc
        cases ho : objs[i] with
        | dead =>
          simp only [ho, renO] at hc ⊢
          refine ⟨?_, ?_⟩
          · have := hc.1; unfold boxOf at this ⊢; rw [h1] at this; rw [h3]; cases o <;> simp_all [renO]
          · have := hc.2; unfold slOf at this ⊢; rw [h1] at this; rw [h3]; cases o <;> simp_all [renO]
        | box cs' =>
          simp only [ho, renO] at hc ⊢
          rcases hc with ⟨cs2, e1, e2⟩ | ⟨e1, e2⟩
          · rw [h1] at e1; cases e1
            exact .inl ⟨_, h3, by rw [h4, e2, hlρ]⟩
          · refine .inr ⟨?_, ?_⟩
            · unfold boxOf at e1 ⊢; rw [h1] at e1; rw [h3]; cases o <;> simp_all [renO]
            · unfold slOf at e2 ⊢; rw [h1] at e2; rw [h3]; cases o <;> simp_all [renO]
        | sl t xs =>
          simp only [ho, renO] at hc ⊢
          rcases hc with ⟨ys, e1, e2, e3⟩ | ⟨e1, e2⟩
          · rw [h1] at e1; cases e1
            exact .inl ⟨_, h3, e2, by rw [h4, e3, hlρ]⟩
          · refine .inr ⟨?_, ?_⟩
            · unfold boxOf at e1 ⊢; rw [h1] at e1; rw [h3]; cases o <;> simp_all [renO]
            · unfold slOf at e2 ⊢; rw [h1] at e2; rw [h3]; cases o <;> simp_all [renO]
      · have : (backOs objs l o').length = objs.length + (o'.length - l.length) := by simp [backOs, backO_length]
        rw [List.getElem?_eq_none_iff] at h1; omega
    · unfold Compat
      rw [List.getElem?_eq_none (by omega)]; trivial
  have hlen2 : objs.length ≤ (backOs objs l o').length := by simp [backOs, backO_length]
  refine ⟨S.step W hlen2 hcm (fun i => ?_) (fun i j b hi hj => ?_) S'.os S'.tape S'.output, fun v u h1 h2 h => renV_rel HC G hX (fun _ => h1) (fun _ => h2) h⟩
  · rcases cs i with ⟨h1, h2, h3, h4⟩ | ⟨j, o, h1, h2, h3, h4⟩ | h1
    · refine ORel.step W hlen2 hcm (S.ob i) h3 h4 (fun b hb => S'.frame b (S.flt hb) (fun ⟨j, hj⟩ => ?_))
      obtain ⟨p, g1, g2⟩ := lent_foot hl hj
      exact h2 (S.inj i p b hb g2 ▸ List.mem_of_getElem? g1)
    · exact ORel.ren HC G hX h2 h1 (fun _ => hs o (List.mem_of_getElem? h1)) (S'.ob j)
    · unfold ORel; rw [h1]; trivial
  · rcases foot i b hi with ⟨h1, h2, h3⟩ | ⟨p, h2, h3⟩ <;> rcases foot j b hj with ⟨g1, g2, g3⟩ | ⟨q, g2, g3⟩
    · exact S.inj i j b h3 g3
    · exact absurd (.inr ⟨i, h2, h3⟩) (S'.live b ⟨q, g3⟩).1
    · exact absurd (.inr ⟨j, g2, g3⟩) (S'.live b ⟨p, h3⟩).1
    · have := S'.inj p q b h3 g3
      subst this
      rw [h2] at g2; cases g2; rfl

end
end Km
