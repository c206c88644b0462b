/- A part of the proof: an abstract machine over the program (sound by its theorems), or definitions printed by it. There is no condition. -/
import Derived.Test.YtpedakafdiejfaaKmOps7
namespace Km
open Go
set_option linter.unusedVariables false
set_option linter.unusedSimpArgs false

variable {κ : Type} {Ty : κ → Type} {R : Type}
section
variable {P : Program} {C : Cod κ Ty} {T : TypeId → Option (TI κ Ty)}
variable {Mut Mut2 : Nat → Prop} {Lent : Org κ Ty} {w0 w w' : World} {ρ ρ2 : Nat → Loc} {env : Env κ Ty} {objs objs2 : Objs κ Ty} {tm : Array Value} {g : Nat → Option Nat}

/-- objects under new numbers -/
def Ren (g : Nat → Option Nat) (ρ : Nat → Loc) (objs : Objs κ Ty) (ρ2 : Nat → Loc) (objs2 : Objs κ Ty) : Prop :=
  ∀ i j o, g i = some j → objs[i]? = some o → objs2[j]? = some (renO g o) ∧ ρ2 j = ρ i

/-- what is out of bounds there is out of bounds here -/
def Wider (fl : Bool) (Mut : Nat → Prop) (ρ : Nat → Loc) (objs : Objs κ Ty) (Mut2 : Nat → Prop) (ρ2 : Nat → Loc) (objs2 : Objs κ Ty) : Prop :=
  ∀ b k, (b = true → fl = true) → ¬ Xs Mut ρ objs b k → ¬ Xs Mut2 ρ2 objs2 b k

theorem deep_ctx (HC : CodOk C) {fl : Bool} (hX : Wider fl Mut ρ objs Mut2 ρ2 objs2) {v : AV κ Ty} {u : Value} (h : VRel C w Mut ρ objs v u) :
    ((∃ x, v = .lit x) ∨ (∃ b t xs, v = .inl b t xs ∧ (b = true → fl = true))) → VRel C w Mut2 ρ2 objs2 v u := by
  induction h with
  | lit h => intro _; exact .lit h
  | @inl b t xs A c blk off vals hb hc hA hcell hrel ih =>
    rintro (⟨x, h⟩ | ⟨b', t', xs', h, hfl⟩)
    · cases h
    · cases h
      refine .inl (blk := blk) (off := off) hb hc (fun hne => ?_) hcell (fun i x j cl hx hj => ih i x j cl hx hj ?_)
      · obtain ⟨a1, a2, a3⟩ := hA hne
        exact ⟨a1, a2, hX _ _ hfl a3⟩
      · rcases HC.deep t x cl (enc_cell HC hj) with ⟨q, rfl⟩ | ⟨s, ys, rfl, hs⟩
        · exact .inl ⟨_, rfl⟩
        · refine .inr ⟨_, _, _, rfl, fun h => ?_⟩
          have h1 := hs h
          cases hbb : b with
          | true => exact hfl hbb
          | false => rw [hb hbb] at h1; cases h1
  | nil => rintro (⟨x, h⟩ | ⟨b', t', xs', h, hfl⟩) <;> cases h
  | cadr => rintro (⟨x, h⟩ | ⟨b', t', xs', h, hfl⟩) <;> cases h
  | ref => rintro (⟨x, h⟩ | ⟨b', t', xs', h, hfl⟩) <;> cases h
  | refd => rintro (⟨x, h⟩ | ⟨b', t', xs', h, hfl⟩) <;> cases h
  | eref => rintro (⟨x, h⟩ | ⟨b', t', xs', h, hfl⟩) <;> cases h
  | erefd => rintro (⟨x, h⟩ | ⟨b', t', xs', h, hfl⟩) <;> cases h
  | own => rintro (⟨x, h⟩ | ⟨b', t', xs', h, hfl⟩) <;> cases h
  | ownd => rintro (⟨x, h⟩ | ⟨b', t', xs', h, hfl⟩) <;> cases h
  | sub => rintro (⟨x, h⟩ | ⟨b', t', xs', h, hfl⟩) <;> cases h
  | subd => rintro (⟨x, h⟩ | ⟨b', t', xs', h, hfl⟩) <;> cases h
  | agg => rintro (⟨x, h⟩ | ⟨b', t', xs', h, hfl⟩) <;> cases h
  | tup => rintro (⟨x, h⟩ | ⟨b', t', xs', h, hfl⟩) <;> cases h
  | void => rintro (⟨x, h⟩ | ⟨b', t', xs', h, hfl⟩) <;> cases h
  | undef => rintro (⟨x, h⟩ | ⟨b', t', xs', h, hfl⟩) <;> cases h

theorem renO_sl {o : AObj κ Ty} {t : κ} {xs : List (Ty t)} (h : o = .sl t xs) : renO g o = .sl t xs := by subst h; rfl

theorem Ren.lt (G : Ren g ρ objs ρ2 objs2) {i j : Nat} (h : g i = some j) (hi : i < objs.length) : j < objs2.length :=
  (List.getElem?_eq_some_iff.mp (G i j _ h (List.getElem?_eq_getElem hi)).1).1

theorem Ren.box_none (G : Ren g ρ objs ρ2 objs2) {i j : Nat} (h : g i = some j) (hi : i < objs.length) (hb : boxOf objs i = none) : boxOf objs2 j = none := by
  have h1 := (G i j _ h (List.getElem?_eq_getElem hi)).1
  have h2 := boxOf_none hb
  rw [List.getElem?_eq_getElem hi] at h2
  unfold boxOf; rw [h1]
  cases ho : objs[i] with
  | dead => rfl
  | box cs => exact absurd (by rw [ho]) (h2 cs)
  | sl t xs => rfl
theorem Ren.sl_none (G : Ren g ρ objs ρ2 objs2) {i j : Nat} (h : g i = some j) (hi : i < objs.length) (hb : slOf objs i = none) : slOf objs2 j = none := by
  have h1 := (G i j _ h (List.getElem?_eq_getElem hi)).1
  have h2 := slOf_none hb
  rw [List.getElem?_eq_getElem hi] at h2
  unfold slOf; rw [h1]
  cases ho : objs[i] with
  | dead => rfl
  | box cs => rfl
  | sl t xs => exact absurd (by rw [ho]) (h2 t xs)

theorem ren1_rel (HC : CodOk C) {fl : Bool} (G : Ren g ρ objs ρ2 objs2) (hX : Wider fl Mut ρ objs Mut2 ρ2 objs2) {v : AV κ Ty} {u : Value} (hs : fl = false → safe1 v = true) (h : VRel C w Mut ρ objs v u) :
    VRel C w Mut2 ρ2 objs2 (ren1 g v) u := by
  cases h with
  | lit h => exact .lit h
  | nil => exact .nil
  | inl hb hc hA hcell hrel =>
    refine deep_ctx HC hX (.inl hb hc hA hcell hrel) (.inr ⟨_, _, _, rfl, fun h => ?_⟩)
    cases hf : fl with
    | true => rfl
    | false => have := hs hf; simp [safe1, h] at this
  | cadr => exact .undef
  | ref h1 =>
    simp only [ren1]
    split
    · rename_i j hj
      obtain ⟨e1, e2⟩ := G _ _ _ hj h1
      rw [← e2]; exact .ref e1
    · exact .undef
  | refd hc hin h1 =>
    simp only [ren1]
    split
    · rename_i j hj; exact .refd hc (G.lt hj hin) (G.box_none hj hin h1)
    · exact .undef
  | eref h1 hi =>
    simp only [ren1]
    split
    · rename_i j hj
      obtain ⟨e1, e2⟩ := G _ _ _ hj h1
      rw [← e2]; exact .eref (by rw [e1, renO_sl rfl]) hi
    · exact .undef
  | erefd hc hin h1 =>
    simp only [ren1]
    split
    · rename_i j hj; exact .erefd hc (G.lt hj hin) (G.sl_none hj hin h1)
    · exact .undef
  | own h1 hA =>
    simp only [ren1]
    split
    · rename_i j hj
      obtain ⟨e1, e2⟩ := G _ _ _ hj h1
      rw [← e2]; exact .own (by rw [e1, renO_sl rfl]) (by rw [e2]; exact hA)
    · exact .undef
  | ownd hc hin h1 =>
    simp only [ren1]
    split
    · rename_i j hj; exact .ownd hc (G.lt hj hin) (G.sl_none hj hin h1)
    · exact .undef
  | sub h1 hlo hhi hc hcap hA =>
    simp only [ren1]
    split
    · rename_i j hj
      obtain ⟨e1, e2⟩ := G _ _ _ hj h1
      exact .sub (by rw [e1, renO_sl rfl]) hlo hhi hc (by rw [e2]; exact hcap) (by rw [e2]; exact hA)
    · exact .undef
  | subd hc hin h1 =>
    simp only [ren1]
    split
    · rename_i j hj; exact .subd hc (G.lt hj hin) (G.sl_none hj hin h1)
    · exact .undef
  | agg => exact .undef
  | tup => exact .undef
  | void => exact .void
  | undef => exact .undef

theorem ren2_rel (HC : CodOk C) {fl : Bool} (G : Ren g ρ objs ρ2 objs2) (hX : Wider fl Mut ρ objs Mut2 ρ2 objs2) {v : AV κ Ty} {u : Value} (hs : fl = false → safe2 v = true) (h : VRel C w Mut ρ objs v u) :
    VRel C w Mut2 ρ2 objs2 (ren2 g v) u := by
  by_cases hv : ∃ cs, v = .agg cs
  · obtain ⟨cs, rfl⟩ := hv
    cases h with
    | agg hl hcell hrel =>
      refine .agg (by simpa using hl) hcell (fun j cl u hj hu => ?_)
      simp only [List.getElem?_map, Option.map_eq_some_iff] at hj
      obtain ⟨c, hc, rfl⟩ := hj
      refine ren1_rel HC G hX (fun hf => ?_) (hrel j c u hc hu)
      have := hs hf
      simp only [safe2, List.all_eq_true] at this
      exact this c (List.mem_of_getElem? hc)
  · have e : ren2 g v = ren1 g v := by cases v <;> first | rfl | exact absurd ⟨_, rfl⟩ hv
    rw [e]
    refine ren1_rel HC G hX (fun hf => ?_) h
    have := hs hf
    cases v <;> first | exact this | exact absurd ⟨_, rfl⟩ hv | (simp [safe2] at this)

theorem renV_rel (HC : CodOk C) {fl : Bool} (G : Ren g ρ objs ρ2 objs2) (hX : Wider fl Mut ρ objs Mut2 ρ2 objs2) {v : AV κ Ty} {u : Value} (hs : fl = false → ∀ vs, v = .tup vs → vs.all safe2 = true) (hs2 : fl = false → (∀ vs, v ≠ .tup vs) → safe2 v = true) (h : VRel C w Mut ρ objs v u) :
    VRel C w Mut2 ρ2 objs2 (renV g v) u := by
  by_cases hv : ∃ cs, v = .tup cs
  · obtain ⟨cs, rfl⟩ := hv
    cases h with
    | tup hl hrel =>
      refine .tup (by simpa using hl) (fun j cl u hj hu => ?_)
      simp only [List.getElem?_map, Option.map_eq_some_iff] at hj
      obtain ⟨c, hc, rfl⟩ := hj
      refine ren2_rel HC G hX (fun hf => ?_) (hrel j c u hc hu)
      have := hs hf cs rfl
      simp only [List.all_eq_true] at this
      exact this c (List.mem_of_getElem? hc)
  · have e : renV g v = ren2 g v := by cases v <;> first | rfl | exact absurd ⟨_, rfl⟩ hv
    rw [e]
    exact ren2_rel HC G hX (fun hf => hs2 hf fun vs e => hv ⟨vs, e⟩) h

/-- an object under its new number -/
theorem ORel.ren (HC : CodOk C) {fl : Bool} (G : Ren g ρ objs ρ2 objs2) (hX : Wider fl Mut ρ objs Mut2 ρ2 objs2) {i j : Nat} {o : AObj κ Ty} (hg : g i = some j) (ho : objs[i]? = some o) (hs : fl = false → safeO C o = true) (h : ORel C w Mut ρ objs i) : ORel C w Mut2 ρ2 objs2 j := by
  obtain ⟨e1, e2⟩ := G i j o hg ho
  unfold ORel at h ⊢
  rw [ho] at h
  rw [e1, e2]
  cases o with
  | dead => trivial
  | box cs =>
    obtain ⟨h1, h2⟩ := h
    refine ⟨h1, fun k cl hk => ?_⟩
    simp only [List.getElem?_map, Option.map_eq_some_iff] at hk
    obtain ⟨c, hc, rfl⟩ := hk
    obtain ⟨v, a1, a2, a3, a4⟩ := h2 k c hc
    refine ⟨v, a1, a2, ren1_rel HC G hX (fun hf => ?_) a3, a4⟩
    have := hs hf
    simp only [safeO, List.all_eq_true] at this
    exact this c (List.mem_of_getElem? hc)
  | sl t xs =>
    obtain ⟨h1, h2, h3, h4⟩ := h
    refine ⟨h1, h2, fun k x q cl hx hq => ?_, h4⟩
    obtain ⟨v, a1, a2⟩ := h3 k x q cl hx hq
    refine ⟨v, a1, deep_ctx HC hX a2 ?_⟩
    rcases HC.deep t x cl (enc_cell HC hq) with ⟨y, rfl⟩ | ⟨s, ys, rfl, hb⟩
    · exact .inl ⟨_, rfl⟩
    · refine .inr ⟨_, _, _, rfl, fun h => ?_⟩
      cases hf : fl with
      | true => rfl
      | false =>
        have := hs hf
        simp [safeO, hb h] at this

end
end Km
