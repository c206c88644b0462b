/- A part of the proof: an abstract machine over the program (sound by its theorems), or definitions printed by it. There is no condition. -/
import Derived.Test.YtpedakafdiejfaaKmOps4
namespace Km
open Go
set_option linter.unusedVariables false
set_option linter.unusedSimpArgs false

variable {κ : Type} {Ty : κ → Type} {R : Type}
section
variable {P : Program} {C : Cod κ Ty} {T : TypeId → Option (TI κ Ty)}
variable {Mut : Nat → Prop} {Lent : Org κ Ty} {w0 w w' : World} {ρ ρ' : Nat → Loc} {env : Env κ Ty} {objs objs' : Objs κ Ty} {tm : Array Value}

theorem WStep.same (h : ∀ b, FootB ρ' objs' b → FootB ρ objs b) : WStep w w (FootB ρ objs) (FootB ρ' objs') := ⟨fun _ _ _ => rfl, Nat.le_refl _, fun b hb => .inl (h b hb)⟩

theorem foot_kill {id i b : Nat} (h : FootAt ρ (objs.set id .dead) i b) : i ≠ id ∧ FootAt ρ objs i b := by
  unfold FootAt at h ⊢
  by_cases e : i = id
  · subst e
    by_cases hi : i < objs.length
    · simp [hi] at h
    · have hn : (objs.set i AObj.dead)[i]? = none := List.getElem?_eq_none (by simp; omega)
      simp [hn] at h
  · rw [List.getElem?_set_ne (Ne.symm e)] at h
    exact ⟨e, h⟩

theorem compat_kill (id i : Nat) : Compat ρ objs ρ (objs.set id .dead) i := by
  by_cases e : i = id
  · subst e
    unfold Compat
    by_cases hi : i < objs.length
    · have hd : (objs.set i .dead)[i]? = some .dead := by simp [hi]
      split
      · exact .inr ⟨boxOf_dead hd, slOf_dead hd⟩
      · exact .inr ⟨boxOf_dead hd, slOf_dead hd⟩
      · exact ⟨boxOf_dead hd, slOf_dead hd⟩
      · trivial
    · rw [List.getElem?_eq_none (l := objs) (by omega)]; trivial
  · exact Compat.of_eq (fun _ => List.getElem?_set_ne (Ne.symm e)) (fun _ => rfl)

/-- an object is given up -/
theorem SRel.kill (S : SRel C Mut Lent w0 ρ env objs tm w) (id : Nat) : SRel C Mut Lent w0 ρ env (objs.set id .dead) tm w := by
  have W : WStep w w (FootB ρ objs) (FootB ρ (objs.set id .dead)) := WStep.same fun b ⟨i, hi⟩ => ⟨i, (foot_kill hi).2⟩
  refine S.step W (by simp) (compat_kill id) (fun i => ?_) (fun i j b hi hj => S.inj i j b (foot_kill hi).2 (foot_kill hj).2) rfl rfl rfl
  by_cases e : i = id
  · subst e
    unfold ORel
    by_cases hi : i < objs.length
    · simp [hi]
    · have hn : (objs.set i AObj.dead)[i]? = none := List.getElem?_eq_none (by simp; omega)
      simp [hn]
  · exact ORel.step W (by simp) (compat_kill id) (S.ob i) (List.getElem?_set_ne (Ne.symm e)) rfl (fun b _ => rfl)

theorem VRel.kill {v : AV κ Ty} {u : Value} (h : VRel C w Mut ρ objs v u) (id : Nat) : VRel C w Mut ρ (objs.set id .dead) v u :=
  h.step (WStep.same fun b ⟨i, hi⟩ => ⟨i, (foot_kill hi).2⟩) (by simp) (compat_kill id)

theorem Cells.step {cs : List (AV κ Ty)} {us : List Value} (W : WStep w w' (FootB ρ objs) (FootB ρ' objs')) (hl : objs.length ≤ objs'.length) (hc : ∀ id, Compat ρ objs ρ' objs' id) (h : Cells C w Mut ρ objs cs us) : Cells C w' Mut ρ' objs' cs us :=
  ⟨h.1, h.2.1, fun j cl u h1 h2 => (h.2.2 j cl u h1 h2).step W hl hc⟩

theorem foot_live {id : Nat} {t : κ} {xs : List (Ty t)} (h : objs[id]? = some (.sl t xs)) (hc : (ρ id).cap ≠ 0) : FootAt ρ objs id (ρ id).block := by simp [FootAt, h, hc]

/-- what was one's own is now for good -/
theorem own_inl (HC : CodOk C) (S : SRel C Mut Lent w0 ρ env objs tm w) {id : Nat} {t : κ} {xs : List (Ty t)} {u : Value} (h : objs[id]? = some (.sl t xs)) (hr : VRel C w Mut ρ objs (.own id) u) :
    VRel C w Mut ρ (objs.set id .dead) (.inl (C.bor t) t xs) u := by
  have ho := S.ob id
  simp only [ORel, h] at ho
  cases hr with
  | own h1 hA =>
    rw [h] at h1; cases h1
    refine .inl (blk := (ρ id).block) (off := (ρ id).off) (vals := fun i j => (w.cell? (at' (ρ id).block ((ρ id).off + i * C.sz t + j))).getD Go.undef) (fun h => h) (ho.1) (fun hne => ?_) (fun i x j cl hx hj => ?_) (fun i x j cl hx hj => ?_)
    · have hc : (ρ id).cap ≠ 0 := by have := ho.1; have := List.length_pos_iff.mpr hne; omega
      refine ⟨hA hc, ho.2.1 hc, fun hX => ?_⟩
      rcases hX with ⟨i, hi⟩ | ⟨_, hm⟩
      · obtain ⟨g1, g2⟩ := foot_kill hi
        exact g1 (S.inj _ _ _ g2 (foot_live h hc))
      · exact (S.live _ ⟨id, foot_live h hc⟩).1 hm
    · obtain ⟨v, h1, h2⟩ := ho.2.2.1 i x j cl hx hj
      rw [h1]; rfl
    · obtain ⟨v, h1, h2⟩ := ho.2.2.1 i x j cl hx hj
      rw [h1]; exact h2.kill id
  | ownd hcl hin h1 => simp [slOf, h] at h1

/-- some objects are given up -/
def Weaker (objs objs' : Objs κ Ty) : Prop := objs'.length = objs.length ∧ ∀ i : Nat, objs'[i]? = objs[i]? ∨ objs'[i]? = some AObj.dead
theorem Weaker.refl (objs : Objs κ Ty) : Weaker objs objs := ⟨rfl, fun _ => .inl rfl⟩
theorem Weaker.trans {o1 o2 o3 : Objs κ Ty} (h : Weaker o1 o2) (g : Weaker o2 o3) : Weaker o1 o3 :=
  ⟨g.1.trans h.1, fun i => (g.2 i).elim (fun e => (h.2 i).elim (fun e' => .inl (e.trans e')) (fun e' => .inr (e.trans e'))) .inr⟩
theorem Weaker.kill (objs : Objs κ Ty) (id : Nat) : Weaker objs (objs.set id AObj.dead) := by
  refine ⟨by simp, fun i => ?_⟩
  by_cases e : i = id
  · subst e
    by_cases hi : i < objs.length
    · exact .inr (by simp [hi])
    · have hn : (objs.set i AObj.dead)[i]? = none := List.getElem?_eq_none (by simp; omega)
      exact .inl (by rw [hn, List.getElem?_eq_none (by omega)])
  · exact .inl (List.getElem?_set_ne (Ne.symm e))
theorem Weaker.compat (h : Weaker objs objs') (i : Nat) : Compat ρ objs ρ objs' i := by
  unfold Compat
  split
  · rename_i cs e
    rcases h.2 i with e' | e'
    · exact .inl ⟨cs, by rw [e', e], rfl⟩
    · exact .inr ⟨boxOf_dead e', slOf_dead e'⟩
  · rename_i t xs e
    rcases h.2 i with e' | e'
    · exact .inl ⟨xs, by rw [e', e], rfl, rfl⟩
    · exact .inr ⟨boxOf_dead e', slOf_dead e'⟩
  · rename_i e
    rcases h.2 i with e' | e'
    · exact ⟨boxOf_dead (by rw [e', e]), slOf_dead (by rw [e', e])⟩
    · exact ⟨boxOf_dead e', slOf_dead e'⟩
  · trivial
theorem Weaker.foot (h : Weaker objs objs') {i b : Nat} (hb : FootAt ρ objs' i b) : FootAt ρ objs i b := by
  unfold FootAt at hb ⊢
  rcases h.2 i with e | e
  · rw [e] at hb; exact hb
  · rw [e] at hb; exact hb.elim
theorem Weaker.wstep (h : Weaker objs objs') : WStep w w (FootB ρ objs) (FootB ρ objs') := WStep.same fun b ⟨i, hi⟩ => ⟨i, h.foot hi⟩
theorem Weaker.rel (h : Weaker objs objs') {v : AV κ Ty} {u : Value} (hr : VRel C w Mut ρ objs v u) : VRel C w Mut ρ objs' v u := hr.step h.wstep (by have := h.1; omega) h.compat
theorem Weaker.cells (h : Weaker objs objs') {cs : List (AV κ Ty)} {us : List Value} (hc : Cells C w Mut ρ objs cs us) : Cells C w Mut ρ objs' cs us := hc.step h.wstep (by have := h.1; omega) h.compat

/-- 'deepen' -/
theorem deepen_sound (HC : CodOk C) : ∀ (ns : List (AV κ Ty)) (us : List Value) (objs : Objs κ Ty) (K : List (AV κ Ty) → Objs κ Ty → Option R) (r : R), SRel C Mut Lent w0 ρ env objs tm w → Cells C w Mut ρ objs ns us →
    deepen C objs ns K = some r → ∃ ns' objs', K ns' objs' = some r ∧ SRel C Mut Lent w0 ρ env objs' tm w ∧ Cells C w Mut ρ objs' ns' us ∧ Weaker objs objs'
  | [], us, objs, K, r, S, hc, h => ⟨[], objs, h, S, hc, .refl _⟩
  | c :: ns, us, objs, K, r, S, hc, h => by
    obtain ⟨h1, h2, h3⟩ := hc
    obtain ⟨u, us, rfl⟩ : ∃ u us', us = u :: us' := by cases us with | nil => simp at h1 | cons u us => exact ⟨u, us, rfl⟩
    have hu : VRel C w Mut ρ objs c u := h3 0 c u rfl rfl
    have hcu : isCell u = true := h2 0 u rfl
    have hrest : Cells C w Mut ρ objs ns us := ⟨by simpa using h1, fun j u hj => h2 (j + 1) u (by simpa using hj), fun j cl u a b => h3 (j + 1) cl u (by simpa using a) (by simpa using b)⟩
    have fin : ∀ (c' : AV κ Ty) (objs1 : Objs κ Ty), SRel C Mut Lent w0 ρ env objs1 tm w → VRel C w Mut ρ objs1 c' u → Weaker objs objs1 →
        deepen C objs1 ns (fun cs' o => K (c' :: cs') o) = some r → ∃ ns' objs', K ns' objs' = some r ∧ SRel C Mut Lent w0 ρ env objs' tm w ∧ Cells C w Mut ρ objs' ns' (u :: us) ∧ Weaker objs objs' := by
      intro c' objs1 S1 hc' hw h
      obtain ⟨ns', objs', g1, g2, g3, g4⟩ := deepen_sound HC ns us objs1 _ r S1 (hw.cells hrest) h
      refine ⟨c' :: ns', objs', g1, g2, ⟨by simp [g3.1], fun j u' hj => ?_, fun j cl u' a b => ?_⟩, hw.trans g4⟩
      · cases j with
        | zero => simp at hj; subst hj; exact hcu
        | succ j => exact g3.2.1 j u' (by simpa using hj)
      · cases j with
        | zero => simp at a b; subst a; subst b; exact g4.rel hc'
        | succ j => exact g3.2.2 j cl u' (by simpa using a) (by simpa using b)
    simp only [deepen] at h
    split at h
    · rename_i id
      split at h
      · rename_i t xs hsl
        have hsl' := slOf_some hsl
        exact fin _ _ (S.kill id) (own_inl HC S hsl' hu) (.kill objs id) h
      · cases h
    · rename_i t
      refine fin _ _ S ?_ (.refl _) h
      cases hu
      exact .inl (xs := []) (blk := 0) (off := 0) (vals := fun _ _ => Go.undef) (fun h => h) (Nat.le_refl _) (fun h => absurd rfl h) (fun i x j cl hx => by simp at hx) (fun i x j cl hx => by simp at hx)
    · exact fin _ _ S hu (.refl _) h
    · exact fin _ _ S hu (.refl _) h
    · cases h

end
end Km
