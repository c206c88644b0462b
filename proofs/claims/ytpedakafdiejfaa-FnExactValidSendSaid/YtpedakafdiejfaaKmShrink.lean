/- A part of the proof: an abstract machine over the program (sound by its theorems), or definitions printed by it. There is no condition. -/
import Derived.Test.YtpedakafdiejfaaKmCompact
namespace Km
open Go
set_option linter.unusedVariables false
set_option linter.unusedSimpArgs false

variable {κ : Type} {Ty : κ → Type} {R : Type}
section
variable {P : Program} {C : Cod κ Ty} {T : TypeId → Option (TI κ Ty)} {Γ : FuncId → Option (Summ κ Ty)}
variable {Mut : Nat → Prop} {Lent : Org κ Ty} {w0 w w' : World} {ρ ρ' ρ2 : Nat → Loc} {env : Env κ Ty} {objs objs' objs2 : Objs κ Ty} {tm : Array Value}

theorem lent_wider' {l : List Nat} (hl : ∀ i ∈ l, i < objs.length) : Wider true Mut ρ objs Mut (lentρ ρ l) (lentO objs l) := by
  intro b k _ h h'
  rcases h' with ⟨j, hj⟩ | ⟨hb, hm⟩
  · obtain ⟨i, _, hi⟩ := lent_foot hl hj
    exact h (.inl ⟨i, hi⟩)
  · exact h (.inr ⟨hb, hm⟩)

theorem SRel.shrink (HC : CodOk C) (S : SRel C Mut Lent w0 ρ env objs tm w) {l : List Nat} (hn : l.Nodup) (hl : ∀ i ∈ l, i < objs.length) (hpre : ∀ i, i < Lent.objs.length → l[i]? = some i) :
    SRel C Mut Lent w0 (lentρ ρ l) [] (lentO objs l) tm w := by
  refine { S with env := fun i => .inl rfl, ob := fun j => ?_, inj := fun i j b hi hj => ?_, live := fun b ⟨j, hj⟩ => ?_, comp := fun i => ?_, len := ?_ }
  · by_cases hj : j < l.length
    · have hi := hl _ (List.getElem_mem hj)
      exact ORel.ren HC (lent_ren ρ objs l) (lent_wider' hl) (posN_at hn (List.getElem?_eq_getElem hj)) (List.getElem?_eq_getElem hi) (fun h => by cases h) (S.ob _)
    · unfold ORel
      have : (lentO objs l)[j]? = none := List.getElem?_eq_none (by simp [lentO]; omega)
      rw [this]; trivial
  · obtain ⟨p, h1, h2⟩ := lent_foot hl hi
    obtain ⟨q, g1, g2⟩ := lent_foot hl hj
    have := S.inj p q b h2 g2
    subst this
    have hk := (List.getElem?_eq_some_iff.mp h1).1
    exact (List.getElem?_inj hk hn).mp (h1.trans g1.symm)
  · obtain ⟨i, _, hi⟩ := lent_foot hl hj
    exact S.live b ⟨i, hi⟩
  · by_cases hi : i < Lent.objs.length
    · have hli := hpre i hi
      have hio := hl i (List.mem_of_getElem? hli)
      have hc := S.comp i
      have hlo : (lentO objs l)[i]? = some (renO (posN l · 0) objs[i]) := by
        simp only [lentO, List.getElem?_map, hli, Option.map_some, List.getElem?_eq_getElem hio]
      have hlρ : lentρ ρ l i = ρ i := by simp [lentρ, List.getD, hli]
      have hobj : objs[i]? = some objs[i] := List.getElem?_eq_getElem hio
      refine hc.trans S.len ?_
      unfold Compat
      rw [hobj]
      cases ho : objs[i] with
      | dead => rw [ho] at hlo; exact ⟨boxOf_dead hlo, slOf_dead hlo⟩
      | box cs => rw [ho] at hlo; exact .inl ⟨_, hlo, hlρ⟩
      | sl t xs => rw [ho] at hlo; exact .inl ⟨xs, hlo, rfl, hlρ⟩
    · unfold Compat
      rw [List.getElem?_eq_none (by omega)]; trivial
  · rcases Nat.eq_zero_or_pos Lent.objs.length with h0 | h0
    · omega
    · have h1 := hpre (Lent.objs.length - 1) (by omega)
      have := (List.getElem?_eq_some_iff.mp h1).1
      simp [lentO]; omega

theorem addN_pre {m : Nat} {l : List Nat} : ∀ i, i < m → (addN (List.range m) l)[i]? = some i := by
  intro i hi
  obtain ⟨k, hk⟩ := addN_prefix l (List.range m)
  rw [hk, List.getElem?_append_left (by simpa using hi)]
  simp [hi]
theorem reach_pre {acc : List Nat} {m : Nat} (h : ∀ i, i < m → acc[i]? = some i) : ∀ i, i < m → (reach objs acc)[i]? = some i := by
  intro i hi
  unfold reach
  have e1 : ∀ (a l : List Nat), (∀ i, i < m → a[i]? = some i) → ∀ i, i < m → (addN a l)[i]? = some i := fun a l ha i hi => by
    obtain ⟨k, hk⟩ := addN_prefix l a
    have := ha i hi
    have hlt := (List.getElem?_eq_some_iff.mp this).1
    rw [hk, List.getElem?_append_left hlt]; exact this
  exact e1 _ _ (e1 _ _ h) i hi

theorem OR.ids {v : AV κ Ty} {u : Option Value} (h : OR C w Mut ρ objs v u) : ∀ i ∈ idsV v, i < objs.length := by
  cases u with
  | none => cases h; intro i hi; simp [idsV, ids2, ids1] at hi
  | some u => exact idsV_lt h
theorem ORL.map (h : ∀ (v : AV κ Ty) (u : Value), VRel C w Mut ρ objs v u → VRel C w Mut ρ2 objs2 v u) : ∀ {vs : List (AV κ Ty)} {us : List (Option Value)}, ORL C w Mut ρ objs vs us → ORL C w Mut ρ2 objs2 vs us
  | [], [], _ => trivial
  | v :: vs, u :: us, ⟨h1, h2⟩ => by
    refine ⟨?_, h2.map h⟩
    cases u with
    | none => exact h1
    | some u => exact h _ _ h1
theorem ORL.ids : ∀ {vs : List (AV κ Ty)} {us : List (Option Value)}, ORL C w Mut ρ objs vs us → ∀ i ∈ vs.flatMap idsV, i < objs.length
  | [], [], _, i, hi => by simp at hi
  | v :: vs, u :: us, ⟨h1, h2⟩, i, hi => by
    simp only [List.flatMap_cons, List.mem_append] at hi
    exact hi.elim (h1.ids i) (h2.ids i)
theorem ORL.ren (HC : CodOk C) {g : Nat → Option Nat} (G : Ren g ρ objs ρ2 objs2) (hX : Wider true Mut ρ objs Mut ρ2 objs2) : ∀ {vs : List (AV κ Ty)} {us : List (Option Value)}, ORL C w Mut ρ objs vs us → ORL C w Mut ρ2 objs2 (vs.map (renV g)) us
  | [], [], _ => trivial
  | v :: vs, u :: us, ⟨h1, h2⟩ => by
    refine ⟨?_, h2.ren HC G hX⟩
    cases u with
    | none => cases h1; exact rfl
    | some u => exact renV_rel HC G hX (fun h => by cases h) (fun h => by cases h) h1

/-- 'compact' -/
theorem compact_sound (HC : CodOk C) (S : SRel C Mut Lent w0 ρ env objs tm w) {vs : List (AV κ Ty)} {us : List (Option Value)} (h : ORL C w Mut ρ objs vs us) :
    ∃ ρ', SRel C Mut Lent w0 ρ' [] (compact Lent.objs.length vs objs).2 tm w ∧ ORL C w Mut ρ' (compact Lent.objs.length vs objs).2 (compact Lent.objs.length vs objs).1 us := by
  obtain ⟨ρ1, a1, a2, a3⟩ := solidM_sound vs us objs ρ S h
  obtain ⟨ρ2, b1, b2, b3⟩ := solidB_sound (solidM objs vs).2.length _ ρ1 a1
  have b4 : ORL C w Mut ρ2 (solidB (solidM objs vs).2.length (solidM objs vs).2) (solidM objs vs).1 us := by
    exact a3.map b3
  have hlen : Lent.objs.length ≤ (solidB (solidM objs vs).2.length (solidM objs vs).2).length := b1.len
  have hn0 : (List.range Lent.objs.length).Nodup := List.nodup_range
  have hn := reach_nodup (objs := solidB (solidM objs vs).2.length (solidM objs vs).2) (addN_nodup (l := (solidM objs vs).1.flatMap idsV) hn0)
  have hl := reach_lt b1 (addN_nodup (l := (solidM objs vs).1.flatMap idsV) hn0) (fun i hi => by
    rw [addN_mem hn0] at hi
    rcases hi with hi | hi
    · simp at hi; omega
    · exact b4.ids i hi)
  refine ⟨lentρ ρ2 _, b1.shrink HC hn hl (reach_pre addN_pre), ?_⟩
  exact b4.ren HC (lent_ren ρ2 _ _) (lent_wider' hl)

end
end Km
