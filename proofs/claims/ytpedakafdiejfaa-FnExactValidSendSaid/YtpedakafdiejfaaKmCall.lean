/- A part of the proof: an abstract machine over the program (sound by its theorems), or definitions printed by it. There is no condition. -/
import Derived.Test.YtpedakafdiejfaaKmRen
namespace Km
open Go
set_option linter.unusedVariables false
set_option linter.unusedSimpArgs false

variable {κ : Type} {Ty : κ → Type} {R : Type}

/-! ### numbers -/
theorem elemN_iff (i : Nat) : ∀ (l : List Nat), elemN i l = true ↔ i ∈ l
  | [] => by simp [elemN]
  | j :: l => by
    simp only [elemN]
    split
    · rename_i h; have := Nat.eq_of_beq_eq_true h; simp [this]
    · rename_i h
      have hne : i ≠ j := fun e => by rw [e] at h; simp at h
      rw [elemN_iff i l]; simp [hne]
theorem addN_spec : ∀ (l acc : List Nat), acc.Nodup → (addN acc l).Nodup ∧ (∀ i, i ∈ addN acc l ↔ i ∈ acc ∨ i ∈ l)
  | [], acc, h => ⟨h, fun i => by simp [addN]⟩
  | i :: l, acc, h => by
    simp only [addN]
    split
    · rename_i hi
      have hi := (elemN_iff i acc).mp hi
      obtain ⟨h1, h2⟩ := addN_spec l acc h
      refine ⟨h1, fun j => ?_⟩
      rw [h2 j]; simp only [List.mem_cons]
      constructor
      · rintro (h | h)
        · exact .inl h
        · exact .inr (.inr h)
      · rintro (h | rfl | h)
        · exact .inl h
        · exact .inl hi
        · exact .inr h
    · rename_i hi
      have hi : i ∉ acc := fun h => by rw [(elemN_iff i acc).mpr h] at hi; cases hi
      obtain ⟨h1, h2⟩ := addN_spec l (acc ++ [i]) (by
        rw [List.nodup_append]
        exact ⟨h, by simp, fun a ha b hb => by simp at hb; subst hb; rintro rfl; exact hi ha⟩)
      refine ⟨h1, fun j => ?_⟩
      rw [h2 j]; simp only [List.mem_append, List.mem_cons, List.mem_singleton, List.not_mem_nil, or_false, or_assoc]
theorem addN_nodup {l acc : List Nat} (h : acc.Nodup) : (addN acc l).Nodup := (addN_spec l acc h).1
theorem addN_mem {l acc : List Nat} (h : acc.Nodup) (i : Nat) : i ∈ addN acc l ↔ i ∈ acc ∨ i ∈ l := (addN_spec l acc h).2 i
theorem reach_nodup {objs : Objs κ Ty} {acc : List Nat} (h : acc.Nodup) : (reach objs acc).Nodup := addN_nodup (addN_nodup h)
theorem addN_prefix : ∀ (l acc : List Nat), ∃ m, addN acc l = acc ++ m
  | [], acc => ⟨[], by simp [addN]⟩
  | i :: l, acc => by
    simp only [addN]
    split
    · exact addN_prefix l acc
    · obtain ⟨m, h⟩ := addN_prefix l (acc ++ [i])
      exact ⟨i :: m, by rw [h]; simp⟩

theorem posN_some : ∀ {l : List Nat} {i n j : Nat}, posN l i n = some j → n ≤ j ∧ l[j - n]? = some i
  | [], _, _, _, h => by simp [posN] at h
  | k :: l, i, n, j, h => by
    simp only [posN] at h
    split at h
    · rename_i hk
      have := Nat.eq_of_beq_eq_true hk
      cases h; subst this; simp
    · obtain ⟨h1, h2⟩ := posN_some h
      refine ⟨by omega, ?_⟩
      obtain ⟨d, rfl⟩ : ∃ d, j = n + 1 + d := ⟨j - (n + 1), by omega⟩
      rw [show n + 1 + d - (n + 1) = d by omega] at h2
      rw [show n + 1 + d - n = d + 1 by omega]; simpa using h2
theorem posN_none : ∀ {l : List Nat} {i n : Nat}, posN l i n = none → i ∉ l
  | [], _, _, _ => by simp
  | k :: l, i, n, h => by
    simp only [posN] at h
    split at h
    · cases h
    · rename_i hk
      have hne : i ≠ k := fun e => by subst e; simp at hk
      have := posN_none h
      simp [hne, this]
theorem posN_at {l : List Nat} (hn : l.Nodup) {j i : Nat} (h : l[j]? = some i) : posN l i 0 = some j := by
  cases hp : posN l i 0 with
  | none => exact absurd (List.mem_of_getElem? h) (posN_none hp)
  | some k =>
    obtain ⟨_, h2⟩ := posN_some hp
    simp only [Nat.sub_zero] at h2
    have hk := (List.getElem?_eq_some_iff.mp h2).1
    have hj := (List.getElem?_eq_some_iff.mp h).1
    have := (List.getElem?_inj hk hn).mp (h2.trans h.symm)
    rw [this]

section
variable {P : Program} {C : Cod κ Ty} {T : TypeId → Option (TI κ Ty)}
variable {Mut : Nat → Prop} {Lent : Org κ Ty} {w0 w w' : World} {ρ ρ' ρ2 : Nat → Loc} {env : Env κ Ty} {objs objs' objs2 : Objs κ Ty} {tm : Array Value}

/-- a function does what its summary says -/
def SummOk (P : Program) (C : Cod κ Ty) (f : FuncId) (S : Summ κ Ty) : Prop :=
  (∃ fn, P.funcs[f]? = some fn ∧ (fn.name == "runtime.NumGoroutine") = false ∧ fn.body.isSome = true) ∧
  ∀ (args : List (AV κ Ty)) (objs : Objs κ Ty) (r : S.R), S.run args objs = some r → ∀ (Mut : Nat → Prop) (ρ : Nat → Loc) (vals : Array Value) (w : World),
    vals.size = args.length → (∀ (j : Nat) (x : AV κ Ty) (u : Value), args[j]? = some x → vals[j]? = some u → VRel C w Mut ρ objs x u) →
    SRel C Mut ⟨ρ, objs⟩ w ρ [] objs #[] w →
    Calls P f vals w fun e w' => ∃ v ρ', e = .returned v ∧ VRel C w' Mut ρ' (S.ret r).2 (S.ret r).1 v ∧ SRel C Mut ⟨ρ, objs⟩ w ρ' [] (S.ret r).2 #[] w' ∧
      (∀ o ∈ (S.ret r).2, safeO C o = true) ∧ (∀ vs, (S.ret r).1 = .tup vs → vs.all safe2 = true) ∧ ((∀ vs, (S.ret r).1 ≠ .tup vs) → safe2 (S.ret r).1 = true)

/-- a state as it begins -/
theorem SRel.start (hob : ∀ id, ORel C w Mut ρ objs id) (hinj : ∀ i j b, FootAt ρ objs i b → FootAt ρ objs j b → i = j) (hlive : ∀ b, FootB ρ objs b → ¬ Mut b) (hmlt : ∀ b, Mut b → b < w.heap.size) :
    SRel C Mut ⟨ρ, objs⟩ w ρ [] objs #[] w where
  env i := .inl rfl
  ob := hob
  inj := hinj
  live b hb := ⟨hlive b hb, .inl hb⟩
  comp id := .refl id
  len := Nat.le_refl _
  mlt := hmlt
  frame _ _ _ := rfl
  size := Nat.le_refl _
  os := rfl
  tape := rfl
  output := rfl

/-- the callee's objects -/
def lentO (objs : Objs κ Ty) (l : List Nat) : Objs κ Ty := l.map fun i => match objs[i]? with | some o => renO (posN l · 0) o | none => .dead
def lentρ (ρ : Nat → Loc) (l : List Nat) : Nat → Loc := fun j => ρ (l.getD j 0)
def lentMut (Mut : Nat → Prop) (ρ : Nat → Loc) (objs : Objs κ Ty) (l : List Nat) : Nat → Prop := fun b => Mut b ∨ ∃ i, i ∉ l ∧ FootAt ρ objs i b

theorem lent_ren (ρ : Nat → Loc) (objs : Objs κ Ty) (l : List Nat) : Ren (posN l · 0) ρ objs (lentρ ρ l) (lentO objs l) := by
  intro i j o h ho
  obtain ⟨_, h2⟩ := posN_some h
  simp only [Nat.sub_zero] at h2
  refine ⟨?_, ?_⟩
  · simp only [lentO, List.getElem?_map, h2, Option.map_some, ho]
  · simp only [lentρ, List.getD, h2, Option.getD_some]

theorem footAt_ren {g : Nat → Option Nat} {o : AObj κ Ty} {i j b : Nat} (h1 : objs[i]? = some o) (h2 : objs2[j]? = some (renO g o)) (h3 : ρ2 j = ρ i) : FootAt ρ2 objs2 j b ↔ FootAt ρ objs i b := by
  unfold FootAt
  rw [h1, h2, h3]
  cases o <;> rfl

theorem lent_foot {l : List Nat} (hl : ∀ i ∈ l, i < objs.length) {j b : Nat} (h : FootAt (lentρ ρ l) (lentO objs l) j b) : ∃ i, l[j]? = some i ∧ FootAt ρ objs i b := by
  have hj : j < l.length := by
    rcases Nat.lt_or_ge j l.length with h' | h'
    · exact h'
    · unfold FootAt at h
      have : (lentO objs l)[j]? = none := List.getElem?_eq_none (by simp [lentO]; exact h')
      rw [this] at h; exact h.elim
  have hi := hl _ (List.getElem_mem hj)
  refine ⟨l[j], List.getElem?_eq_getElem hj, ?_⟩
  refine (footAt_ren (g := (posN l · 0)) (List.getElem?_eq_getElem hi) ?_ ?_).mp h
  · simp only [lentO, List.getElem?_map, List.getElem?_eq_getElem hj, Option.map_some, List.getElem?_eq_getElem hi]
  · simp [lentρ, List.getD, List.getElem?_eq_getElem hj]

theorem lent_wider {l : List Nat} (hl : ∀ i ∈ l, i < objs.length) : Wider true Mut ρ objs (lentMut Mut ρ objs l) (lentρ ρ l) (lentO objs l) := by
  intro b k _ h h'
  rcases h' with ⟨j, hj⟩ | ⟨hb, hm⟩
  · obtain ⟨i, _, hi⟩ := lent_foot hl hj
    exact h (.inl ⟨i, hi⟩)
  · rcases hm with hm | ⟨i, _, hi⟩
    · exact h (.inr ⟨hb, hm⟩)
    · exact h (.inl ⟨i, hi⟩)

theorem lent_start (HC : CodOk C) (S : SRel C Mut Lent w0 ρ env objs tm w) {l : List Nat} (hn : l.Nodup) (hl : ∀ i ∈ l, i < objs.length) :
    SRel C (lentMut Mut ρ objs l) ⟨lentρ ρ l, lentO objs l⟩ w (lentρ ρ l) [] (lentO objs l) #[] w := by
  refine SRel.start (fun j => ?_) (fun i j b hi hj => ?_) (fun b ⟨j, hj⟩ hm => ?_) (fun b hb => ?_)
  · by_cases hj : j < l.length
    · have hi := hl _ (List.getElem_mem hj)
      exact ORel.ren HC (lent_ren ρ objs l) (lent_wider hl) (posN_at hn (List.getElem?_eq_getElem hj)) (List.getElem?_eq_getElem hi) (fun h => by cases h) (S.ob _)
    · unfold ORel
      have : (lentO objs l)[j]? = none := List.getElem?_eq_none (by simp [lentO]; omega)
      rw [this]; trivial
  · obtain ⟨p, h1, h2⟩ := lent_foot hl hi
    obtain ⟨q, g1, g2⟩ := lent_foot hl hj
    have := S.inj p q b h2 g2
    subst this
    have hk := (List.getElem?_eq_some_iff.mp h1).1
    exact (List.getElem?_inj hk hn).mp (h1.trans g1.symm)
  · obtain ⟨i, h1, h2⟩ := lent_foot hl hj
    rcases hm with hm | ⟨q, hq, hf⟩
    · exact (S.live b ⟨i, h2⟩).1 hm
    · exact hq (S.inj q i b hf h2 ▸ List.mem_of_getElem? h1)
  · rcases hb with hb | ⟨i, _, hi⟩
    · have := S.mlt b hb; have := S.size; omega
    · exact S.flt hi

end
end Km
