/- A part of the proof: an abstract machine over the program (sound by its theorems), or definitions printed by it. There is no condition. -/
import Derived.Test.YtpedakafdiejfaaKmRun
namespace Km
open Go
set_option linter.unusedVariables false
set_option linter.unusedSimpArgs false

variable {κ : Type} {Ty : κ → Type} {R : Type}
section
variable {P : Program} {C : Cod κ Ty} {T : TypeId → Option (TI κ Ty)} {Γ : FuncId → Option (Summ κ Ty)}
variable {Mut : Nat → Prop} {Lent : Org κ Ty} {w0 w w' : World} {ρ ρ' ρ2 : Nat → Loc} {env : Env κ Ty} {objs objs' objs2 : Objs κ Ty} {tm : Array Value}

/-- a value, and where there is one what it stands for -/
def OR (C : Cod κ Ty) (w : World) (Mut : Nat → Prop) (ρ : Nat → Loc) (objs : Objs κ Ty) (v : AV κ Ty) : Option Value → Prop
  | some u => VRel C w Mut ρ objs v u
  | none => v = .undef
def ORL (C : Cod κ Ty) (w : World) (Mut : Nat → Prop) (ρ : Nat → Loc) (objs : Objs κ Ty) : List (AV κ Ty) → List (Option Value) → Prop
  | [], [] => True
  | v :: vs, u :: us => OR C w Mut ρ objs v u ∧ ORL C w Mut ρ objs vs us
  | _, _ => False

/-- more is known of as much -/
structure More (C : Cod κ Ty) (w : World) (Mut : Nat → Prop) (ρ : Nat → Loc) (objs : Objs κ Ty) (ρ' : Nat → Loc) (objs' : Objs κ Ty) : Prop where
  len : objs.length ≤ objs'.length
  rel : ∀ (v : AV κ Ty) (u : Value), VRel C w Mut ρ objs v u → VRel C w Mut ρ' objs' v u
  same : ∀ i, i < objs.length → objs'[i]? = objs[i]?
theorem More.refl : More C w Mut ρ objs ρ objs := ⟨Nat.le_refl _, fun _ _ h => h, fun _ _ => rfl⟩
theorem More.trans {ρ3 : Nat → Loc} {objs3 : Objs κ Ty} (h : More C w Mut ρ objs ρ' objs') (g : More C w Mut ρ' objs' ρ3 objs3) : More C w Mut ρ objs ρ3 objs3 :=
  ⟨Nat.le_trans h.len g.len, fun v u x => g.rel v u (h.rel v u x), fun i hi => (g.same i (Nat.lt_of_lt_of_le hi h.len)).trans (h.same i hi)⟩
theorem OR.more (h : More C w Mut ρ objs ρ' objs') {v : AV κ Ty} {u : Option Value} (x : OR C w Mut ρ objs v u) : OR C w Mut ρ' objs' v u := by
  cases u with
  | none => exact x
  | some u => exact h.rel v u x
theorem ORL.more (h : More C w Mut ρ objs ρ' objs') : ∀ {vs : List (AV κ Ty)} {us : List (Option Value)}, ORL C w Mut ρ objs vs us → ORL C w Mut ρ' objs' vs us
  | [], [], _ => trivial
  | _ :: _, _ :: _, ⟨a, b⟩ => ⟨a.more h, b.more h⟩

theorem SRel.pushNil (S : SRel C Mut Lent w0 ρ env objs tm w) (t : κ) : ∃ ρ', SRel C Mut Lent w0 ρ' env (objs ++ [.sl t []]) tm w ∧ More C w Mut ρ objs ρ' (objs ++ [.sl t []]) ∧ VRel C w Mut ρ' (objs ++ [.sl t []]) (.own objs.length) (.slice none 0 0) := by
  have nf : ∀ b, ¬ FootAt (upd ρ objs.length ⟨0, 0, 0⟩) (objs ++ [AObj.sl t []]) objs.length b := fun b hb => by
    unfold FootAt at hb; rw [push_new, upd_same] at hb; exact hb.1 rfl
  have W : WStep w w (FootB ρ objs) (FootB (upd ρ objs.length ⟨0, 0, 0⟩) (objs ++ [AObj.sl t []])) := ⟨fun _ _ _ => rfl, Nat.le_refl _, fun b ⟨i, hi⟩ => by
    rcases foot_push hi with ⟨_, h⟩ | ⟨h1, _⟩
    · exact .inl ⟨i, h⟩
    · subst h1; exact absurd hi (nf b)⟩
  refine ⟨upd ρ objs.length ⟨0, 0, 0⟩, ?_, ⟨by simp, fun v u h => h.step W (by simp) (compat_push _ _), fun i hi => push_old hi⟩, ?_⟩
  · refine S.take (w' := w) (.refl objs) (fun b _ _ => rfl) (Nat.le_refl _) (.inr nf) (fun b _ => rfl) (fun W => ?_) rfl rfl rfl
    unfold ORel; rw [push_new, upd_same]
    exact ⟨Nat.le_refl _, fun h => absurd rfl h, fun i x j cl hx => by simp at hx, fun q hq => by simp at hq⟩
  · have := VRel.own (C := C) (w := w) (Mut := Mut) (ρ := upd ρ objs.length ⟨0, 0, 0⟩) (push_new objs (.sl t [])) (A := none) (fun h => by rw [upd_same] at h; exact absurd rfl h)
    rw [upd_same] at this
    exact this

theorem solid1_sound (S : SRel C Mut Lent w0 ρ env objs tm w) {v : AV κ Ty} {u : Option Value} (h : OR C w Mut ρ objs v u) : ∃ ρ', SRel C Mut Lent w0 ρ' env (solid1 objs v).2 tm w ∧ More C w Mut ρ objs ρ' (solid1 objs v).2 ∧ OR C w Mut ρ' (solid1 objs v).2 (solid1 objs v).1 u := by
  unfold solid1
  split
  · rename_i t
    obtain ⟨ρ', h1, h2, h3⟩ := S.pushNil t
    refine ⟨ρ', h1, h2, ?_⟩
    cases u with
    | none => cases h
    | some u => cases h; exact h3
  · exact ⟨ρ, S, .refl, h⟩
theorem solidL_sound : ∀ (vs : List (AV κ Ty)) (us : List (Option Value)) (objs : Objs κ Ty) (ρ : Nat → Loc), SRel C Mut Lent w0 ρ env objs tm w → ORL C w Mut ρ objs vs us →
    ∃ ρ', SRel C Mut Lent w0 ρ' env (solidL objs vs).2 tm w ∧ More C w Mut ρ objs ρ' (solidL objs vs).2 ∧ ORL C w Mut ρ' (solidL objs vs).2 (solidL objs vs).1 us
  | [], [], objs, ρ, S, _ => ⟨ρ, S, .refl, trivial⟩
  | v :: vs, u :: us, objs, ρ, S, ⟨h1, h2⟩ => by
    obtain ⟨ρ1, a1, a2, a3⟩ := solid1_sound S h1
    obtain ⟨ρ2, b1, b2, b3⟩ := solidL_sound vs us _ ρ1 a1 (h2.more a2)
    exact ⟨ρ2, b1, a2.trans b2, ⟨a3.more b2, b3⟩⟩
  | [], _ :: _, _, _, _, h => h.elim
  | _ :: _, [], _, _, _, h => h.elim

theorem orl_of_cells {cs : List (AV κ Ty)} {us : List Value} (hl : us.length = cs.length) (h : ∀ (j : Nat) (cl : AV κ Ty) (u : Value), cs[j]? = some cl → us[j]? = some u → VRel C w Mut ρ objs cl u) : ORL C w Mut ρ objs cs (us.map some) := by
  induction cs generalizing us with
  | nil => cases us with | nil => trivial | cons _ _ => simp at hl
  | cons c cs ih =>
    cases us with
    | nil => simp at hl
    | cons u us => exact ⟨h 0 c u rfl rfl, ih (by simpa using hl) (fun j cl u a b => h (j + 1) cl u (by simpa using a) (by simpa using b))⟩
theorem cells_of_orl {cs : List (AV κ Ty)} {us : List Value} (h : ORL C w Mut ρ objs cs (us.map some)) : us.length = cs.length ∧ ∀ (j : Nat) (cl : AV κ Ty) (u : Value), cs[j]? = some cl → us[j]? = some u → VRel C w Mut ρ objs cl u := by
  induction cs generalizing us with
  | nil => cases us with | nil => exact ⟨rfl, fun j cl u h => by simp at h⟩ | cons _ _ => exact h.elim
  | cons c cs ih =>
    cases us with
    | nil => exact h.elim
    | cons u us =>
      obtain ⟨a, b⟩ := ih h.2
      refine ⟨by simp [a], fun j cl u' h1 h2 => ?_⟩
      cases j with
      | zero => simp at h1 h2; subst h1; subst h2; exact h.1
      | succ j => exact b j cl u' (by simpa using h1) (by simpa using h2)

theorem solid2_sound (S : SRel C Mut Lent w0 ρ env objs tm w) {v : AV κ Ty} {u : Option Value} (h : OR C w Mut ρ objs v u) : ∃ ρ', SRel C Mut Lent w0 ρ' env (solid2 objs v).2 tm w ∧ More C w Mut ρ objs ρ' (solid2 objs v).2 ∧ OR C w Mut ρ' (solid2 objs v).2 (solid2 objs v).1 u := by
  by_cases hv : ∃ cs, v = .agg cs
  · obtain ⟨cs, rfl⟩ := hv
    cases u with
    | none => cases h
    | some u =>
      cases h with
      | agg hl hcell hrel =>
        obtain ⟨ρ1, a1, a2, a3⟩ := solidL_sound cs _ objs ρ S (orl_of_cells hl hrel)
        obtain ⟨b1, b2⟩ := cells_of_orl a3
        exact ⟨ρ1, a1, a2, .agg b1 hcell b2⟩
  · have e : solid2 objs v = solid1 objs v := by cases v <;> first | rfl | exact absurd ⟨_, rfl⟩ hv
    rw [e]; exact solid1_sound S h
theorem solidM_sound : ∀ (vs : List (AV κ Ty)) (us : List (Option Value)) (objs : Objs κ Ty) (ρ : Nat → Loc), SRel C Mut Lent w0 ρ env objs tm w → ORL C w Mut ρ objs vs us →
    ∃ ρ', SRel C Mut Lent w0 ρ' env (solidM objs vs).2 tm w ∧ More C w Mut ρ objs ρ' (solidM objs vs).2 ∧ ORL C w Mut ρ' (solidM objs vs).2 (solidM objs vs).1 us
  | [], [], objs, ρ, S, _ => ⟨ρ, S, .refl, trivial⟩
  | v :: vs, u :: us, objs, ρ, S, ⟨h1, h2⟩ => by
    obtain ⟨ρ1, a1, a2, a3⟩ := solid2_sound S h1
    obtain ⟨ρ2, b1, b2, b3⟩ := solidM_sound vs us _ ρ1 a1 (h2.more a2)
    exact ⟨ρ2, b1, a2.trans b2, ⟨a3.more b2, b3⟩⟩
  | [], _ :: _, _, _, _, h => h.elim
  | _ :: _, [], _, _, _, h => h.elim

/-- a variable's cells, told otherwise -/
theorem SRel.rebox (S : SRel C Mut Lent w0 ρ env objs tm w) {n : Nat} {cs cs' : List (AV κ Ty)} (h : objs[n]? = some (.box cs)) (hl : cs'.length = cs.length)
    (hc : ∀ (j : Nat) (cl : AV κ Ty) (v : Value), cs'[j]? = some cl → w.cell? (at' (ρ n).block ((ρ n).off + j)) = some v → isCell v = true → VRel C w Mut ρ objs cl v) :
    SRel C Mut Lent w0 ρ env (objs.set n (.box cs')) tm w ∧ ∀ (v : AV κ Ty) (u : Value), VRel C w Mut ρ objs v u → VRel C w Mut ρ (objs.set n (.box cs')) v u := by
  have hlt := (List.getElem?_eq_some_iff.mp h).1
  have hset : (objs.set n (AObj.box cs'))[n]? = some (.box cs') := by simp [hlt]
  have hne : ∀ k, k ≠ n → (objs.set n (AObj.box cs'))[k]? = objs[k]? := fun k h => List.getElem?_set_ne (Ne.symm h)
  have hft : ∀ k b, FootAt ρ (objs.set n (AObj.box cs')) k b → FootAt ρ objs k b := fun k b hk => by
    by_cases e : k = n
    · subst e; unfold FootAt at hk ⊢; rw [hset] at hk; rw [h]; exact hk
    · unfold FootAt at hk ⊢; rw [hne k e] at hk; exact hk
  have W : WStep w w (FootB ρ objs) (FootB ρ (objs.set n (AObj.box cs'))) := WStep.same fun b ⟨i, hi⟩ => ⟨i, hft i b hi⟩
  have hcm : ∀ k, Compat ρ objs ρ (objs.set n (AObj.box cs')) k := fun k => by
    by_cases e : k = n
    · subst e; unfold Compat; rw [h]; exact .inl ⟨_, hset, rfl⟩
    · exact Compat.of_eq (fun _ => hne k e) (fun _ => rfl)
  refine ⟨S.step W (by simp) hcm (fun k => ?_) (fun i j b hi hj => S.inj i j b (hft i b hi) (hft j b hj)) rfl rfl rfl, fun v u hv => hv.step W (by simp) hcm⟩
  by_cases e : k = n
  · subst e
    have ho := S.ob k
    unfold ORel at ho ⊢
    rw [h] at ho; rw [hset]
    refine ⟨ho.1, fun j cl hj => ?_⟩
    have hjl : j < cs.length := by have := (List.getElem?_eq_some_iff.mp hj).1; omega
    obtain ⟨v, a1, a2, _, a4⟩ := ho.2 j _ (List.getElem?_eq_getElem hjl)
    exact ⟨v, a1, a2, (hc j cl v hj a1 a2).step W (by simp) hcm, a4⟩
  · exact ORel.step W (by simp) hcm (S.ob k) (hne k e) rfl (fun _ _ => rfl)

theorem solidL_length : ∀ (cs : List (AV κ Ty)) (objs : Objs κ Ty), (solidL objs cs).1.length = cs.length
  | [], _ => rfl
  | c :: cs, objs => by simp [solidL, solidL_length cs]

theorem solidB_sound : ∀ (n : Nat) (objs : Objs κ Ty) (ρ : Nat → Loc), SRel C Mut Lent w0 ρ env objs tm w →
    ∃ ρ', SRel C Mut Lent w0 ρ' env (solidB n objs) tm w ∧ objs.length ≤ (solidB n objs).length ∧ ∀ (v : AV κ Ty) (u : Value), VRel C w Mut ρ objs v u → VRel C w Mut ρ' (solidB n objs) v u
  | 0, objs, ρ, S => ⟨ρ, S, Nat.le_refl _, fun _ _ h => h⟩
  | n + 1, objs, ρ, S => by
    obtain ⟨ρ1, a1, a2, a3⟩ := solidB_sound n objs ρ S
    simp only [solidB]
    split
    · rename_i cs hcs
      have ho := a1.ob n
      simp only [ORel, hcs] at ho
      have hor : ORL C w Mut ρ1 (solidB n objs) cs (((List.range cs.length).map fun j => (w.cell? (at' (ρ1 n).block ((ρ1 n).off + j))).getD Go.undef).map some) := by
        refine orl_of_cells (by simp) (fun j cl u hj hu => ?_)
        obtain ⟨v, b1, _, b3, _⟩ := ho.2 j cl hj
        have hjl := (List.getElem?_eq_some_iff.mp hj).1
        rw [List.getElem?_map, List.getElem?_range hjl] at hu
        simp only [Option.map_some, b1, Option.getD_some, Option.some.injEq] at hu
        rw [← hu]; exact b3
      obtain ⟨ρ2, c1, c2, c3⟩ := solidL_sound cs _ _ ρ1 a1 hor
      obtain ⟨d1, d2⟩ := cells_of_orl c3
      have hn : n < (solidB n objs).length := (List.getElem?_eq_some_iff.mp hcs).1
      have hcs2 : (solidL (solidB n objs) cs).2[n]? = some (.box cs) := by rw [c2.same n hn]; exact hcs
      have hρ : ∀ (u : Value), VRel C w Mut ρ2 (solidL (solidB n objs) cs).2 (.ref n 0) u → VRel C w Mut ρ1 (solidB n objs) (.ref n 0) u → True := fun _ _ _ => trivial
      have hloc : ρ2 n = ρ1 n ∨ True := .inr trivial
      have href := c2.rel _ _ (VRel.ref (C := C) (w := w) (Mut := Mut) (off := 0) hcs)
      have hblk : (ρ2 n).block = (ρ1 n).block ∧ (ρ2 n).off = (ρ1 n).off := by
        generalize hq : Value.pointer (some (at' (ρ1 n).block ((ρ1 n).off + 0))) = q at href
        cases href with
        | ref h => simp [at'] at hq; exact ⟨hq.1.symm, hq.2.symm⟩
        | refd hc hin h => rw [boxOf_of hcs2] at h; cases h
      obtain ⟨e1, e2⟩ := c1.rebox hcs2 (solidL_length cs _) (fun j cl v hj hv hcl => by
        have hjl : j < cs.length := by have := (List.getElem?_eq_some_iff.mp hj).1; rwa [solidL_length] at this
        refine d2 j cl v hj ?_
        rw [List.getElem?_map, List.getElem?_range hjl]
        rw [hblk.1, hblk.2] at hv
        simp [hv])
      exact ⟨ρ2, e1, by have := c2.len; simp; omega, fun v u h => e2 v u (c2.rel v u (a3 v u h))⟩
    · exact ⟨ρ1, a1, a2, a3⟩

end
end Km
