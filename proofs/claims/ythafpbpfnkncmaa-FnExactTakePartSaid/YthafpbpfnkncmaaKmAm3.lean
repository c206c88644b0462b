/- A part of the proof of FnExactTakePart: an abstract machine over the program, sound by its theorems. There is no condition. -/
import Derived.Test.YthafpbpfnkncmaaKmAm2
import Derived.KernelRfl
import Derived.Below
import Derived.ChangeArms
import Derived.IntWalk
import Derived.Laws.Strings
namespace Km
open Go
set_option linter.unusedVariables false
set_option linter.unusedSimpArgs false

variable {κ : Type} {Ty : κ → Type} {R : Type}
section
variable {P : Program} {C : Cod κ Ty} {T : TypeId → Option (TI κ Ty)} {Γ : FuncId → Option (Summ κ Ty)}
variable {Mut : Nat → Prop} {Lent : Org κ Ty} {w0 w w' : World} {ρ ρ' ρ2 : Nat → Loc} {env : Env κ Ty} {objs objs' objs2 : Objs κ Ty} {a : Act} {tm : Array Value}

/-- a list of values, one by one -/
def VL (C : Cod κ Ty) (w : World) (Mut : Nat → Prop) (ρ : Nat → Loc) (objs : Objs κ Ty) (vs : List (AV κ Ty)) (us : List Value) : Prop :=
  us.length = vs.length ∧ ∀ (j : Nat) (v : AV κ Ty) (u : Value), vs[j]? = some v → us[j]? = some u → VRel C w Mut ρ objs v u

theorem VL.weak {vs : List (AV κ Ty)} {us : List Value} (h : VL C w Mut ρ objs vs us) (hw : Weaker objs objs') : VL C w Mut ρ objs' vs us :=
  ⟨h.1, fun j v u a b => hw.rel (h.2 j v u a b)⟩
theorem VL.cons {v : AV κ Ty} {vs : List (AV κ Ty)} {u : Value} {us : List Value} (h : VRel C w Mut ρ objs v u) (h' : VL C w Mut ρ objs vs us) : VL C w Mut ρ objs (v :: vs) (u :: us) :=
  ⟨by simp [h'.1], fun j x y a b => by
    cases j with
    | zero => simp at a b; subst a; subst b; exact h
    | succ j => exact h'.2 j x y (by simpa using a) (by simpa using b)⟩
theorem VL.tail {v : AV κ Ty} {vs : List (AV κ Ty)} {u : Value} {us : List Value} (h : VL C w Mut ρ objs (v :: vs) (u :: us)) : VL C w Mut ρ objs vs us :=
  ⟨by simpa using h.1, fun j x y a b => h.2 (j + 1) x y (by simpa using a) (by simpa using b)⟩

theorem isCell_of {v : AV κ Ty} {u : Value} (h : VRel C w Mut ρ objs v u) (hv : (∃ x, v = .lit x) ∨ (∃ i, v = .own i) ∨ (∃ t, v = .nil t) ∨ (∃ b t xs, v = .inl b t xs)) : isCell u = true := by
  rcases hv with ⟨x, rfl⟩ | ⟨i, rfl⟩ | ⟨t, rfl⟩ | ⟨b, t, xs, rfl⟩ <;> cases h <;> first | rfl | assumption

theorem frzL_sound (HC : CodOk C) : ∀ (vs : List (AV κ Ty)) (us : List Value) (objs : Objs κ Ty) (K : List (AV κ Ty) → Objs κ Ty → Option R) (r : R), SRel C Mut Lent w0 ρ env objs tm w → VL C w Mut ρ objs vs us →
    frzL C objs vs K = some r → ∃ vs' objs', K vs' objs' = some r ∧ SRel C Mut Lent w0 ρ env objs' tm w ∧ VL C w Mut ρ objs' vs' us ∧ Weaker objs objs'
  | [], us, objs, K, r, S, hv, h => ⟨[], objs, h, S, hv, .refl _⟩
  | v :: vs, us, objs, K, r, S, hv, h => by
    obtain ⟨u, us, rfl⟩ : ∃ u us', us = u :: us' := by have := hv.1; cases us with | nil => simp at this | cons u us => exact ⟨u, us, rfl⟩
    have hu : VRel C w Mut ρ objs v u := hv.2 0 v u rfl rfl
    by_cases hag : ∃ cs, v = .agg cs
    · obtain ⟨cs, rfl⟩ := hag
      simp only [frzL] at h
      cases hu with
      | agg hl hcell hrel =>
        rename_i us0
        obtain ⟨ns, o1, g1, g2, g3, g4⟩ := deepen_sound HC cs us0 objs _ r S ⟨hl, hcell, hrel⟩ h
        obtain ⟨vs', o2, k1, k2, k3, k4⟩ := frzL_sound HC vs us o1 _ r g2 (hv.tail.weak g4) g1
        exact ⟨_, o2, k1, k2, .cons (k4.rel g3.agg) k3, g4.trans k4⟩
    · have e : frzL C objs (v :: vs) K = deepen C false objs [v] fun cs' o => frzL C o vs fun vs' o' => K (cs' ++ vs') o' := by
        cases v <;> first | rfl | exact absurd ⟨_, rfl⟩ hag
      rw [e] at h
      have hcell : isCell u = true := isCell_of hu (by
        cases v with
        | lit x => exact .inl ⟨_, rfl⟩
        | own i => exact .inr (.inl ⟨_, rfl⟩)
        | nil t => exact .inr (.inr (.inl ⟨_, rfl⟩))
        | inl b t xs => exact .inr (.inr (.inr ⟨_, _, _, rfl⟩))
        | agg cs => exact absurd ⟨_, rfl⟩ hag
        | _ => simp [deepen] at h)
      obtain ⟨ns, o1, g1, g2, g3, g4⟩ := deepen_sound HC [v] [u] objs _ r S ⟨rfl, fun j x hj => by
        cases j with
        | zero => simp at hj; subst hj; exact hcell
        | succ j => simp at hj, fun j x y a b => by
        cases j with
        | zero => simp at a b; subst a; subst b; exact hu
        | succ j => simp at a⟩ h
      obtain ⟨vs', o2, k1, k2, k3, k4⟩ := frzL_sound HC vs us o1 _ r g2 (hv.tail.weak g4) g1
      obtain ⟨n, rfl⟩ : ∃ n, ns = [n] := by
        have := g3.1
        match ns, this with
        | [n], _ => exact ⟨n, rfl⟩
        | [], h => simp at h
        | _ :: _ :: _, h => simp at h
      exact ⟨_, o2, k1, k2, .cons (k4.rel (g3.2.2 0 n u rfl rfl)) k3, g4.trans k4⟩

theorem vl_orl {vs : List (AV κ Ty)} {us : List Value} (h : VL C w Mut ρ objs vs us) : ORL C w Mut ρ objs vs (us.map some) := orl_of_cells h.1 h.2
theorem orl_vl {vs : List (AV κ Ty)} {us : List Value} (h : ORL C w Mut ρ objs vs (us.map some)) : VL C w Mut ρ objs vs us := cells_of_orl h

/-- what a function gives back, in memory -/
def Gives (C : Cod κ Ty) (Mut : Nat → Prop) (Lent : Org κ Ty) (w0 : World) (v : AV κ Ty) (objs : Objs κ Ty) (u : Value) (w : World) : Prop :=
  ∃ ρ, VRel C w Mut ρ objs v u ∧ SRel C Mut Lent w0 ρ [] objs #[] w ∧ (∀ o ∈ objs, safeO C o = true) ∧ (∀ vs, v = .tup vs → vs.all safe2 = true) ∧ ((∀ vs, v ≠ .tup vs) → safe2 v = true)

def oneV (us : List Value) : Value := match us with | [u] => u | us => .tuple us.toArray

theorem one_rel {vs : List (AV κ Ty)} {us : List Value} (h : VL C w Mut ρ objs vs us) : VRel C w Mut ρ objs (one vs) (oneV us) := by
  have hlen := h.1
  match vs, us with
  | [v], [u] => exact h.2 0 v u rfl rfl
  | [], [] => exact .tup h.1 h.2
  | _ :: _ :: _, _ :: _ :: _ => exact .tup h.1 h.2
  | [], _ :: _ => simp at hlen
  | _ :: _, [] => simp at hlen
  | [_], _ :: _ :: _ => simp at hlen
  | _ :: _ :: _, [_] => simp at hlen

theorem finishV_sound (HC : CodOk C) (S : SRel C Mut Lent w0 ρ env objs tm w) {dec : AV κ Ty → Objs κ Ty → Option R} {vs : List (AV κ Ty)} {us : List Value} {r : R} (hv : VL C w Mut ρ objs vs us)
    (h : finishV C Lent.objs.length dec vs objs = some r) : ∃ v objs', dec v objs' = some r ∧ Gives C Mut Lent w0 v objs' (oneV us) w := by
  unfold finishV at h
  dsimp only at h
  obtain ⟨ρ', S', hv'⟩ := compact_sound HC S (vl_orl hv)
  generalize compact Lent.objs.length vs objs = q at h S' hv'
  obtain ⟨vs', objs'⟩ := q
  dsimp only at h S' hv'
  split at h
  · rename_i hs
    simp only [Bool.and_eq_true] at hs
    have hvl := orl_vl hv'
    refine ⟨_, objs', h, ρ', one_rel hvl, S'.setEnv (fun i => .inl rfl), by simpa [List.all_eq_true] using hs.2, fun xs e => ?_, fun hn => ?_⟩
    · match vs', hs.1 with
      | [], _ => cases e; rfl
      | [x], hs1 =>
        simp only [one] at e
        subst e
        simp [safe2] at hs1
      | x :: y :: l, hs1 => cases e; exact hs1
    · match vs', hs.1 with
      | [], _ => exact absurd rfl (hn [])
      | [x], hs1 => show safe2 x = true; simpa using hs1
      | x :: y :: l, _ => exact absurd rfl (hn _)
  · cases h

/-- the values of the results, as the program reads them -/
def resV (rs : List ResultVar) (tm : Array Value) : Sem (List Value) := rs.mapM fun
  | .tmp t => pure (tm.getD t undef)
  | .cell a t => do loadVar t (← asAddr (tm.getD a undef))

theorem resA_sound (HT : TOk P C T) (HC : CodOk C) (S : SRel C Mut Lent w0 ρ env objs tm w) : ∀ (rs : List ResultVar) {K : List (AV κ Ty) → Option R} {r : R}, resA C T env objs rs K = some r →
    ∃ vs us, K vs = some r ∧ VL C w Mut ρ objs vs us ∧ (resV rs tm).run P w = .ok us w
  | [], K, r, h => ⟨[], [], h, ⟨rfl, fun j v u h => by simp at h⟩, by simp [resV]⟩
  | .tmp t :: rs, K, r, h => by
    simp only [resA] at h
    obtain ⟨vs, us, h1, h2, h3⟩ := resA_sound HT HC S rs h
    refine ⟨_, _, h1, .cons (look_rel (a := ⟨tm, []⟩) S t) h2, ?_⟩
    unfold resV at h3 ⊢
    simp only [List.mapM_cons, Sem.run_bind, Sem.run_pure, Result.andThen_ok, h3]
  | .cell c t :: rs, K, r, h => by
    simp only [resA] at h
    split at h
    · rename_i ti ht
      obtain ⟨v, u, h1, h2, h3⟩ := aload_sound (P := P) (a := ⟨tm, []⟩) HT HC S ht (look_rel (a := ⟨tm, []⟩) S c) h
      obtain ⟨vs, us, k1, k2, k3⟩ := resA_sound HT HC S rs h1
      refine ⟨_, _, k1, .cons h3 k2, ?_⟩
      have h4 : (do loadVar t (← asAddr (tm.getD c undef)) : Sem Value).run P w = .ok u w := by
        generalize tm.getD c undef = q at h2 ⊢
        cases q <;> first
          | (simp [Instr.loadAt, Instr.sureAddr] at h2; done)
          | (rename_i p; cases p <;> first
              | (simp [Instr.loadAt, Instr.sureAddr] at h2; done)
              | simpa [Instr.loadAt, Instr.sureAddr, asAddr] using h2)
      unfold resV at k3 ⊢
      rw [List.mapM_cons, Sem.run_bind]
      dsimp only
      rw [h4, Result.andThen_ok, Sem.run_bind, k3]
      simp only [Result.andThen_ok, Sem.run_pure]
    · cases h

theorem finish_sound (HT : TOk P C T) (HC : CodOk C) (S : SRel C Mut Lent w0 ρ env objs tm w) {frz : Bool} {rs : List ResultVar} {dec : AV κ Ty → Objs κ Ty → Option R} {r : R}
    (h : finish C T frz Lent.objs.length rs dec env objs = some r) : ∃ v objs' us, dec v objs' = some r ∧ Gives C Mut Lent w0 v objs' (oneV us) w ∧ (resV rs tm).run P w = .ok us w := by
  unfold finish at h
  obtain ⟨vs, us, h, hv, hr⟩ := resA_sound HT HC S rs h
  split at h
  · obtain ⟨vs', o1, g1, g2, g3, _⟩ := frzL_sound HC _ _ objs _ r S hv h
    obtain ⟨v, os, k1, k2⟩ := finishV_sound HC g2 g3 g1
    exact ⟨v, os, us, k1, k2, hr⟩
  · obtain ⟨v, os, k1, k2⟩ := finishV_sound HC S hv h
    exact ⟨v, os, us, k1, k2, hr⟩

theorem run_results {fn : Func} {rs : List ResultVar} (h : fn.results.toList = rs) {tm : Array Value} {w : World} {us : List Value} (hr : (resV rs tm).run P w = .ok us w) : (results fn tm).run P w = .ok (oneV us) w := by
  have hm : fn.results = rs.toArray := by apply Array.ext'; simpa using h
  unfold resV at hr
  unfold results
  rw [hm]
  simp only [List.mapM_toArray, Sem.run_bind, map_eq_pure_bind, Sem.run_pure]
  have e : ∀ (g g' : ResultVar → Sem Value), g = g' → (List.mapM g rs).run P w = .ok us w → (List.mapM g' rs).run P w = .ok us w := fun g g' h => by rw [h]; exact id
  rw [e _ _ (by funext r; cases r <;> rfl) hr]
  simp only [Result.andThen_ok]
  congr 1
  match us with
  | [] => rfl
  | [i] => rfl
  | i :: j :: l => simp [oneV]

/-! ### what is given: lent slices that are one's own from the entry on -/
/-- new numbers: those at m and above are what was given -/
def givN : List Bool → Nat → Nat → List Nat
  | [], _, _ => []
  | g :: gs, i, m => (if g then [i] else []) ++ givN gs (i + 1) m
def givG (gs : List Bool) (i : Nat) : Option Nat := match gs.getD i false with
  | true => (match posN (givN gs 0 0) i 0 with | some k => some (gs.length + k) | none => none)
  | false => some i
def givO (gs : List Bool) (objs : Objs κ Ty) : Objs κ Ty :=
  (List.range gs.length).map (fun i => match gs.getD i false with | true => .dead | false => (match objs[i]? with | some o => renO (givG gs) o | none => .dead)) ++
  (givN gs 0 0).map (fun i => match objs[i]? with | some o => renO (givG gs) o | none => .dead)
def givρ (gs : List Bool) (ρ : Nat → Loc) : Nat → Loc := fun j => if j < gs.length then ρ j else ρ ((givN gs 0 0).getD (j - gs.length) 0)
theorem givN_mem {gs : List Bool} {m : Nat} : ∀ {i j : Nat}, j ∈ givN gs i m ↔ i ≤ j ∧ gs.getD (j - i) false = true := by
  induction gs with
  | nil => intro i j; simp [givN]
  | cons g gs ih =>
    intro i j
    simp only [givN, List.mem_append, ih]
    constructor
    · rintro (h | ⟨h1, h2⟩)
      · cases g <;> simp at h
        subst h; simp
      · refine ⟨by omega, ?_⟩
        rw [show j - i = (j - (i + 1)) + 1 by omega]; simpa using h2
    · rintro ⟨h1, h2⟩
      by_cases e : j = i
      · subst e; simp at h2; subst h2; simp
      · refine .inr ⟨by omega, ?_⟩
        rw [show j - i = (j - (i + 1)) + 1 by omega] at h2; simpa using h2
theorem givN_nodup {gs : List Bool} {m : Nat} : ∀ {i : Nat}, (givN gs i m).Nodup := by
  induction gs with
  | nil => intro i; exact .nil
  | cons g gs ih =>
    intro i
    simp only [givN]
    cases g
    · simpa using ih
    · simp only [if_true, List.cons_append, List.nil_append, List.nodup_cons]
      exact ⟨fun h => by have := (givN_mem.mp h).1; omega, ih⟩
theorem giv_ren {gs : List Bool} {objs : Objs κ Ty} (ρ : Nat → Loc) (hl : objs.length = gs.length) : Ren (givG gs) ρ objs (givρ gs ρ) (givO gs objs) := by
  intro i j o hg ho
  have hi := (List.getElem?_eq_some_iff.mp ho).1
  unfold givG at hg
  split at hg
  · rename_i hb
    split at hg
    · rename_i k hk
      cases hg
      obtain ⟨_, hk2⟩ := posN_some hk
      rw [Nat.sub_zero] at hk2
      constructor
      · unfold givO
        rw [List.getElem?_append_right (by simp)]
        simp only [List.length_map, List.length_range, Nat.add_sub_cancel_left, List.getElem?_map, hk2, Option.map_some, ho]
      · have : ¬ (gs.length + k < gs.length) := by omega
        unfold givρ
        rw [if_neg this]
        simp [List.getD, hk2]
    · cases hg
  · rename_i hb
    cases hg
    constructor
    · unfold givO
      rw [List.getElem?_append_left (by simp; omega)]
      simp only [List.getElem?_map]
      rw [List.getElem?_range (by omega)]
      simp only [Option.map_some, hb, ho]
    · simp [givρ]; omega
theorem giv_cases {gs : List Bool} {objs : Objs κ Ty} (hl : objs.length = gs.length) {j : Nat} {o : AObj κ Ty} (h : (givO gs objs)[j]? = some o) (hd : o ≠ .dead) : ∃ i, givG gs i = some j ∧ i < objs.length ∧ objs[i]?.map (renO (givG gs)) = some o := by
  unfold givO at h
  by_cases hj : j < gs.length
  · rw [List.getElem?_append_left (by simpa using hj)] at h
    simp only [List.getElem?_map] at h
    rw [List.getElem?_range hj] at h
    simp only [Option.map_some, Option.some.injEq] at h
    split at h
    · exact absurd h.symm hd
    · rename_i hb
      refine ⟨j, by unfold givG; rw [hb], by omega, ?_⟩
      rw [List.getElem?_eq_getElem (by omega : j < objs.length)] at h ⊢
      simp only [Option.map_some]; rw [← h]
  · rw [List.getElem?_append_right (by simp; omega)] at h
    simp only [List.length_map, List.length_range, List.getElem?_map, Option.map_eq_some_iff] at h
    obtain ⟨i, h1, h2⟩ := h
    have hm := givN_mem.mp (List.mem_of_getElem? h1)
    rw [Nat.sub_zero] at hm
    have hlt : i < gs.length := by
      rcases Nat.lt_or_ge i gs.length with h | h
      · exact h
      · have := hm.2; rw [List.getD_eq_getElem?_getD, List.getElem?_eq_none h] at this; cases this
    refine ⟨i, ?_, by omega, ?_⟩
    · unfold givG
      rw [hm.2, posN_at givN_nodup h1]
      show some (gs.length + (j - gs.length)) = some j
      congr 1; omega
    · rw [List.getElem?_eq_getElem (by omega : i < objs.length)] at h2 ⊢
      simp only [Option.map_some]; rw [← h2]
theorem giv_foot {gs : List Bool} {objs : Objs κ Ty} {ρ : Nat → Loc} (hl : objs.length = gs.length) {j b : Nat} (h : FootAt (givρ gs ρ) (givO gs objs) j b) : ∃ i, givG gs i = some j ∧ FootAt ρ objs i b := by
  have hd : ∃ o, (givO gs objs)[j]? = some o ∧ o ≠ .dead := by
    unfold FootAt at h
    split at h
    · rename_i cs e; exact ⟨_, e, fun h => by cases h⟩
    · rename_i t xs e; exact ⟨_, e, fun h => by cases h⟩
    · exact h.elim
  obtain ⟨o, ho, hne⟩ := hd
  obtain ⟨i, hi, hlt, _⟩ := giv_cases hl ho hne
  have hob : objs[i]? = some objs[i] := List.getElem?_eq_getElem hlt
  obtain ⟨g1, g2⟩ := giv_ren ρ hl i j _ hi hob
  exact ⟨i, hi, (footAt_ren hob g1 g2).mp h⟩
theorem givG_inj {gs : List Bool} {i i' j : Nat} (h : givG gs i = some j) (h' : givG gs i' = some j) (hi : i < gs.length) (hi' : i' < gs.length) : i = i' := by
  unfold givG at h h'
  split at h <;> split at h'
  · split at h
    · split at h'
      · rename_i hk _ _ hk'
        cases h
        simp only [Option.some.injEq, Nat.add_left_cancel_iff] at h'
        subst h'
        have a := (posN_some hk).2
        have b := (posN_some hk').2
        rw [a] at b; cases b; rfl
      · cases h'
    · cases h
  · split at h
    · cases h; simp at h'; omega
    · cases h
  · split at h'
    · cases h; simp at h'; omega
    · cases h'
  · cases h; cases h'; rfl
theorem giv_wider {gs : List Bool} {objs : Objs κ Ty} (ρ : Nat → Loc) (hl : objs.length = gs.length) : Wider true Mut ρ objs Mut (givρ gs ρ) (givO gs objs) := by
  intro b k _ h h'
  rcases h' with ⟨j, hj⟩ | ⟨hb, hm⟩
  · obtain ⟨i, _, hi⟩ := giv_foot hl hj
    exact h (.inl ⟨i, hi⟩)
  · exact h (.inr ⟨hb, hm⟩)
theorem SRel.give (HC : CodOk C) (S : SRel C Mut ⟨ρ, objs⟩ w ρ [] objs tm w) {gs : List Bool} (hl : objs.length = gs.length) :
    SRel C Mut ⟨ρ, objs⟩ w (givρ gs ρ) [] (givO gs objs) tm w := by
  refine { S with env := fun i => .inl rfl, ob := fun j => ?_, inj := fun i j b hi hj => ?_, live := fun b ⟨j, hj⟩ => ?_, comp := fun i => ?_, len := ?_ }
  · by_cases hd : ∃ o, (givO gs objs)[j]? = some o ∧ o ≠ .dead
    · obtain ⟨o, ho, hne⟩ := hd
      obtain ⟨i, hi, hlt, _⟩ := giv_cases hl ho hne
      exact ORel.ren HC (giv_ren ρ hl) (giv_wider ρ hl) hi (List.getElem?_eq_getElem hlt) (fun h => by cases h) (S.ob i)
    · unfold ORel
      split
      · rename_i cs e; exact absurd ⟨_, e, fun h => by cases h⟩ hd
      · rename_i t xs e; exact absurd ⟨_, e, fun h => by cases h⟩ hd
      · trivial
  · obtain ⟨p, h1, h2⟩ := giv_foot hl hi
    obtain ⟨q, g1, g2⟩ := giv_foot hl hj
    have := S.inj p q b h2 g2
    subst this
    rw [h1] at g1; cases g1; rfl
  · obtain ⟨i, _, hi⟩ := giv_foot hl hj
    exact S.live b ⟨i, hi⟩
  · show Compat ρ objs (givρ gs ρ) (givO gs objs) i
    by_cases hi : i < objs.length
    · have hob : objs[i]? = some objs[i] := List.getElem?_eq_getElem hi
      cases hb : gs.getD i false with
      | true =>
        have hdead : (givO gs objs)[i]? = some .dead := by
          unfold givO
          rw [List.getElem?_append_left (by simp; omega)]
          simp only [List.getElem?_map]
          rw [List.getElem?_range (by omega)]
          simp only [Option.map_some, hb]
        unfold Compat
        rw [hob]
        cases objs[i] with
        | dead => exact ⟨boxOf_dead hdead, slOf_dead hdead⟩
        | box cs => exact .inr ⟨boxOf_dead hdead, slOf_dead hdead⟩
        | sl t xs => exact .inr ⟨boxOf_dead hdead, slOf_dead hdead⟩
      | false =>
        obtain ⟨g1, g2⟩ := giv_ren ρ hl i i _ (by unfold givG; rw [hb]) hob
        unfold Compat
        rw [hob]
        cases ho : objs[i] with
        | dead => rw [ho] at g1; exact ⟨boxOf_dead g1, slOf_dead g1⟩
        | box cs => rw [ho] at g1; exact .inl ⟨_, g1, g2⟩
        | sl t xs => rw [ho] at g1; exact .inl ⟨xs, g1, rfl, g2⟩
    · unfold Compat
      rw [List.getElem?_eq_none (by omega)]; trivial
  · show objs.length ≤ (givO gs objs).length
    simp [givO]; omega

/-- a function does what its summary says -/
theorem summ_sound {f : FuncId} {fn : Func} {body : Code} {S : Summ κ Ty} {Γ : Nat → FuncId → Option (Summ κ Ty)} {Λ : Nat → Nat → List (AV κ Ty) → Objs κ Ty → Option S.R} {cuts : List (Nat × List Nat)} {frz : Bool} {rs : List ResultVar} {m : Nat}
    {dec : AV κ Ty → Objs κ Ty → Option S.R}
    (hm : P.follows .mixedOrders = true) (H : ∀ k, Known P C T (Γ k)) (HQ : ∀ k, QuietOk (Γ k)) (hf : P.funcs[f]? = some fn) (hname : (fn.name == "runtime.NumGoroutine") = false) (hb : fn.body = some body) (hres : fn.results.toList = rs)
    (hok : okC fn.ntmps body = true) (hdup : nodupB (rids body) = true) (hdec : ∀ v os r, dec v os = some r → S.ret r = (v, os))
    (h0 : ∀ id vs os, Λ 0 id vs os = none)
    (h1 : ∀ k id vs os r slots, cutAt cuts id = some slots → Λ (k + 1) id vs os = some r → ∃ n todo, inCode id body [] = some todo ∧ run C T (Γ k) (Λ k) cuts m (finish C T frz m rs dec) n true todo (envOf slots vs) os = some r)
    (gs : List Bool)
    (hrun : ∀ args os r, S.run args os = some r → args.length ≤ fn.ntmps ∧ os.length = m ∧ gs.length = m ∧ ∃ k n, run C T (Γ k) (Λ k) cuts m (finish C T frz m rs dec) n false [.code body] (envOf (List.range (args.map (renV (givG gs))).length) (args.map (renV (givG gs)))) (givO gs os) = some r) :
    SummOk P C f S := by
  refine ⟨⟨fn, hf, hname, by simp [hb]⟩, fun args0 objs0 r hr Mut ρ0 vals w hlen0 hrel0 S00 => ?_⟩
  obtain ⟨hle0, hml, hgl, k, n, hrun⟩ := hrun args0 objs0 r hr
  have hgo : objs0.length = gs.length := by omega
  have S0 := SRel.give (H 0).cod S00 hgo
  have hrel : ∀ (j : Nat) (x : AV κ Ty) (u : Value), (args0.map (renV (givG gs)))[j]? = some x → vals[j]? = some u → VRel C w Mut (givρ gs ρ0) (givO gs objs0) x u := fun j x u hx hu => by
    simp only [List.getElem?_map, Option.map_eq_some_iff] at hx
    obtain ⟨y, hy, rfl⟩ := hx
    exact renV_rel (H 0).cod (giv_ren ρ0 hgo) (giv_wider ρ0 hgo) (fun h => by cases h) (fun h => by cases h) (hrel0 j y u hy hu)
  have hlen : vals.size = (args0.map (renV (givG gs))).length := by simpa using hlen0
  have hle : (args0.map (renV (givG gs))).length ≤ fn.ntmps := by simpa using hle0
  revert S0 hrel hlen hle hrun
  generalize args0.map (renV (givG gs)) = args
  generalize givO gs objs0 = objs
  generalize givρ gs ρ0 = ρ
  intro hrun S0 hrel hlen hle
  intro cs
  let b : Frame := { (default : Frame) with fn := f, kind := .normal }
  let a : Act := { tmps := vals ++ Array.replicate (fn.ntmps - vals.size) undef, defers := [] }
  have henter : Frame.enter P f vals .normal = b.at a [.code body] := by
    simp [Frame.enter, Frame.at, hf, hb, b, a]
  have hbody : Piece fn.ntmps body body [] := ⟨hok, nodupB_iff hdup, fun id t h => h⟩
  have hsz : a.tmps.size = fn.ntmps := by simp [a]; omega
  have hpre : ∀ (n : Nat) (xs : List (AV κ Ty)) (i : Nat), look (envOf (List.range' n xs.length) xs) i = .undef ∨ ∃ j, i = n + j ∧ ∃ x, xs[j]? = some x ∧ look (envOf (List.range' n xs.length) xs) i = x := by
    intro n xs
    induction xs generalizing n with
    | nil => intro i; exact .inl rfl
    | cons x xs ih =>
      intro i
      simp only [List.length_cons, List.range'_succ, envOf, look_cons]
      split
      · rename_i e; exact .inr ⟨0, by omega, x, rfl, rfl⟩
      · rcases ih (n + 1) i with h | ⟨j, h1, y, h2, h3⟩
        · exact .inl h
        · exact .inr ⟨j + 1, by omega, y, by simpa using h2, h3⟩
  have S1 : SRel C Mut ⟨ρ0, objs0⟩ w ρ (envOf (List.range args.length) args) objs a.tmps w := S0.setEnv fun i => by
    rw [List.range_eq_range']
    rcases hpre 0 args i with h | ⟨j, h1, x, h2, h3⟩
    · exact .inl h
    · have hj := (List.getElem?_eq_some_iff.mp h2).1
      have hij : i = j := by omega
      subst hij
      have hv : vals[i]? = some (vals[i]'(by omega)) := Array.getElem?_eq_getElem _
      refine .inr ⟨_, ?_, by rw [h3]; exact hrel i x _ h2 hv⟩
      simp only [a]
      rw [Array.getElem?_append_left (by omega)]; exact hv
  subst hml
  obtain ⟨a', w', todo', env', objs', ρ', g1, g2, g3, g4, g5⟩ := run_sound (Lent := ⟨ρ0, objs0⟩) (b := b) (cs := cs) hm H HQ hbody h0 h1 k n false [.code body] _ objs ρ a w ⟨hbody, trivial⟩ hsz rfl S1 hrun
  obtain ⟨v, os, us, k1, ⟨ρ2, k2, k3, k4, k5, k6⟩, kr⟩ := finish_sound (P := P) (H 0).ty (H 0).cod g5 g4
  have hret := hdec v os r k1
  refine ⟨.returned _, w', { b.at a' todo' with mode := .returning }, ⟨_, ρ2, rfl, ?_, ?_, ?_, ?_, ?_⟩, ?_, rfl, rfl, g2, rfl, fn, hf, run_results hres kr⟩
  · rw [hret]; exact k2
  · rw [hret]; exact k3
  · rw [hret]; exact k4
  · rw [hret]; exact k5
  · rw [hret]; exact k6
  · rw [henter]; exact g1

end
end Km
namespace Km
open Go
set_option linter.unusedVariables false

universe u
variable {κ : Type} {Ty : κ → Type} {R : Type}

/-- a table, as a list -/
def lookT {α : Type u} : List (Nat × α) → Nat → Option α
  | [], _ => none
  | (j, v) :: l, i => match Nat.beq j i with | true => some v | false => lookT l i
theorem lookT_mem {α : Type u} : ∀ {l : List (Nat × α)} {i : Nat} {v : α}, lookT l i = some v → (i, v) ∈ l
  | [], i, v, h => by cases h
  | (j, x) :: l, i, v, h => by
    simp only [lookT] at h
    split at h
    · rename_i hb; have := Nat.eq_of_beq_eq_true hb; cases h; subst this; simp
    · exact List.mem_cons_of_mem _ (lookT_mem h)

def isCells : List Value → Bool
  | [] => true
  | v :: l => isCell v && isCells l
theorem isCells_iff : ∀ {l : List Value}, isCells l = true → ∀ v ∈ l, isCell v = true
  | [], _, v, hv => by simp at hv
  | x :: l, h, v, hv => by
    simp only [isCells, Bool.and_eq_true] at h
    simp only [List.mem_cons] at hv
    rcases hv with rfl | hv
    · exact h.1
    · exact isCells_iff h.2 v hv
/-- what a struct's fields must be -/
def fieldsOk (P : Program) : List Field → Bool
  | [] => true
  | f :: fs => (match P.info? f.type with | some i => !(Nat.beq i.size 0) | none => false) && fieldsOk P fs
theorem fieldsOk_iff {P : Program} : ∀ {l : List Field}, fieldsOk P l = true → ∀ f ∈ l, ∃ i, P.info? f.type = some i ∧ i.size ≠ 0
  | [], _, v, hv => by simp at hv
  | x :: l, h, v, hv => by
    simp only [fieldsOk, Bool.and_eq_true] at h
    simp only [List.mem_cons] at hv
    rcases hv with rfl | hv
    · have h := h.1
      split at h
      · rename_i i hi
        refine ⟨i, hi, fun e => ?_⟩
        rw [e] at h; simp at h
      · cases h
    · exact fieldsOk_iff h.2 v hv

/-- no field without a name -/
def named : List Field → Bool
  | [] => true
  | f :: fs => f.name != "_" && named fs
theorem named_iff : ∀ {l : List Field}, named l = true → ∀ f ∈ l, f.name ≠ "_"
  | [], _, v, hv => by simp at hv
  | x :: l, h, v, hv => by
    simp only [named, Bool.and_eq_true] at h
    simp only [List.mem_cons] at hv
    rcases hv with rfl | hv
    · simpa using h.1
    · exact named_iff h.2 v hv
/-- one row of the table told rightly -/
structure RowOk (P : Program) (C : Cod κ Ty) (T : TypeId → Option (TI κ Ty)) (t : TypeId) (ti : TI κ Ty) : Prop where
  info : ∃ i z d, P.info? t = some i ∧ i.size = ti.size ∧ i.bytes = ti.bytes ∧ i.zero = some z ∧ z.cells.toList.map some = ti.zero.map zval ∧ isCells z.cells.toList = true ∧ P.underlying t = some d ∧ (match d with | .struct _ => true | .array .. => true | _ => false) = ti.agg ∧
    (match ti.shp with
     | .int k => d = .int k
     | .bool => d = .bool
     | .str => d = .string
     | .struct fs => ∃ fields, d = .struct fields ∧ fields.toList.map (fun f => (f.offset, f.type)) = fs ∧ fieldsOk P fields.toList = true ∧ P.stoodInHeld t = false ∧ P.eqGuardType P.depth t = false ∧ named fields.toList = true
     | .arr n e s => d = .array n e ∧ (∃ i, P.info? e = some i ∧ i.size = C.sz s ∧ i.bytes = C.by' s) ∧ ∃ te, T e = some te ∧ te.zero.length = C.sz s ∧ ti.zero = (List.replicate n te.zero).flatten
     | .slice e s => (d = .slice e ∧ ∃ i, P.info? e = some i ∧ i.size = C.sz s ∧ i.bytes = C.by' s) ∧ ∃ i z, P.info? e = some i ∧ i.zero = some z ∧ z.cells.size = C.sz s ∧ isCells z.cells.toList = true ∧ 0 < C.by' s
     | .other => True)

theorem TOk.of {P : Program} {C : Cod κ Ty} {l : List (Nat × TI κ Ty)} (h : ∀ e ∈ l, RowOk P C (lookT l) e.1 e.2) : TOk P C (lookT l) := by
  have key : ∀ t ti, lookT l t = some ti → RowOk P C (lookT l) t ti := fun t ti ht => h _ (lookT_mem ht)
  refine ⟨fun t ti ht => ?_, fun t ti ht => ?_, fun t ti k ht hs => ?_, fun t ti ht hs => ?_, fun t ti ht hs => ?_, fun t ti fs ht hs => ?_, fun t ti fs ht hs => ?_, fun t ti n e s ht hs => ?_, fun t ti e s ht hs => ?_⟩ <;>
    obtain ⟨i, z, d, h1, h2, h3, h4, h5, h6, h7, h8, h9⟩ := (key t ti ht).info
  · exact ⟨i, z, h1, h2, h3, h4, h5, isCells_iff h6⟩
  · exact ⟨d, h7, h8⟩
  · rw [hs] at h9; rw [h7, h9]
  · rw [hs] at h9; rw [h7, h9]
  · rw [hs] at h9; rw [h7, h9]
  · rw [hs] at h9
    obtain ⟨fields, k1, k2, k3, _⟩ := h9
    exact ⟨fields, by rw [h7, k1], k2, fieldsOk_iff k3⟩
  · rw [hs] at h9
    obtain ⟨fields, k1, k2, k3, k4, k5, k6⟩ := h9
    refine ⟨k4, k5, fun fs' hf => ?_⟩
    rw [h7, k1] at hf; cases hf
    exact named_iff k6
  · rw [hs] at h9
    exact ⟨by rw [h7, h9.1], h9.2⟩
  · rw [hs] at h9
    exact ⟨by rw [h7, h9.1.1], h9.1.2⟩
theorem EOk.of {P : Program} {C : Cod κ Ty} {l : List (Nat × TI κ Ty)} (h : ∀ e ∈ l, RowOk P C (lookT l) e.1 e.2) : EOk P C (lookT l) := by
  intro t ti e s ht hs
  obtain ⟨i, z, d, h1, h2, h3, h4, h5, h6, h7, h8, h9⟩ := (h _ (lookT_mem ht)).info
  rw [hs] at h9
  obtain ⟨_, i', z', k1, k2, k3, k4, k5⟩ := h9
  exact ⟨i', z', k1, k2, k3, isCells_iff k4, k5⟩

/-- a table of functions: what is known of them at this fuel -/
theorem Known.of {P : Program} {C : Cod κ Ty} {T : TypeId → Option (TI κ Ty)} {l : List (Nat × Summ κ Ty)} (h1 : TOk P C T) (h2 : EOk P C T) (h3 : CodOk C) (h4 : ∀ e ∈ l, SummOk P C e.1 e.2) : Known P C T (lookT l) :=
  ⟨h1, h2, h3, fun f S h => h4 _ (lookT_mem h)⟩
theorem QuietOk.of {l : List (Nat × Summ κ Ty)} (h : ∀ e ∈ l, e.2.quiet = true → ∀ r, (e.2.ret r).2 = [] ∧ idsV (e.2.ret r).1 = []) : QuietOk (lookT l) := fun f S hf => h _ (lookT_mem hf)

end Km
namespace Km
open Go
universe u
variable {κ : Type} {Ty : κ → Type} {R : Type}

theorem all_nil {α : Type u} {p : α → Prop} : ∀ e ∈ ([] : List α), p e := fun _ h => by cases h
theorem all_cons {α : Type u} {p : α → Prop} {a : α} {l : List α} (h : p a) (t : ∀ e ∈ l, p e) : ∀ e ∈ a :: l, p e := fun e he => by
  cases he with
  | head => exact h
  | tail _ he => exact t e he

/-- where one function's code is cut, and what then is left to do -/
structure Cut (κ : Type) (Ty : κ → Type) (R : Type) where
  slots : List Nat
  fn : Nat → List (AV κ Ty) → Objs κ Ty → Option R
def lam (cs : List (Nat × Cut κ Ty R)) (k id : Nat) (vs : List (AV κ Ty)) (os : Objs κ Ty) : Option R :=
  match lookT cs id with | some c => c.fn k vs os | none => none
def cutsOf (cs : List (Nat × Cut κ Ty R)) : List (Nat × List Nat) := cs.map fun c => (c.1, c.2.slots)
def todoAt (id : Nat) (body : Code) : List It := (inCode id body []).getD []
def bodyOf (f : Func) : Code := f.body.getD .skip

theorem cutAt_lookT : ∀ {cs : List (Nat × Cut κ Ty R)} {id : Nat} {slots : List Nat}, cutAt (cutsOf cs) id = some slots → ∃ c, lookT cs id = some c ∧ slots = c.slots
  | [], id, slots, h => by cases h
  | (j, c) :: cs, id, slots, h => by
    simp only [cutsOf, List.map_cons, cutAt] at h
    simp only [lookT]
    cases hb : Nat.beq j id with
    | true => rw [hb] at h; cases h; exact ⟨c, rfl, rfl⟩
    | false => rw [hb] at h; exact cutAt_lookT h

section
variable {P : Program} {C : Cod κ Ty} {T : TypeId → Option (TI κ Ty)}

theorem summ_of {f : FuncId} (fn : Func) {S : Summ κ Ty} (Γ : Nat → FuncId → Option (Summ κ Ty)) (cs : List (Nat × Cut κ Ty S.R)) (frz : Bool) (rs : List ResultVar) (m : Nat) (dec : AV κ Ty → Objs κ Ty → Option S.R)
    (hm : P.follows .mixedOrders = true) (H : ∀ k, Known P C T (Γ k)) (HQ : ∀ k, QuietOk (Γ k)) (hf : P.funcs[f]? = some fn) (hname : (fn.name == "runtime.NumGoroutine") = false) (hb : fn.body = some (bodyOf fn)) (hres : fn.results.toList = rs)
    (hok : okC fn.ntmps (bodyOf fn) = true) (hdup : nodupB (rids (bodyOf fn)) = true) (hdec : ∀ v os r, dec v os = some r → S.ret r = (v, os))
    (hc : ∀ c ∈ cs, (∀ vs os, c.2.fn 0 vs os = none) ∧ (inCode c.1 (bodyOf fn) []).isSome = true ∧
      ∀ k vs os r, c.2.fn (k + 1) vs os = some r → ∃ n, run C T (Γ k) (lam cs k) (cutsOf cs) m (finish C T frz m rs dec) n true (todoAt c.1 (bodyOf fn)) (envOf c.2.slots vs) os = some r)
    (gs : List Bool)
    (hrun : ∀ args os r, S.run args os = some r → args.length ≤ fn.ntmps ∧ os.length = m ∧ gs.length = m ∧ ∃ k n, run C T (Γ k) (lam cs k) (cutsOf cs) m (finish C T frz m rs dec) n false [.code (bodyOf fn)] (envOf (List.range (args.map (renV (givG gs))).length) (args.map (renV (givG gs)))) (givO gs os) = some r) :
    SummOk P C f S := by
  refine summ_sound (Λ := lam cs) (cuts := cutsOf cs) (frz := frz) (rs := rs) (m := m) (dec := dec) hm H HQ hf hname hb hres hok hdup hdec (fun id vs os => ?_) (fun k id vs os r slots hs h => ?_) gs hrun
  · unfold lam
    split
    · rename_i c h; exact (hc _ (lookT_mem h)).1 vs os
    · rfl
  · obtain ⟨c, h1, rfl⟩ := cutAt_lookT hs
    unfold lam at h
    rw [h1] at h
    obtain ⟨_, k2, k3⟩ := hc _ (lookT_mem h1)
    obtain ⟨n, hn⟩ := k3 k vs os r h
    cases ht : inCode id (bodyOf fn) [] with
    | none => rw [ht] at k2; cases k2
    | some t => exact ⟨n, t, rfl, by rw [todoAt, ht] at hn; exact hn⟩
end
end Km
namespace Km
open Go Go.RowKit
set_option linter.unusedVariables false
variable {κ : Type} {Ty : κ → Type} {R : Type} {P : Program} {C : Cod κ Ty}

/-- nothing of one's own, nothing that others may write: the state in which a row's call begins -/
theorem SRel.zero (w : World) : SRel C (fun _ => False) ⟨fun _ => ⟨0, 0, 0⟩, []⟩ w (fun _ => ⟨0, 0, 0⟩) [] ([] : Objs κ Ty) #[] w :=
  SRel.start (fun id => by simp [ORel]) (fun i j b h => by simp [FootAt] at h) (fun b ⟨i, h⟩ => by simp [FootAt] at h) (fun b h => h.elim)

/-- what a row asks of a call, of what a summary says -/
theorem SummOk.calls {f : FuncId} {S : Summ κ Ty} (h : SummOk P C f S) {args : List (AV κ Ty)} {r : S.R} (hr : S.run args [] = some r) {vals : Array Value} {w : World} (hl : vals.size = args.length)
    (hrel : ∀ (j : Nat) (x : AV κ Ty) (u : Value), args[j]? = some x → vals[j]? = some u → VRel C w (fun _ => False) (fun _ => ⟨0, 0, 0⟩) [] x u) {v : Value} (hret : (S.ret r).1 = .lit v) :
    Calls P f vals w fun e w' => e = .returned v ∧ Below w.heap.size w w' := by
  refine (h.2 args [] r hr (fun _ => False) (fun _ => ⟨0, 0, 0⟩) vals w hl hrel (SRel.zero w)).mono ?_
  rintro e w' ⟨u, ρ', rfl, h1, h2, _⟩
  rw [hret] at h1
  obtain ⟨rfl, _⟩ := lit_inv h1
  refine ⟨rfl, h2.os, h2.tape, h2.output, h2.size, fun k hk => h2.frame k hk (fun ⟨i, hi⟩ => by simp [FootAt] at hi)⟩

/-- arguments that are no memory -/
theorem rel_lits {w : World} {Mut : Nat → Prop} {ρ : Nat → Loc} {objs : Objs κ Ty} {vs : List Value} (h : isCells vs = true) : ∀ (j : Nat) (x : AV κ Ty) (u : Value), (vs.map AV.lit)[j]? = some x → vs.toArray[j]? = some u → VRel C w Mut ρ objs x u := by
  intro j x u hx hu
  simp only [List.getElem?_map, Option.map_eq_some_iff] at hx
  obtain ⟨q, hv, rfl⟩ := hx
  have h1 : vs[j]? = some u := by simpa using hu
  have h2 : q = u := by rw [hv] at h1; exact Option.some.inj h1
  rw [h2]
  exact .lit (isCells_iff h u (List.mem_of_getElem? h1))
end Km
namespace Km
open Go
set_option linter.unusedVariables false
set_option linter.unusedSimpArgs false
variable {κ : Type} {Ty : κ → Type} {R : Type} {P : Program} {C : Cod κ Ty} {T : TypeId → Option (TI κ Ty)} {H : Type} {enc : TypeId × Value → H}

/-- a typed value of this type, as cells -/
def shaped (C : Cod κ Ty) (T : TypeId → Option (TI κ Ty)) : Nat → TypeId → List (AV κ Ty) → Prop
  | 0, _, _ => False
  | n + 1, t, avs => match T t with
    | none => False
    | some ti => match ti.shp with
      | .int k => ∃ i, avs = [.lit (.int k i)] ∧ (Lit.int k i).wf = true
      | .bool => ∃ b, avs = [.lit (.bool b)]
      | .str => ∃ s, avs = [.lit (.string s)] ∧ s.size ≤ maxLen
      | .slice e s => ∃ xs : List (Ty s), avs = [.inl false s xs] ∧ xs.length ≤ maxLen ∧ ∀ x ∈ xs, shaped C T n e (C.enc s x)
      | .struct fs => avs.length = ti.size ∧ ∀ f ∈ fs, ∃ tf, T f.2 = some tf ∧ shaped C T n f.2 ((avs.drop f.1).take tf.size)
      | _ => False

def plainShp (bo : κ → Bool) : Shp κ → Bool | .int _ => true | .bool => true | .str => true | .slice _ s => !(bo s) | .struct _ => true | _ => false
/-- the fields lie one behind the other -/
def laid (C : Cod κ Ty) (T : TypeId → Option (TI κ Ty)) : Nat → List (Nat × TypeId) → Option Nat
  | n, [] => some n
  | n, (d, t) :: fs => match T t with
    | some ti => (match Nat.beq d n && plainShp C.bor ti.shp with | true => laid C T (n + ti.size) fs | false => none)
    | none => none

theorem cellsOf_size (HT : TOk P C T) {t : TypeId} {ti : TI κ Ty} (h : T t = some ti) : P.cellsOf t = ti.size := by
  obtain ⟨i, z, h1, h2, _⟩ := HT.info t ti h
  simp [Program.cellsOf, h1, h2]

variable {W : World} {base : Nat} {sp : Nat → Bool} {held : Bool} {ρ : Nat → Loc}

theorem cells_append {as bs : List (AV κ Ty)} {us vs : List Value} {w : World} {Mut : Nat → Prop} {objs : Objs κ Ty} (h : Cells C w Mut ρ objs as us) (h' : Cells C w Mut ρ objs bs vs) : Cells C w Mut ρ objs (as ++ bs) (us ++ vs) := by
  obtain ⟨h1, h2, h3⟩ := h
  obtain ⟨g1, g2, g3⟩ := h'
  refine ⟨by simp [h1, g1], fun j u hj => ?_, fun j cl u hj hu => ?_⟩
  · by_cases hlt : j < us.length
    · rw [List.getElem?_append_left hlt] at hj; exact h2 j u hj
    · rw [List.getElem?_append_right (by omega)] at hj; exact g2 _ u hj
  · by_cases hlt : j < us.length
    · rw [List.getElem?_append_left hlt] at hu
      rw [List.getElem?_append_left (by omega)] at hj
      exact h3 j cl u hj hu
    · rw [List.getElem?_append_right (by omega)] at hu
      rw [List.getElem?_append_right (by omega), ← h1] at hj
      exact g3 _ cl u hj hu

theorem cells_one {a : AV κ Ty} {u : Value} {w : World} {Mut : Nat → Prop} {objs : Objs κ Ty} (hc : isCell u = true) (h : VRel C w Mut ρ objs a u) : Cells C w Mut ρ objs [a] [u] :=
  ⟨rfl, fun j v hj => by
    cases j with
    | zero => simp at hj; subst hj; exact hc
    | succ j => simp at hj, fun j cl v a b => by
    cases j with
    | zero => simp at a b; subst a; subst b; exact h
    | succ j => simp at a⟩

theorem trod_fields (HT : TOk P C T) {n : Nat} {cs : List Value} (ih : ∀ (t : TypeId) (cs : List Value) (x : DataW H × List MemPlace) (ti : TI κ Ty), T t = some ti → plainShp C.bor ti.shp = true → DataW.trod enc P W base sp held n t cs = some x → ∃ avs, shaped C T n t avs ∧ Cells C W (fun _ => False) ρ [] avs cs) :
    ∀ (fs : List (Nat × TypeId)) (off tot : Nat), laid C T off fs = some tot → cs.length = tot → (∀ f ∈ fs, ∃ x, DataW.trod enc P W base sp held n f.2 ((cs.drop f.1).take (P.cellsOf f.2)) = some x) →
      off ≤ tot ∧ ∃ avs : List (AV κ Ty), Cells C W (fun _ => False) ρ [] avs (cs.drop off) ∧ ∀ f ∈ fs, off ≤ f.1 ∧ ∃ tf, T f.2 = some tf ∧ shaped C T n f.2 ((avs.drop (f.1 - off)).take tf.size)
  | [], off, tot, hl, hlen, _ => by
    simp only [laid, Option.some.injEq] at hl
    subst hl
    refine ⟨Nat.le_refl _, [], ?_, fun f hf => by simp at hf⟩
    rw [List.drop_eq_nil_of_le (by omega)]
    exact ⟨rfl, fun j u h => by simp at h, fun j cl u h => by simp at h⟩
  | (d, t) :: fs, off, tot, hl, hlen, h => by
    simp only [laid] at hl
    split at hl
    · rename_i ti hti
      split at hl
      · rename_i hb
        simp only [Bool.and_eq_true] at hb
        have hd := Nat.eq_of_beq_eq_true hb.1
        subst hd
        obtain ⟨k1, avs2, k2, k3⟩ := trod_fields HT ih fs (d + ti.size) tot hl hlen (fun f hf => h f (List.mem_cons_of_mem _ hf))
        obtain ⟨x, hx⟩ := h (d, t) (List.mem_cons_self ..)
        dsimp only at hx
        rw [cellsOf_size HT hti] at hx
        obtain ⟨avs1, g1, g2⟩ := ih t _ x ti hti hb.2 hx
        have hl1 : avs1.length = ti.size := by rw [← g2.1]; simp; omega
        refine ⟨by omega, avs1 ++ avs2, ?_, fun f hf => ?_⟩
        · have := cells_append g2 k2
          rwa [show (cs.drop d).take ti.size ++ cs.drop (d + ti.size) = cs.drop d by rw [← List.drop_drop]; exact List.take_append_drop _ _] at this
        · simp only [List.mem_cons] at hf
          rcases hf with rfl | hf
          · refine ⟨Nat.le_refl _, ti, hti, ?_⟩
            dsimp only
            rw [Nat.sub_self, List.drop_zero, ← hl1, List.take_left']
            · exact g1
            · rfl
          · obtain ⟨m1, tf, m2, m3⟩ := k3 f hf
            refine ⟨by omega, tf, m2, ?_⟩
            rw [List.drop_append, List.drop_eq_nil_of_le (by omega), List.nil_append, hl1, show f.1 - d - ti.size = f.1 - (d + ti.size) by omega]
            exact m3
      · cases hl
    · cases hl

/-- what the codec must be able to tell of a table's slices -/
structure FullC (C : Cod κ Ty) (T : TypeId → Option (TI κ Ty)) : Prop where
  laid : ∀ t ti fs, T t = some ti → ti.shp = .struct fs → laid C T 0 fs = some ti.size
  elem : ∀ t ti e s, T t = some ti → ti.shp = .slice e s → ∃ te, T e = some te ∧ plainShp C.bor te.shp = true
  full : ∀ t ti e s n avs, T t = some ti → ti.shp = .slice e s → C.bor s = false → shaped C T n e avs → ∃ x, C.enc s x = avs
  sz : ∀ s, 0 < C.sz s

theorem choose_list {α : Type} {p : Nat → α → Prop} : ∀ (n : Nat), (∀ i, i < n → ∃ x, p i x) → ∃ xs : List α, xs.length = n ∧ ∀ i x, xs[i]? = some x → p i x
  | 0, _ => ⟨[], rfl, fun i x h => by simp at h⟩
  | n + 1, h => by
    obtain ⟨xs, h1, h2⟩ := choose_list n (fun i hi => h i (by omega))
    obtain ⟨x, hx⟩ := h n (by omega)
    refine ⟨xs ++ [x], by simp [h1], fun i y hy => ?_⟩
    by_cases hi : i < n
    · rw [List.getElem?_append_left (by omega)] at hy; exact h2 i y hy
    · rw [List.getElem?_append_right (by omega)] at hy
      have hlt := (List.getElem?_eq_some_iff.mp hy).1
      simp at hlt
      have : i = n := by omega
      subst this
      rw [h1] at hy; simp at hy; subst hy; exact hx

theorem cells?_get {w : World} {a : Addr} {n : Nat} {cs : List Value} (h : w.cells? base a n = some cs) : cs.length = n ∧ ∀ i, i < n → w.cell? (a.add i) = cs[i]? := by
  unfold World.cells? at h
  split at h
  · exact ⟨by simpa using mapM_some_length h, fun i hi => mapM_some_get h i i (by simp [hi])⟩
  · cases h

/-- what a row's reading of the arguments found, as typed values -/
theorem trod_shaped (HT : TOk P C T) (HC : CodOk C) (HF : FullC C T) : ∀ (fuel : Nat) (t : TypeId) (cs : List Value) (x : DataW H × List MemPlace) (ti : TI κ Ty), T t = some ti → plainShp C.bor ti.shp = true →
    DataW.trod enc P W base sp held fuel t cs = some x → ∃ avs, shaped C T fuel t avs ∧ Cells C W (fun _ => False) ρ [] avs cs
  | 0, t, cs, x, ti, _, _, h => by simp [DataW.trod] at h
  | fuel + 1, t, cs, x, ti, ht, hp, h => by
    cases hs : ti.shp with
    | int k =>
      obtain ⟨n, rfl, _, hw⟩ := DataW.trod_int (HT.int t ti k ht hs) h
      exact ⟨[.lit (.int k n)], by simp only [shaped, ht, hs]; exact ⟨n, rfl, hw⟩, cells_one rfl (.lit rfl)⟩
    | bool =>
      obtain ⟨b, rfl, _⟩ := DataW.trod_bool (HT.bool t ti ht hs) h
      exact ⟨[.lit (.bool b)], by simp only [shaped, ht, hs]; exact ⟨b, rfl⟩, cells_one rfl (.lit rfl)⟩
    | str =>
      obtain ⟨s, rfl, _, hl⟩ := DataW.trod_string (HT.str t ti ht hs) h
      exact ⟨[.lit (.string s)], by simp only [shaped, ht, hs]; exact ⟨s, rfl, hl⟩, cells_one rfl (.lit rfl)⟩
    | struct fs =>
      obtain ⟨fields, u1, u2, u3⟩ := HT.struct t ti fs ht hs
      obtain ⟨xs, n, hn, _, hl, hxl, hx⟩ := DataW.trod_struct u1 h
      cases hn
      rw [cellsOf_size HT ht] at hl
      obtain ⟨_, avs, k1, k2⟩ := trod_fields (ρ := ρ) HT (trod_shaped HT HC HF fuel) fs 0 ti.size (HF.laid t ti fs ht hs) hl (fun f hf => by
        rw [← u2, List.mem_map] at hf
        obtain ⟨fl, hfl, rfl⟩ := hf
        obtain ⟨i, hi⟩ := List.getElem?_of_mem hfl
        have hi' : fields[i]? = some fl := by simpa using hi
        have hlt := (Array.getElem?_eq_some_iff.mp hi').1
        have := hx i fl hi'
        exact ⟨xs[i]'(by omega), by rw [this]; exact List.getElem?_eq_getElem _⟩)
      rw [List.drop_zero] at k1
      refine ⟨avs, ?_, k1⟩
      simp only [shaped, ht, hs]
      refine ⟨by rw [← k1.1]; exact hl, fun f hf => ?_⟩
      obtain ⟨_, tf, m1, m2⟩ := k2 f hf
      exact ⟨tf, m1, by simpa using m2⟩
    | slice e s =>
      obtain ⟨u1, i, hi, hi2, _⟩ := HT.slice t ti e s ht hs
      obtain ⟨te, hte, hpe⟩ := HF.elem t ti e s ht hs
      have hsz : P.cellsOf e = C.sz s := by simp [Program.cellsOf, hi, hi2]
      rcases DataW.trod_slice u1 h with ⟨rfl, _⟩ | ⟨a, len, cap, elems, rest, n, hn, rfl, _, hb, hlc, hcap, hel, hget, _⟩
      · refine ⟨[.inl false s []], by simp only [shaped, ht, hs]; exact ⟨[], rfl, Nat.zero_le _, fun x hx => by simp at hx⟩, cells_one rfl ?_⟩
        exact .inl (xs := []) (blk := 0) (off := 0) (vals := fun _ _ => Go.undef) (fun _ => by rw [hs] at hp; simpa [plainShp] using hp) (Nat.le_refl _) (fun h => absurd rfl h) (fun i x j cl hx => by simp at hx) (fun i x j cl hx => by simp at hx)
      · cases hn
        have hrow : ∀ i, i < len → ∃ y : Ty s, shaped C T fuel e (C.enc s y) ∧ ∃ us, Cells C W (fun _ => False) ρ [] (C.enc s y) us ∧ us.length = C.sz s ∧ ∀ j, j < C.sz s → W.cell? ((a.add (i * C.sz s)).add j) = us[j]? := fun i hi' => by
          have h1 := hget i hi'
          rw [hsz, List.getElem?_eq_getElem (by omega), Option.bind_eq_some_iff] at h1
          obtain ⟨us, h2, h3⟩ := h1
          obtain ⟨avs, k1, k2⟩ := trod_shaped HT HC HF fuel e us _ te hte hpe h3
          obtain ⟨y, rfl⟩ := HF.full t ti e s fuel avs ht hs (by rw [hs] at hp; simpa [plainShp] using hp) k1
          obtain ⟨g1, g2⟩ := cells?_get h2
          exact ⟨y, k1, us, k2, g1, g2⟩
        obtain ⟨ys, hy1, hy2⟩ := choose_list len hrow
        have hspot : ys ≠ [] → a = at' a.block a.off ∧ a.block < W.heap.size := fun hne => by
          have hpos := List.length_pos_iff.mpr hne
          obtain ⟨_, us, _, hul, hu⟩ := hy2 0 ys[0] (List.getElem?_eq_getElem hpos)
          have h0 := hu 0 (HF.sz s)
          have hsz0 := HF.sz s
          rw [List.getElem?_eq_getElem (by omega)] at h0
          simp only [Nat.zero_mul, Addr.add, if_true] at h0
          refine ⟨?_, cell_lt h0⟩
          obtain ⟨ab, ao, asp⟩ := a
          cases asp with
          | none => rfl
          | some q =>
            simp only [World.cell?] at h0
            split at h0
            · simp at h0
            · cases h0
        refine ⟨[.inl false s ys], by
          simp only [shaped, ht, hs]
          exact ⟨ys, rfl, by omega, fun x hx => by
            obtain ⟨i, hi'⟩ := List.getElem?_of_mem hx
            exact (hy2 i x hi').1⟩, cells_one rfl ?_⟩
        have hadd : ys ≠ [] → ∀ i j, (a.add (i * C.sz s)).add j = at' a.block (a.off + i * C.sz s + j) := fun hne i j => by
          obtain ⟨e1, _⟩ := hspot hne
          rw [e1, add_at, add_at]
        have := VRel.inl (C := C) (w := W) (Mut := fun _ => False) (ρ := ρ) (objs := []) (b := false) (t := s) (xs := ys) (A := some a) (c := cap) (blk := a.block) (off := a.off)
          (vals := fun i j => (W.cell? ((a.add (i * C.sz s)).add j)).getD Go.undef) (fun _ => by rw [hs] at hp; simpa [plainShp] using hp) (by omega)
          (fun hne => ⟨congrArg some (hspot hne).1, (hspot hne).2, fun hx => by
            rcases hx with ⟨k, hk⟩ | ⟨_, hk⟩
            · simp [FootAt] at hk
            · exact hk⟩)
          (fun i x j cl hx hj => by
            have hne : ys ≠ [] := List.ne_nil_of_mem (List.mem_of_getElem? hx)
            obtain ⟨_, us, k1, k2, k3⟩ := hy2 i x hx
            have hjl := (List.getElem?_eq_some_iff.mp hj).1
            rw [HC.len] at hjl
            have := k3 j hjl
            rw [← hadd hne, this, List.getElem?_eq_getElem (by omega)]; rfl)
          (fun i x j cl hx hj => by
            obtain ⟨_, us, k1, k2, k3⟩ := hy2 i x hx
            have hjl := (List.getElem?_eq_some_iff.mp hj).1
            rw [HC.len] at hjl
            have := k3 j hjl
            rw [this, List.getElem?_eq_getElem (by omega)]
            exact k1.2.2 j cl _ hj (List.getElem?_eq_getElem (by omega)))
        rw [hy1] at this
        exact this
    | arr n e s => rw [hs] at hp; cases hp
    | other => rw [hs] at hp; cases hp

def rowLaid (C : Cod κ Ty) (T : TypeId → Option (TI κ Ty)) (e : Nat × TI κ Ty) : Bool := match e.2.shp with
  | .struct fs => (match laid C T 0 fs with | some n => Nat.beq n e.2.size | none => false)
  | .slice e2 _ => (match T e2 with | some te => plainShp C.bor te.shp | none => false)
  | _ => true
theorem FullC.of {C : Cod κ Ty} {l : List (Nat × TI κ Ty)} (h1 : l.all (rowLaid C (lookT l)) = true) (h2 : ∀ e ∈ l, ∀ e2 s n avs, e.2.shp = .slice e2 s → C.bor s = false → shaped C (lookT l) n e2 avs → ∃ x, C.enc s x = avs) (h3 : ∀ s, 0 < C.sz s) (h4 : True) : FullC C (lookT l) := by
  have key : ∀ t ti, lookT l t = some ti → rowLaid C (lookT l) (t, ti) = true := fun t ti ht => (List.all_eq_true.mp h1) _ (lookT_mem ht)
  refine ⟨fun t ti fs ht hs => ?_, fun t ti e s ht hs => ?_, fun t ti e s n avs ht hs => h2 _ (lookT_mem ht) e s n avs hs, h3⟩
  · have := key t ti ht
    simp only [rowLaid, hs] at this
    split at this
    · rename_i n hn; rw [hn, Nat.eq_of_beq_eq_true this]
    · cases this
  · have := key t ti ht
    simp only [rowLaid, hs] at this
    split at this
    · rename_i te hte; exact ⟨te, hte, this⟩
    · cases this
end Km
namespace Km
open Go
theorem sadd_ok {x y : ByteArray} (h : x.size + y.size ≤ 140737488355328) : sadd x y = some (x ++ y) := by simp [sadd, h]
theorem app_ok {α : Type} {b : Nat} {xs ys : List α} (h : (xs.length + ys.length) * b ≤ 140737488355328) : app b xs ys = some (xs ++ ys) := by simp [app, h]
theorem wnd_ok {n : Nat} {lo hi : Int} (h : 0 ≤ lo ∧ lo ≤ hi ∧ hi ≤ n) : wnd n lo hi = some (lo.toNat, hi.toNat) := by simp [wnd, h]
theorem idx_nat {α : Type} (xs : List α) (i : Nat) : idx xs (i : Int) = xs[i]? := by
  unfold idx
  rw [if_neg (by omega)]; simp
theorem idx_at {α : Type} {xs : List α} {i : Nat} (h : i < xs.length) : idx xs (i : Int) = some xs[i] := by rw [idx_nat]; exact List.getElem?_eq_getElem h
theorem qrem_ok {a b : Int} (h : b ≠ 0) : qrem a b = some (a.tmod b) := by simp [qrem, h]
theorem qdiv_ok {a b : Int} (h : b ≠ 0) : qdiv a b = some (a.tdiv b) := by simp [qdiv, h]
theorem w64 {n : Int} (h : -9223372036854775808 ≤ n ∧ n ≤ 9223372036854775807) : IntKind.wrap .i64 n = n := by rw [IntKind.wrap_i64]; omega
theorem ba_size_append (x y : ByteArray) : (x ++ y).size = x.size + y.size := by simp
theorem bstr_size (bs : List Int) : (bstr bs).size = bs.length := by
  have : ∀ (bs : List Int) (s : ByteArray), (bs.foldl (fun r n => r.push (UInt8.ofNat n.toNat)) s).size = s.size + bs.length := by
    intro bs
    induction bs with
    | nil => intro s; simp
    | cons b bs ih => intro s; simp only [List.foldl_cons, ih, ByteArray.size_push, List.length_cons]; omega
  unfold bstr; rw [this]; simp
end Km
namespace Km
open Go
variable {α β S R : Type}

/-- with enough fuel it answers, and so -/
def Wp (f : Nat → Option R) (Q : R → Prop) : Prop := ∃ r, Q r ∧ ∃ N, ∀ k, N ≤ k → f k = some r
theorem Wp.ret {r : R} {Q : R → Prop} (h : Q r) : Wp (fun _ => some r) Q := ⟨r, h, 0, fun _ _ => rfl⟩
theorem Wp.bind {f : Nat → Option α} {g : Nat → α → Option R} {P : α → Prop} {Q : R → Prop} (h : Wp f P) (h' : ∀ x, P x → Wp (fun k => g k x) Q) : Wp (fun k => (f k).bind (g k)) Q := by
  obtain ⟨x, hx, N, hN⟩ := h
  obtain ⟨r, hr, M, hM⟩ := h' x hx
  exact ⟨r, hr, max N M, fun k hk => by show (f k).bind (g k) = some r; rw [hN k (by omega)]; exact hM k (by omega)⟩
theorem Wp.opt {o : Option α} {x : α} {g : Nat → α → Option R} {Q : R → Prop} (h : o = some x) (h' : Wp (fun k => g k x) Q) : Wp (fun k => o.bind (g k)) Q := by
  subst h; exact h'
theorem Wp.mono {f : Nat → Option R} {P Q : R → Prop} (h : Wp f P) (h' : ∀ x, P x → Q x) : Wp f Q := by
  obtain ⟨x, hx, N⟩ := h; exact ⟨x, h' x hx, N⟩
theorem Wp.step {f : Nat → Option R} {Q : R → Prop} (h : Wp (fun k => f (k + 1)) Q) : Wp f Q := by
  obtain ⟨x, hx, N, hN⟩ := h
  exact ⟨x, hx, N + 1, fun k hk => by
    have : f (k - 1 + 1) = some x := hN (k - 1) (by omega)
    rwa [show k - 1 + 1 = k by omega] at this⟩
theorem Wp.ite {p : Prop} [Decidable p] {f g : Nat → Option R} {Q : R → Prop} (h1 : p → Wp f Q) (h2 : ¬p → Wp g Q) : Wp (fun k => if p then f k else g k) Q := by
  by_cases h : p
  · simpa [h] using h1 h
  · simpa [h] using h2 h
theorem Wp.bif {b : Bool} {f g : Nat → Option R} {Q : R → Prop} (h1 : b = true → Wp f Q) (h2 : b = false → Wp g Q) : Wp (fun k => bif b then f k else g k) Q := by
  cases b
  · exact h2 rfl
  · exact h1 rfl
theorem Wp.dec {p : Prop} [Decidable p] {f g : Nat → Option R} {Q : R → Prop} (h1 : p → Wp f Q) (h2 : ¬p → Wp g Q) : Wp (fun k => bif decide p then f k else g k) Q :=
  Wp.bif (fun h => h1 (of_decide_eq_true h)) (fun h => h2 (of_decide_eq_false h))
theorem Wp.not {b : Bool} {f g : Nat → Option R} {Q : R → Prop} (h1 : b = false → Wp f Q) (h2 : b = true → Wp g Q) : Wp (fun k => bif !b then f k else g k) Q :=
  Wp.bif (fun h => h1 (by simpa using h)) (fun h => h2 (by simpa using h))
theorem Wp.exists {f : Nat → Option R} {r : R} (h : Wp f (· = r)) : ∃ k, f k = some r := by
  obtain ⟨x, rfl, N, hN⟩ := h; exact ⟨N, hN N (Nat.le_refl _)⟩
theorem Wp.uniq {f : Nat → Option R} {P Q : R → Prop} (h : Wp f P) (h' : Wp f Q) : ∃ r, P r ∧ Q r ∧ Wp f (· = r) := by
  obtain ⟨x, hx, N, hN⟩ := h
  obtain ⟨y, hy, M, hM⟩ := h'
  have e := (hN (max N M) (by omega)).symm.trans (hM (max N M) (by omega))
  cases e
  exact ⟨x, hx, hy, x, rfl, N, hN⟩
/-- what it answers -/
noncomputable def ans [Inhabited R] (f : Nat → Option R) : R := by
  classical exact if h : ∃ r, Wp f (· = r) then Classical.choose h else default
theorem Wp.ans_eq [Inhabited R] {f : Nat → Option R} {Q : R → Prop} (h : Wp f Q) : Q (ans f) ∧ Wp f (· = ans f) := by
  obtain ⟨x, hx, N, hN⟩ := h
  have he : ∃ r, Wp f (· = r) := ⟨x, x, rfl, N, hN⟩
  have hw : Wp f (· = ans f) := by unfold ans; rw [dif_pos he]; exact Classical.choose_spec he
  obtain ⟨r, h1, h2, _⟩ := Wp.uniq ⟨x, hx, N, hN⟩ hw
  exact ⟨h2 ▸ h1, hw⟩

/-- a loop over numbers below n -/
theorem Wp.loop {n : Nat} {f : Nat → Nat → S → Option R} {Inv : Nat → S → Prop} {Q : R → Prop} (hstep : ∀ i s, i < n → Inv i s → (∀ s', Inv (i + 1) s' → Wp (fun k => f k (i + 1) s') Q) → Wp (fun k => f k i s) Q)
    (hlast : ∀ s, Inv n s → Wp (fun k => f k n s) Q) : ∀ (d i : Nat) (s : S), i + d = n → Inv i s → Wp (fun k => f k i s) Q
  | 0, i, s, h, hi => by
    obtain rfl : i = n := by omega
    exact hlast s hi
  | d + 1, i, s, h, hi => hstep i s (by omega) hi fun s' hs' => Wp.loop hstep hlast d (i + 1) s' (by omega) hs'

/-! ### words -/
theorem w64' {n : Int} (h1 : -9223372036854775808 ≤ n) (h2 : n ≤ 9223372036854775807) : IntKind.wrap .i64 n = n := w64 ⟨h1, h2⟩
theorem idxN {xs : List α} {i : Nat} (h : i < xs.length) : idx xs (i : Int) = some xs[i] := idx_at h
theorem getN {xs : List α} {i : Nat} (h : i < xs.length) : xs[(i : Int).toNat]? = some xs[i] := by rw [Int.toNat_natCast]; exact List.getElem?_eq_getElem h
theorem castS (i : Nat) : (i : Int) + 1 = ((i + 1 : Nat) : Int) := by omega
theorem cbdec {p : Prop} [Decidable p] {x y : R} : (bif decide p then x else y) = if p then x else y := by by_cases h : p <;> simp [h]
theorem cbnot {b : Bool} {x y : R} : (bif !b then x else y) = bif b then y else x := by cases b <;> rfl
theorem cbeq {a b : Int} {x y : R} : (bif a == b then x else y) = if a = b then x else y := by
  by_cases h : a = b
  · simp [h]
  · rw [if_neg h, show (a == b) = false by simpa using h]; rfl
theorem cbne {a b : Int} {x y : R} : (bif a != b then x else y) = if a = b then y else x := by
  by_cases h : a = b
  · simp [h]
  · rw [if_neg h, show (a != b) = true by simpa using h]; rfl
theorem ba_toList_inj {a b : ByteArray} : a.toList = b.toList ↔ a = b := by
  constructor
  · intro h
    rw [Go.ByteArray.toList_eq, Go.ByteArray.toList_eq] at h
    apply ByteArray.ext; apply Array.ext'; exact h
  · intro h; rw [h]
theorem seqB {a b : ByteArray} : (a.toList == b.toList) = decide (a = b) := by
  by_cases h : a = b
  · simp [h]
  · simp only [h, decide_false, beq_eq_false_iff_ne, ne_eq]; rw [ba_toList_inj]; exact h
theorem cbseq {a b : ByteArray} {x y : R} : (bif a.toList == b.toList then x else y) = if a = b then x else y := by rw [seqB, cbdec]
theorem cbbeq {a b : Bool} {x y : R} : (bif a == b then x else y) = if a = b then x else y := by cases a <;> cases b <;> rfl
theorem idx_mid {pre t : List α} {x : α} : idx (pre ++ x :: t) (pre.length : Int) = some x := by rw [idx_nat]; simp
theorem get_mid {pre t : List α} {x : α} : (pre ++ x :: t)[Int.toNat (pre.length : Int)]? = some x := by simp
theorem set_mid {pre t : List α} {x y : α} : (pre ++ x :: t).set (Int.toNat (pre.length : Int)) y = pre ++ y :: t := by simp
theorem lt_mid {pre t : List α} {x : α} : ((pre.length : Int) < ((pre ++ x :: t).length : Int)) := by simp; omega
theorem mid_succ (pre t : List α) (x : α) : pre ++ x :: t = (pre ++ [x]) ++ t := by simp
theorem mid_len (pre : List α) (x : α) : (pre.length : Int) + 1 = ((pre ++ [x]).length : Int) := by simp
theorem room_ok {b : Nat} {n : Nat} (h : n * b ≤ 140737488355328) : room b (n : Int) = some n := by
  unfold room
  have h' : (n : Int) * (b : Int) ≤ 140737488355328 := by
    have : ((n * b : Nat) : Int) ≤ ((140737488355328 : Nat) : Int) := Int.ofNat_le.mpr h
    rw [Int.natCast_mul] at this; exact this
  rw [if_pos ⟨Int.natCast_nonneg n, h'⟩, Int.toNat_natCast]
theorem qrem_nn {a b : Int} (ha : 0 ≤ a) (hb : 0 < b) : qrem a b = some (a % b) := by rw [qrem_ok (by omega), Int.tmod_eq_emod_of_nonneg ha]
theorem qdiv_nn {a b : Int} (ha : 0 ≤ a) (hb : 0 < b) : qdiv a b = some (a / b) := by rw [qdiv_ok (by omega), Int.tdiv_eq_ediv_of_nonneg ha]
theorem emptyS : (⟨#[]⟩ : ByteArray) = ByteArray.empty := rfl
theorem size_empty : (⟨#[]⟩ : ByteArray).size = 0 := rfl
end Km
