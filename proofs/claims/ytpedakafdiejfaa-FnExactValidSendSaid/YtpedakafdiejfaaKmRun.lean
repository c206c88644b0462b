/- A part of the proof: an abstract machine over the program (sound by its theorems), or definitions printed by it. There is no condition. -/
import Derived.Test.YtpedakafdiejfaaKmStep
namespace Km
open Go
set_option linter.unusedVariables false
set_option linter.unusedSimpArgs false

variable {κ : Type} {Ty : κ → Type} {R : Type}
section
variable {P : Program} {C : Cod κ Ty} {T : TypeId → Option (TI κ Ty)} {Γ : FuncId → Option (Summ κ Ty)}
variable {Mut : Nat → Prop} {Lent : Org κ Ty} {w0 w w' : World} {ρ ρ' ρ2 : Nat → Loc} {env : Env κ Ty} {objs objs' objs2 : Objs κ Ty} {a : Act} {tm : Array Value}
variable {next : Act → World → Prop} {Q : Exit → Act → World → Prop} {o : Oper}

theorem look_cons (d : Nat) (v : AV κ Ty) (env : Env κ Ty) (i : Nat) : look ((d, v) :: env) i = if i = d then v else look env i := by
  simp only [look]
  by_cases h : i = d
  · subst h; simp
  · rw [if_neg h]
    have : Nat.beq d i = false := by
      cases hb : Nat.beq d i with
      | false => rfl
      | true => exact absurd (Nat.eq_of_beq_eq_true hb).symm h
    rw [this]

theorem SRel.setEnv (S : SRel C Mut Lent w0 ρ env objs tm w) {env' : Env κ Ty} {tm' : Array Value} (h : ∀ i, look env' i = .undef ∨ ∃ u, tm'[i]? = some u ∧ VRel C w Mut ρ objs (look env' i) u) : SRel C Mut Lent w0 ρ env' objs tm' w :=
  { S with env := h }

theorem SRel.know (S : SRel C Mut Lent w0 ρ env objs tm w) {d : Nat} {v : AV κ Ty} (h : ∃ u, tm[d]? = some u ∧ VRel C w Mut ρ objs v u) : SRel C Mut Lent w0 ρ ((d, v) :: env) objs tm w :=
  S.setEnv fun i => by
    rw [look_cons]
    split
    · rename_i e; subst e; exact .inr h
    · exact S.env i

theorem put_rel (S : SRel C Mut Lent w0 ρ env objs a.tmps w) {v : AV κ Ty} {u : Value} (hr : VRel C w Mut ρ objs v u) (hd : ∀ d, o.dst = some d → d < a.tmps.size) : SRel C Mut Lent w0 ρ (put o env v) objs (a.put o.dst u).tmps w := by
  unfold put
  split
  · rename_i d hdd
    have hlt := hd d hdd
    refine S.setEnv fun i => ?_
    rw [look_cons]
    have ht : (a.put o.dst u).tmps = a.tmps.setIfInBounds d u := by simp [Act.put, hdd]
    rw [ht]
    split
    · rename_i e; subst e
      exact .inr ⟨u, by simp [hlt], hr⟩
    · rename_i e
      rcases S.env i with h | ⟨u', h1, h2⟩
      · exact .inl h
      · exact .inr ⟨u', by rw [Array.getElem?_setIfInBounds_ne (Ne.symm e)]; exact h1, h2⟩
  · rename_i hdd
    simpa [Act.put, hdd] using S

theorem put_size (dst : Option Tmp) (u : Value) : (a.put dst u).tmps.size = a.tmps.size := by cases dst <;> simp [Act.put]
theorem put_defers' (dst : Option Tmp) (u : Value) : (a.put dst u).defers = a.defers := by cases dst <;> rfl

theorem eqB_iff {p q : Bool} : eqB p q = true ↔ p = q := by cases p <;> cases q <;> simp [eqB]

/-- one operation with its guard, as the machine carries it out -/
theorem astep_sound (H : Known P C T Γ) {all : Array Oper} (S : SRel C Mut Lent w0 ρ env objs a.tmps w) (hd : ∀ d, o.dst = some d → d < a.tmps.size) {K : Env κ Ty → Objs κ Ty → Option R} {r : R} (h : astep C T Γ all o env objs K = some r)
    (hn : ∀ env' objs' ρ' a' w', K env' objs' = some r → SRel C Mut Lent w0 ρ' env' objs' a'.tmps w' → a'.tmps.size = a.tmps.size → a'.defers = a.defers → next a' w') :
    if Region.wanted o (yielded all a.tmps) then o.wp P a w next Q else next (a.put o.dst Go.undef) w := by
  unfold astep at h
  split at h
  · rename_i hg
    have hw : Region.wanted o (yielded all a.tmps) = true := by simp [Region.wanted, hg]
    rw [if_pos hw]
    exact aop_sound H S h fun v objs' ρ' u w' hK S' hv => hn _ _ ρ' _ w' hK (put_rel S' hv hd) (put_size _ _) (put_defers' _ _)
  · rename_i j want hg
    split at h
    · cases h
    · rename_i d hdst
      split at h
      · rename_i b hb
        have h := ifB_some h
        have hyd : ∃ u, a.tmps[d]? = some u ∧ u = .bool b := by
          rcases S.env d with e | ⟨u, h1, h2⟩
          · rw [hb] at e; cases e
          · rw [hb] at h2; exact ⟨u, h1, (lit_inv h2).1⟩
        obtain ⟨u, hu1, rfl⟩ := hyd
        have hy : yielded all a.tmps j = some b := by simp [yielded, hdst, hu1]
        have S1 : SRel C Mut Lent w0 ρ ((d, .lit (.bool b)) :: env) objs a.tmps w := S.know ⟨_, hu1, .lit rfl⟩
        split at h
        · rename_i he
          have he := eqB_iff.mp he
          have hw : Region.wanted o (yielded all a.tmps) = true := by simp [Region.wanted, hg, hy, he]
          rw [if_pos hw]
          exact aop_sound H S1 h fun v objs' ρ' u w' hK S' hv => hn _ _ ρ' _ w' hK (put_rel S' hv hd) (put_size _ _) (put_defers' _ _)
        · rename_i he
          have hne : b ≠ want := fun e => by rw [eqB_iff.mpr e] at he; cases he
          have hw : ¬ Region.wanted o (yielded all a.tmps) = true := by simp [Region.wanted, hg, hy, hne]
          rw [if_neg hw]
          exact hn _ _ ρ _ w h (put_rel S1 .void hd) (put_size _ _) (put_defers' _ _)
      · rename_i hb
        have hyd : ∃ u, a.tmps[d]? = some u ∧ u = Go.undef := by
          rcases S.env d with e | ⟨u, h1, h2⟩
          · rw [hb] at e; cases e
          · rw [hb] at h2; cases h2; exact ⟨_, h1, rfl⟩
        obtain ⟨u, hu1, rfl⟩ := hyd
        have hy : yielded all a.tmps j = none := by simp [yielded, hdst, hu1, Go.undef]
        have hw : ¬ Region.wanted o (yielded all a.tmps) = true := by simp [Region.wanted, hg, hy]
        rw [if_neg hw]
        exact hn _ _ ρ _ w h (put_rel S .void hd) (put_size _ _) (put_defers' _ _)
      · cases h

/-- operations in the order of the text -/
theorem aops_sound (H : Known P C T Γ) {all : Array Oper} {nt : Nat} : ∀ (os : List Oper) (i : Nat) (env : Env κ Ty) (objs : Objs κ Ty) (ρ : Nat → Loc) (a : Act) (w : World) {K : Env κ Ty → Objs κ Ty → Option R} {r : R},
    (∀ k, os[k]? = all[i + k]?) → (∀ o ∈ os, ∀ d, o.dst = some d → d < nt) → a.tmps.size = nt → SRel C Mut Lent w0 ρ env objs a.tmps w → aops C T Γ all os env objs K = some r →
    (∀ env' objs' ρ' a' w', K env' objs' = some r → SRel C Mut Lent w0 ρ' env' objs' a'.tmps w' → a'.tmps.size = nt → a'.defers = a.defers → Q .normal a' w') →
    wpOps P all Q (List.range' i os.length) a w
  | [], i, env, objs, ρ, a, w, K, r, hos, hd, hsz, S, h, hn => hn _ _ ρ _ _ h S hsz rfl
  | o :: os, i, env, objs, ρ, a, w, K, r, hos, hd, hsz, S, h, hn => by
    have ho : all[i]? = some o := by have := hos 0; simpa using this.symm
    simp only [List.length_cons, List.range'_succ, wpOps, ho]
    simp only [aops] at h
    have hs := astep_sound (next := wpOps P all Q (List.range' (i + 1) os.length)) (Q := Q) H S (hd := fun d hdd => by rw [hsz]; exact hd o (by simp) d hdd) h (fun env' objs' ρ' a' w' hK S' hz hdf =>
      aops_sound H os (i + 1) env' objs' ρ' a' w' (fun k => by have := hos (k + 1); rw [show i + 1 + k = i + (k + 1) by omega]; simpa using this) (fun o ho => hd o (by simp [ho])) (hz.trans hsz) S' hK
        (fun e2 o2 ρ2 a2 w2 k2 S2 z2 d2 => hn e2 o2 ρ2 a2 w2 k2 S2 z2 (d2.trans hdf)))
    split at hs
    · rename_i hw; rw [if_pos hw]; exact .inl hs
    · rename_i hw; rw [if_neg hw]; exact hs

end
end Km
