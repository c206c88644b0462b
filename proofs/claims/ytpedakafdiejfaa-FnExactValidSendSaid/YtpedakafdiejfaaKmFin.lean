/- A part of the proof: an abstract machine over the program (sound by its theorems), or definitions printed by it. There is no condition. -/
import Derived.Test.YtpedakafdiejfaaKmFlow
namespace Km
open Go
set_option linter.unusedVariables false
set_option linter.unusedSimpArgs false

variable {κ : Type} {Ty : κ → Type} {R : Type}
section
variable {P : Program} {C : Cod κ Ty} {T : TypeId → Option (TI κ Ty)} {Γ : FuncId → Option (Summ κ Ty)}
variable {Mut : Nat → Prop} {Lent : Org κ Ty} {w0 w w' : World} {ρ ρ' ρ2 : Nat → Loc} {env : Env κ Ty} {objs objs' objs2 : Objs κ Ty} {a : Act} {tm : Array Value}

/-- a list of values, one by one -/
def VL (C : Cod κ Ty) (w : World) (Mut : Nat → Prop) (ρ : Nat → Loc) (objs : Objs κ Ty) (vs : List (AV κ Ty)) (us : List Value) : Prop :=
  us.length = vs.length ∧ ∀ (j : Nat) (v : AV κ Ty) (u : Value), vs[j]? = some v → us[j]? = some u → VRel C w Mut ρ objs v u

theorem VL.weak {vs : List (AV κ Ty)} {us : List Value} (h : VL C w Mut ρ objs vs us) (hw : Weaker objs objs') : VL C w Mut ρ objs' vs us :=
  ⟨h.1, fun j v u a b => hw.rel (h.2 j v u a b)⟩
theorem VL.cons {v : AV κ Ty} {vs : List (AV κ Ty)} {u : Value} {us : List Value} (h : VRel C w Mut ρ objs v u) (h' : VL C w Mut ρ objs vs us) : VL C w Mut ρ objs (v :: vs) (u :: us) :=
  ⟨by simp [h'.1], fun j x y a b => by
    cases j with
    | zero => simp at a b; subst a; subst b; exact h
    | succ j => exact h'.2 j x y (by simpa using a) (by simpa using b)⟩
theorem VL.tail {v : AV κ Ty} {vs : List (AV κ Ty)} {u : Value} {us : List Value} (h : VL C w Mut ρ objs (v :: vs) (u :: us)) : VL C w Mut ρ objs vs us :=
  ⟨by simpa using h.1, fun j x y a b => h.2 (j + 1) x y (by simpa using a) (by simpa using b)⟩

theorem isCell_of {v : AV κ Ty} {u : Value} (h : VRel C w Mut ρ objs v u) (hv : (∃ x, v = .lit x) ∨ (∃ i, v = .own i) ∨ (∃ t, v = .nil t) ∨ (∃ b t xs, v = .inl b t xs)) : isCell u = true := by
  rcases hv with ⟨x, rfl⟩ | ⟨i, rfl⟩ | ⟨t, rfl⟩ | ⟨b, t, xs, rfl⟩ <;> cases h <;> first | rfl | assumption

theorem frzL_sound (HC : CodOk C) : ∀ (vs : List (AV κ Ty)) (us : List Value) (objs : Objs κ Ty) (K : List (AV κ Ty) → Objs κ Ty → Option R) (r : R), SRel C Mut Lent w0 ρ env objs tm w → VL C w Mut ρ objs vs us →
    frzL C objs vs K = some r → ∃ vs' objs', K vs' objs' = some r ∧ SRel C Mut Lent w0 ρ env objs' tm w ∧ VL C w Mut ρ objs' vs' us ∧ Weaker objs objs'
  | [], us, objs, K, r, S, hv, h => ⟨[], objs, h, S, hv, .refl _⟩
  | v :: vs, us, objs, K, r, S, hv, h => by
    obtain ⟨u, us, rfl⟩ : ∃ u us', us = u :: us' := by have := hv.1; cases us with | nil => simp at this | cons u us => exact ⟨u, us, rfl⟩
    have hu : VRel C w Mut ρ objs v u := hv.2 0 v u rfl rfl
    by_cases hag : ∃ cs, v = .agg cs
    · obtain ⟨cs, rfl⟩ := hag
      simp only [frzL] at h
      cases hu with
      | agg hl hcell hrel =>
        rename_i us0
        obtain ⟨ns, o1, g1, g2, g3, g4⟩ := deepen_sound HC cs us0 objs _ r S ⟨hl, hcell, hrel⟩ h
        obtain ⟨vs', o2, k1, k2, k3, k4⟩ := frzL_sound HC vs us o1 _ r g2 (hv.tail.weak g4) g1
        exact ⟨_, o2, k1, k2, .cons (k4.rel g3.agg) k3, g4.trans k4⟩
    · have e : frzL C objs (v :: vs) K = deepen C objs [v] fun cs' o => frzL C o vs fun vs' o' => K (cs' ++ vs') o' := by
        cases v <;> first | rfl | exact absurd ⟨_, rfl⟩ hag
      rw [e] at h
      have hcell : isCell u = true := isCell_of hu (by
        cases v with
        | lit x => exact .inl ⟨_, rfl⟩
        | own i => exact .inr (.inl ⟨_, rfl⟩)
        | nil t => exact .inr (.inr (.inl ⟨_, rfl⟩))
        | inl b t xs => exact .inr (.inr (.inr ⟨_, _, _, rfl⟩))
        | agg cs => exact absurd ⟨_, rfl⟩ hag
        | _ => simp [deepen] at h)
      obtain ⟨ns, o1, g1, g2, g3, g4⟩ := deepen_sound HC [v] [u] objs _ r S ⟨rfl, fun j x hj => by
        cases j with
        | zero => simp at hj; subst hj; exact hcell
        | succ j => simp at hj, fun j x y a b => by
        cases j with
        | zero => simp at a b; subst a; subst b; exact hu
        | succ j => simp at a⟩ h
      obtain ⟨vs', o2, k1, k2, k3, k4⟩ := frzL_sound HC vs us o1 _ r g2 (hv.tail.weak g4) g1
      obtain ⟨n, rfl⟩ : ∃ n, ns = [n] := by
        have := g3.1
        match ns, this with
        | [n], _ => exact ⟨n, rfl⟩
        | [], h => simp at h
        | _ :: _ :: _, h => simp at h
      exact ⟨_, o2, k1, k2, .cons (k4.rel (g3.2.2 0 n u rfl rfl)) k3, g4.trans k4⟩

theorem vl_orl {vs : List (AV κ Ty)} {us : List Value} (h : VL C w Mut ρ objs vs us) : ORL C w Mut ρ objs vs (us.map some) := orl_of_cells h.1 h.2
theorem orl_vl {vs : List (AV κ Ty)} {us : List Value} (h : ORL C w Mut ρ objs vs (us.map some)) : VL C w Mut ρ objs vs us := cells_of_orl h

/-- what a function gives back, in memory -/
def Gives (C : Cod κ Ty) (Mut : Nat → Prop) (Lent : Org κ Ty) (w0 : World) (v : AV κ Ty) (objs : Objs κ Ty) (u : Value) (w : World) : Prop :=
  ∃ ρ, VRel C w Mut ρ objs v u ∧ SRel C Mut Lent w0 ρ [] objs #[] w ∧ (∀ o ∈ objs, safeO C o = true) ∧ (∀ vs, v = .tup vs → vs.all safe2 = true) ∧ ((∀ vs, v ≠ .tup vs) → safe2 v = true)

def oneV (us : List Value) : Value := match us with | [u] => u | us => .tuple us.toArray

theorem one_rel {vs : List (AV κ Ty)} {us : List Value} (h : VL C w Mut ρ objs vs us) : VRel C w Mut ρ objs (one vs) (oneV us) := by
  have hlen := h.1
  match vs, us with
  | [v], [u] => exact h.2 0 v u rfl rfl
  | [], [] => exact .tup h.1 h.2
  | _ :: _ :: _, _ :: _ :: _ => exact .tup h.1 h.2
  | [], _ :: _ => simp at hlen
  | _ :: _, [] => simp at hlen
  | [_], _ :: _ :: _ => simp at hlen
  | _ :: _ :: _, [_] => simp at hlen

theorem finishV_sound (HC : CodOk C) (S : SRel C Mut Lent w0 ρ env objs tm w) {dec : AV κ Ty → Objs κ Ty → Option R} {vs : List (AV κ Ty)} {us : List Value} {r : R} (hv : VL C w Mut ρ objs vs us)
    (h : finishV C Lent.objs.length dec vs objs = some r) : ∃ v objs', dec v objs' = some r ∧ Gives C Mut Lent w0 v objs' (oneV us) w := by
  unfold finishV at h
  dsimp only at h
  obtain ⟨ρ', S', hv'⟩ := compact_sound HC S (vl_orl hv)
  generalize compact Lent.objs.length vs objs = q at h S' hv'
  obtain ⟨vs', objs'⟩ := q
  dsimp only at h S' hv'
  split at h
  · rename_i hs
    simp only [Bool.and_eq_true] at hs
    have hvl := orl_vl hv'
    refine ⟨_, objs', h, ρ', one_rel hvl, S'.setEnv (fun i => .inl rfl), by simpa [List.all_eq_true] using hs.2, fun xs e => ?_, fun hn => ?_⟩
    · match vs', hs.1 with
      | [], _ => cases e; rfl
      | [x], hs1 =>
        simp only [one] at e
        subst e
        simp [safe2] at hs1
      | x :: y :: l, hs1 => cases e; exact hs1
    · match vs', hs.1 with
      | [], _ => exact absurd rfl (hn [])
      | [x], hs1 => show safe2 x = true; simpa using hs1
      | x :: y :: l, _ => exact absurd rfl (hn _)
  · cases h

/-- the values of the results, as the program reads them -/
def resV (rs : List ResultVar) (tm : Array Value) : Sem (List Value) := rs.mapM fun
  | .tmp t => pure (tm.getD t undef)
  | .cell a t => do loadVar t (← asAddr (tm.getD a undef))

theorem resA_sound (HT : TOk P C T) (HC : CodOk C) (S : SRel C Mut Lent w0 ρ env objs tm w) : ∀ (rs : List ResultVar) {K : List (AV κ Ty) → Option R} {r : R}, resA C T env objs rs K = some r →
    ∃ vs us, K vs = some r ∧ VL C w Mut ρ objs vs us ∧ (resV rs tm).run P w = .ok us w
  | [], K, r, h => ⟨[], [], h, ⟨rfl, fun j v u h => by simp at h⟩, by simp [resV]⟩
  | .tmp t :: rs, K, r, h => by
    simp only [resA] at h
    obtain ⟨vs, us, h1, h2, h3⟩ := resA_sound HT HC S rs h
    refine ⟨_, _, h1, .cons (look_rel (a := ⟨tm, []⟩) S t) h2, ?_⟩
    unfold resV at h3 ⊢
    simp only [List.mapM_cons, Sem.run_bind, Sem.run_pure, Result.andThen_ok, h3]
  | .cell c t :: rs, K, r, h => by
    simp only [resA] at h
    split at h
    · rename_i ti ht
      obtain ⟨v, u, h1, h2, h3⟩ := aload_sound (P := P) (a := ⟨tm, []⟩) HT HC S ht (look_rel (a := ⟨tm, []⟩) S c) h
      obtain ⟨vs, us, k1, k2, k3⟩ := resA_sound HT HC S rs h1
      refine ⟨_, _, k1, .cons h3 k2, ?_⟩
      have h4 : (do loadVar t (← asAddr (tm.getD c undef)) : Sem Value).run P w = .ok u w := by
        generalize tm.getD c undef = q at h2 ⊢
        cases q <;> first
          | (simp [Instr.loadAt, Instr.sureAddr] at h2; done)
          | (rename_i p; cases p <;> first
              | (simp [Instr.loadAt, Instr.sureAddr] at h2; done)
              | simpa [Instr.loadAt, Instr.sureAddr, asAddr] using h2)
      unfold resV at k3 ⊢
      rw [List.mapM_cons, Sem.run_bind]
      dsimp only
      rw [h4, Result.andThen_ok, Sem.run_bind, k3]
      simp only [Result.andThen_ok, Sem.run_pure]
    · cases h

theorem finish_sound (HT : TOk P C T) (HC : CodOk C) (S : SRel C Mut Lent w0 ρ env objs tm w) {frz : Bool} {rs : List ResultVar} {dec : AV κ Ty → Objs κ Ty → Option R} {r : R}
    (h : finish C T frz Lent.objs.length rs dec env objs = some r) : ∃ v objs' us, dec v objs' = some r ∧ Gives C Mut Lent w0 v objs' (oneV us) w ∧ (resV rs tm).run P w = .ok us w := by
  unfold finish at h
  obtain ⟨vs, us, h, hv, hr⟩ := resA_sound HT HC S rs h
  split at h
  · obtain ⟨vs', o1, g1, g2, g3, _⟩ := frzL_sound HC _ _ objs _ r S hv h
    obtain ⟨v, os, k1, k2⟩ := finishV_sound HC g2 g3 g1
    exact ⟨v, os, us, k1, k2, hr⟩
  · obtain ⟨v, os, k1, k2⟩ := finishV_sound HC S hv h
    exact ⟨v, os, us, k1, k2, hr⟩

theorem run_results {fn : Func} {rs : List ResultVar} (h : fn.results.toList = rs) {tm : Array Value} {w : World} {us : List Value} (hr : (resV rs tm).run P w = .ok us w) : (results fn tm).run P w = .ok (oneV us) w := by
  have hm : fn.results = rs.toArray := by apply Array.ext'; simpa using h
  unfold resV at hr
  unfold results
  rw [hm]
  simp only [List.mapM_toArray, Sem.run_bind, map_eq_pure_bind, Sem.run_pure]
  have e : ∀ (g g' : ResultVar → Sem Value), g = g' → (List.mapM g rs).run P w = .ok us w → (List.mapM g' rs).run P w = .ok us w := fun g g' h => by rw [h]; exact id
  rw [e _ _ (by funext r; cases r <;> rfl) hr]
  simp only [Result.andThen_ok]
  congr 1
  match us with
  | [] => rfl
  | [i] => rfl
  | i :: j :: l => simp [oneV]

/-- a function does what its summary says -/
theorem summ_sound {f : FuncId} {fn : Func} {body : Code} {S : Summ κ Ty} {Γ : Nat → FuncId → Option (Summ κ Ty)} {Λ : Nat → Nat → List (AV κ Ty) → Objs κ Ty → Option S.R} {cuts : List (Nat × List Nat)} {frz : Bool} {rs : List ResultVar} {m : Nat}
    {dec : AV κ Ty → Objs κ Ty → Option S.R}
    (hm : P.follows .mixedOrders = true) (H : ∀ k, Known P C T (Γ k)) (HQ : ∀ k, QuietOk (Γ k)) (hf : P.funcs[f]? = some fn) (hname : (fn.name == "runtime.NumGoroutine") = false) (hb : fn.body = some body) (hres : fn.results.toList = rs)
    (hok : okC fn.ntmps body = true) (hdup : nodupB (rids body) = true) (hdec : ∀ v os r, dec v os = some r → S.ret r = (v, os))
    (h0 : ∀ id vs os, Λ 0 id vs os = none)
    (h1 : ∀ k id vs os r slots, cutAt cuts id = some slots → Λ (k + 1) id vs os = some r → ∃ n todo, inCode id body [] = some todo ∧ run C T (Γ k) (Λ k) cuts m (finish C T frz m rs dec) n true todo (envOf slots vs) os = some r)
    (hrun : ∀ args os r, S.run args os = some r → args.length ≤ fn.ntmps ∧ os.length = m ∧ ∃ k n, run C T (Γ k) (Λ k) cuts m (finish C T frz m rs dec) n false [.code body] (envOf (List.range args.length) args) os = some r) :
    SummOk P C f S := by
  refine ⟨⟨fn, hf, hname, by simp [hb]⟩, fun args objs r hr Mut ρ vals w hlen hrel S0 => ?_⟩
  obtain ⟨hle, hml, k, n, hrun⟩ := hrun args objs r hr
  intro cs
  let b : Frame := { (default : Frame) with fn := f, kind := .normal }
  let a : Act := { tmps := vals ++ Array.replicate (fn.ntmps - vals.size) undef, defers := [] }
  have henter : Frame.enter P f vals .normal = b.at a [.code body] := by
    simp [Frame.enter, Frame.at, hf, hb, b, a]
  have hbody : Piece fn.ntmps body body [] := ⟨hok, nodupB_iff hdup, fun id t h => h⟩
  have hsz : a.tmps.size = fn.ntmps := by simp [a]; omega
  have hpre : ∀ (n : Nat) (xs : List (AV κ Ty)) (i : Nat), look (envOf (List.range' n xs.length) xs) i = .undef ∨ ∃ j, i = n + j ∧ ∃ x, xs[j]? = some x ∧ look (envOf (List.range' n xs.length) xs) i = x := by
    intro n xs
    induction xs generalizing n with
    | nil => intro i; exact .inl rfl
    | cons x xs ih =>
      intro i
      simp only [List.length_cons, List.range'_succ, envOf, look_cons]
      split
      · rename_i e; exact .inr ⟨0, by omega, x, rfl, rfl⟩
      · rcases ih (n + 1) i with h | ⟨j, h1, y, h2, h3⟩
        · exact .inl h
        · exact .inr ⟨j + 1, by omega, y, by simpa using h2, h3⟩
  have S1 : SRel C Mut ⟨ρ, objs⟩ w ρ (envOf (List.range args.length) args) objs a.tmps w := S0.setEnv fun i => by
    rw [List.range_eq_range']
    rcases hpre 0 args i with h | ⟨j, h1, x, h2, h3⟩
    · exact .inl h
    · have hj := (List.getElem?_eq_some_iff.mp h2).1
      have hij : i = j := by omega
      subst hij
      have hv : vals[i]? = some (vals[i]'(by omega)) := Array.getElem?_eq_getElem _
      refine .inr ⟨_, ?_, by rw [h3]; exact hrel i x _ h2 hv⟩
      simp only [a]
      rw [Array.getElem?_append_left (by omega)]; exact hv
  subst hml
  obtain ⟨a', w', todo', env', objs', ρ', g1, g2, g3, g4, g5⟩ := run_sound (Lent := ⟨ρ, objs⟩) (b := b) (cs := cs) hm H HQ hbody h0 h1 k n false [.code body] _ objs ρ a w ⟨hbody, trivial⟩ hsz rfl S1 hrun
  obtain ⟨v, os, us, k1, ⟨ρ2, k2, k3, k4, k5, k6⟩, kr⟩ := finish_sound (P := P) (H 0).ty (H 0).cod g5 g4
  have hret := hdec v os r k1
  refine ⟨.returned _, w', { b.at a' todo' with mode := .returning }, ⟨_, ρ2, rfl, ?_, ?_, ?_, ?_, ?_⟩, ?_, rfl, rfl, g2, rfl, fn, hf, run_results hres kr⟩
  · rw [hret]; exact k2
  · rw [hret]; exact k3
  · rw [hret]; exact k4
  · rw [hret]; exact k5
  · rw [hret]; exact k6
  · rw [henter]; exact g1

end
end Km
