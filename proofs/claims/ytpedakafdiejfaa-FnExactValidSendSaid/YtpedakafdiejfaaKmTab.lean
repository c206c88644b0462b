/- A part of the proof: an abstract machine over the program (sound by its theorems), or definitions printed by it. There is no condition. -/
import Derived.Test.YtpedakafdiejfaaKmFin
import Derived.KernelRfl
namespace Km
open Go
set_option linter.unusedVariables false

universe u
variable {κ : Type} {Ty : κ → Type} {R : Type}

/-- a table, as a list -/
def lookT {α : Type u} : List (Nat × α) → Nat → Option α
  | [], _ => none
  | (j, v) :: l, i => match Nat.beq j i with | true => some v | false => lookT l i
theorem lookT_mem {α : Type u} : ∀ {l : List (Nat × α)} {i : Nat} {v : α}, lookT l i = some v → (i, v) ∈ l
  | [], i, v, h => by cases h
  | (j, x) :: l, i, v, h => by
    simp only [lookT] at h
    split at h
    · rename_i hb; have := Nat.eq_of_beq_eq_true hb; cases h; subst this; simp
    · exact List.mem_cons_of_mem _ (lookT_mem h)

def isCells : List Value → Bool
  | [] => true
  | v :: l => isCell v && isCells l
theorem isCells_iff : ∀ {l : List Value}, isCells l = true → ∀ v ∈ l, isCell v = true
  | [], _, v, hv => by simp at hv
  | x :: l, h, v, hv => by
    simp only [isCells, Bool.and_eq_true] at h
    simp only [List.mem_cons] at hv
    rcases hv with rfl | hv
    · exact h.1
    · exact isCells_iff h.2 v hv
/-- what a struct's fields must be -/
def fieldsOk (P : Program) : List Field → Bool
  | [] => true
  | f :: fs => (match P.info? f.type with | some i => !(Nat.beq i.size 0) | none => false) && fieldsOk P fs
theorem fieldsOk_iff {P : Program} : ∀ {l : List Field}, fieldsOk P l = true → ∀ f ∈ l, ∃ i, P.info? f.type = some i ∧ i.size ≠ 0
  | [], _, v, hv => by simp at hv
  | x :: l, h, v, hv => by
    simp only [fieldsOk, Bool.and_eq_true] at h
    simp only [List.mem_cons] at hv
    rcases hv with rfl | hv
    · have h := h.1
      split at h
      · rename_i i hi
        refine ⟨i, hi, fun e => ?_⟩
        rw [e] at h; simp at h
      · cases h
    · exact fieldsOk_iff h.2 v hv

/-- one row of the table told rightly -/
structure RowOk (P : Program) (C : Cod κ Ty) (T : TypeId → Option (TI κ Ty)) (t : TypeId) (ti : TI κ Ty) : Prop where
  info : ∃ i z d, P.info? t = some i ∧ i.size = ti.size ∧ i.bytes = ti.bytes ∧ i.zero = some z ∧ z.cells.toList.map some = ti.zero.map zval ∧ isCells z.cells.toList = true ∧ P.underlying t = some d ∧ (match d with | .struct _ => true | .array .. => true | _ => false) = ti.agg ∧
    (match ti.shp with
     | .int k => d = .int k
     | .bool => d = .bool
     | .str => d = .string
     | .struct fs => ∃ fields, d = .struct fields ∧ fields.toList.map (fun f => (f.offset, f.type)) = fs ∧ fieldsOk P fields.toList = true
     | .arr n e s => d = .array n e ∧ (∃ i, P.info? e = some i ∧ i.size = C.sz s ∧ i.bytes = C.by' s) ∧ ∃ te, T e = some te ∧ te.zero.length = C.sz s ∧ ti.zero = (List.replicate n te.zero).flatten
     | .slice e s => (d = .slice e ∧ ∃ i, P.info? e = some i ∧ i.size = C.sz s ∧ i.bytes = C.by' s) ∧ ∃ i z, P.info? e = some i ∧ i.zero = some z ∧ z.cells.size = C.sz s ∧ isCells z.cells.toList = true ∧ 0 < C.by' s
     | .other => True)

theorem TOk.of {P : Program} {C : Cod κ Ty} {l : List (Nat × TI κ Ty)} (h : ∀ e ∈ l, RowOk P C (lookT l) e.1 e.2) : TOk P C (lookT l) := by
  have key : ∀ t ti, lookT l t = some ti → RowOk P C (lookT l) t ti := fun t ti ht => h _ (lookT_mem ht)
  refine ⟨fun t ti ht => ?_, fun t ti ht => ?_, fun t ti k ht hs => ?_, fun t ti ht hs => ?_, fun t ti ht hs => ?_, fun t ti fs ht hs => ?_, fun t ti n e s ht hs => ?_, fun t ti e s ht hs => ?_⟩ <;>
    obtain ⟨i, z, d, h1, h2, h3, h4, h5, h6, h7, h8, h9⟩ := (key t ti ht).info
  · exact ⟨i, z, h1, h2, h3, h4, h5, isCells_iff h6⟩
  · exact ⟨d, h7, h8⟩
  · rw [hs] at h9; rw [h7, h9]
  · rw [hs] at h9; rw [h7, h9]
  · rw [hs] at h9; rw [h7, h9]
  · rw [hs] at h9
    obtain ⟨fields, k1, k2, k3⟩ := h9
    exact ⟨fields, by rw [h7, k1], k2, fieldsOk_iff k3⟩
  · rw [hs] at h9
    exact ⟨by rw [h7, h9.1], h9.2⟩
  · rw [hs] at h9
    exact ⟨by rw [h7, h9.1.1], h9.1.2⟩
theorem EOk.of {P : Program} {C : Cod κ Ty} {l : List (Nat × TI κ Ty)} (h : ∀ e ∈ l, RowOk P C (lookT l) e.1 e.2) : EOk P C (lookT l) := by
  intro t ti e s ht hs
  obtain ⟨i, z, d, h1, h2, h3, h4, h5, h6, h7, h8, h9⟩ := (h _ (lookT_mem ht)).info
  rw [hs] at h9
  obtain ⟨_, i', z', k1, k2, k3, k4, k5⟩ := h9
  exact ⟨i', z', k1, k2, k3, isCells_iff k4, k5⟩

/-- a table of functions: what is known of them at this fuel -/
theorem Known.of {P : Program} {C : Cod κ Ty} {T : TypeId → Option (TI κ Ty)} {l : List (Nat × Summ κ Ty)} (h1 : TOk P C T) (h2 : EOk P C T) (h3 : CodOk C) (h4 : ∀ e ∈ l, SummOk P C e.1 e.2) : Known P C T (lookT l) :=
  ⟨h1, h2, h3, fun f S h => h4 _ (lookT_mem h)⟩
theorem QuietOk.of {l : List (Nat × Summ κ Ty)} (h : ∀ e ∈ l, e.2.quiet = true → ∀ r, (e.2.ret r).2 = [] ∧ idsV (e.2.ret r).1 = []) : QuietOk (lookT l) := fun f S hf => h _ (lookT_mem hf)

end Km
namespace Km
open Go
universe u
variable {κ : Type} {Ty : κ → Type} {R : Type}

theorem all_nil {α : Type u} {p : α → Prop} : ∀ e ∈ ([] : List α), p e := fun _ h => by cases h
theorem all_cons {α : Type u} {p : α → Prop} {a : α} {l : List α} (h : p a) (t : ∀ e ∈ l, p e) : ∀ e ∈ a :: l, p e := fun e he => by
  cases he with
  | head => exact h
  | tail _ he => exact t e he

/-- where one function's code is cut, and what then is left to do -/
structure Cut (κ : Type) (Ty : κ → Type) (R : Type) where
  slots : List Nat
  fn : Nat → List (AV κ Ty) → Objs κ Ty → Option R
def lam (cs : List (Nat × Cut κ Ty R)) (k id : Nat) (vs : List (AV κ Ty)) (os : Objs κ Ty) : Option R :=
  match lookT cs id with | some c => c.fn k vs os | none => none
def cutsOf (cs : List (Nat × Cut κ Ty R)) : List (Nat × List Nat) := cs.map fun c => (c.1, c.2.slots)
def todoAt (id : Nat) (body : Code) : List It := (inCode id body []).getD []
def bodyOf (f : Func) : Code := f.body.getD .skip

theorem cutAt_lookT : ∀ {cs : List (Nat × Cut κ Ty R)} {id : Nat} {slots : List Nat}, cutAt (cutsOf cs) id = some slots → ∃ c, lookT cs id = some c ∧ slots = c.slots
  | [], id, slots, h => by cases h
  | (j, c) :: cs, id, slots, h => by
    simp only [cutsOf, List.map_cons, cutAt] at h
    simp only [lookT]
    cases hb : Nat.beq j id with
    | true => rw [hb] at h; cases h; exact ⟨c, rfl, rfl⟩
    | false => rw [hb] at h; exact cutAt_lookT h

section
variable {P : Program} {C : Cod κ Ty} {T : TypeId → Option (TI κ Ty)}

theorem summ_of {f : FuncId} (fn : Func) {S : Summ κ Ty} (Γ : Nat → FuncId → Option (Summ κ Ty)) (cs : List (Nat × Cut κ Ty S.R)) (frz : Bool) (rs : List ResultVar) (m : Nat) (dec : AV κ Ty → Objs κ Ty → Option S.R)
    (hm : P.follows .mixedOrders = true) (H : ∀ k, Known P C T (Γ k)) (HQ : ∀ k, QuietOk (Γ k)) (hf : P.funcs[f]? = some fn) (hname : (fn.name == "runtime.NumGoroutine") = false) (hb : fn.body = some (bodyOf fn)) (hres : fn.results.toList = rs)
    (hok : okC fn.ntmps (bodyOf fn) = true) (hdup : nodupB (rids (bodyOf fn)) = true) (hdec : ∀ v os r, dec v os = some r → S.ret r = (v, os))
    (hc : ∀ c ∈ cs, (∀ vs os, c.2.fn 0 vs os = none) ∧ (inCode c.1 (bodyOf fn) []).isSome = true ∧
      ∀ k vs os r, c.2.fn (k + 1) vs os = some r → ∃ n, run C T (Γ k) (lam cs k) (cutsOf cs) m (finish C T frz m rs dec) n true (todoAt c.1 (bodyOf fn)) (envOf c.2.slots vs) os = some r)
    (hrun : ∀ args os r, S.run args os = some r → args.length ≤ fn.ntmps ∧ os.length = m ∧ ∃ k n, run C T (Γ k) (lam cs k) (cutsOf cs) m (finish C T frz m rs dec) n false [.code (bodyOf fn)] (envOf (List.range args.length) args) os = some r) :
    SummOk P C f S := by
  refine summ_sound (Λ := lam cs) (cuts := cutsOf cs) (frz := frz) (rs := rs) (m := m) (dec := dec) hm H HQ hf hname hb hres hok hdup hdec (fun id vs os => ?_) (fun k id vs os r slots hs h => ?_) hrun
  · unfold lam
    split
    · rename_i c h; exact (hc _ (lookT_mem h)).1 vs os
    · rfl
  · obtain ⟨c, h1, rfl⟩ := cutAt_lookT hs
    unfold lam at h
    rw [h1] at h
    obtain ⟨_, k2, k3⟩ := hc _ (lookT_mem h1)
    obtain ⟨n, hn⟩ := k3 k vs os r h
    cases ht : inCode id (bodyOf fn) [] with
    | none => rw [ht] at k2; cases k2
    | some t => exact ⟨n, t, rfl, by rw [todoAt, ht] at hn; exact hn⟩
end
end Km
