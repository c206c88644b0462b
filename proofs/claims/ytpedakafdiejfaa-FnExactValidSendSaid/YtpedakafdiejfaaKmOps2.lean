/- A part of the proof: an abstract machine over the program (sound by its theorems), or definitions printed by it. There is no condition. -/
import Derived.Test.YtpedakafdiejfaaKmOps
namespace Km
open Go
set_option linter.unusedVariables false
set_option linter.unusedSimpArgs false

variable {κ : Type} {Ty : κ → Type} {R : Type}

theorem splice_nil {α : Type} (cs : List α) (o : Nat) : splice cs o [] = cs := by cases cs <;> rfl
theorem splice_length {α : Type} : ∀ (cs : List α) (o : Nat) (ns : List α), (splice cs o ns).length = cs.length
  | cs, o, [] => by rw [splice_nil]
  | [], _, _ :: _ => rfl
  | c :: cs, 0, n :: ns => by simp [splice, splice_length cs 0 ns]
  | c :: cs, o + 1, n :: ns => by simp [splice, splice_length cs o (n :: ns)]
theorem splice_get {α : Type} : ∀ (cs : List α) (o : Nat) (ns : List α) (j : Nat), o + ns.length ≤ cs.length →
    (splice cs o ns)[j]? = if o ≤ j ∧ j < o + ns.length then ns[j - o]? else cs[j]?
  | cs, o, [], j, _ => by rw [splice_nil, if_neg (by simp)]
  | [], _, _ :: _, j, h => by simp at h
  | c :: cs, 0, n :: ns, 0, h => by simp [splice]
  | c :: cs, 0, n :: ns, j + 1, h => by
    have := splice_get cs 0 ns j (by simp at h; omega)
    simp only [splice, List.getElem?_cons_succ, this]
    by_cases hj : j < ns.length
    · rw [if_pos ⟨by omega, by omega⟩, if_pos ⟨by omega, by simp; omega⟩]; simp
    · rw [if_neg (by omega), if_neg (by simp; omega)]
  | c :: cs, o + 1, n :: ns, 0, h => by simp [splice]
  | c :: cs, o + 1, n :: ns, j + 1, h => by
    have := splice_get cs o (n :: ns) j (by simp at h ⊢; omega)
    simp only [splice, List.getElem?_cons_succ, this]
    by_cases hj : o ≤ j ∧ j < o + (n :: ns).length
    · rw [if_pos hj, if_pos ⟨by omega, by omega⟩]; congr 1; omega
    · rw [if_neg hj, if_neg (by omega)]

theorem splice_succ {α : Type} : ∀ (cs : List α) (o : Nat) (n : α) (ns : List α), o + (n :: ns).length ≤ cs.length → splice (cs.set o n) (o + 1) ns = splice cs o (n :: ns) := by
  intro cs o n ns h
  apply List.ext_getElem?
  intro j
  rw [splice_get _ _ _ _ (by simp at h ⊢; omega), splice_get _ _ _ _ h]
  simp only [List.length_cons] at h ⊢
  by_cases h1 : o + 1 ≤ j ∧ j < o + 1 + ns.length
  · rw [if_pos h1, if_pos ⟨by omega, by omega⟩]
    obtain ⟨i, rfl⟩ : ∃ i, j = o + 1 + i := ⟨j - (o + 1), by omega⟩
    simp [show o + 1 + i - (o + 1) = i by omega, show o + 1 + i - o = i + 1 by omega]
  · rw [if_neg h1]
    by_cases h2 : o ≤ j ∧ j < o + (ns.length + 1)
    · have : j = o := by omega
      subst this
      rw [if_pos h2]
      simp [show j < cs.length by omega]
    · rw [if_neg h2, List.getElem?_set_ne (by omega)]

theorem fold_splice {α : Type} : ∀ (ns : List α) (k : Nat) (cs : Array α) (off : Nat), off + k + ns.length ≤ cs.size →
    ((ns.zipIdx k).foldl (fun cs (p : α × Nat) => cs.setIfInBounds (off + p.2) p.1) cs).toList = splice cs.toList (off + k) ns
  | [], k, cs, off, _ => by simp [splice_nil]
  | n :: ns, k, cs, off, h => by
    simp only [List.zipIdx_cons, List.foldl_cons]
    simp only [List.length_cons] at h
    rw [fold_splice ns (k + 1) _ off (by simp; omega)]
    rw [Array.toList_setIfInBounds, show off + (k + 1) = off + k + 1 by omega]
    exact splice_succ _ _ _ _ (by simp; omega)

section
variable {P : Program} {C : Cod κ Ty} {T : TypeId → Option (TI κ Ty)}
variable {Mut : Nat → Prop} {Lent : Org κ Ty} {w0 w w' : World} {ρ ρ' : Nat → Loc} {env : Env κ Ty} {objs objs' : Objs κ Ty} {a : Act}

theorem mapM_run {α β : Type} (f : α → Sem β) (g : α → β) : ∀ (l : List α), (∀ x ∈ l, (f x).run P w = .ok (g x) w) → (l.mapM f).run P w = .ok (l.map g) w
  | [], _ => by simp
  | x :: l, h => by
    have ih := mapM_run f g l (fun y hy => h y (by simp [hy]))
    simp [List.mapM_cons, h x (by simp), ih]
theorem amapM_run {α β : Type} (f : α → Sem β) (g : α → β) (l : Array α) (h : ∀ x ∈ l.toList, (f x).run P w = .ok (g x) w) : (l.mapM f).run P w = .ok (l.map g) w := by
  rw [Array.mapM_eq_mapM_toList]
  have := mapM_run (P := P) (w := w) f g l.toList h
  simp only [Sem.run_map, this, Result.andThen_ok]
  congr 1
  apply Array.ext'
  simp

/-- cells and what they tell, side by side -/
def Cells (C : Cod κ Ty) (w : World) (Mut : Nat → Prop) (ρ : Nat → Loc) (objs : Objs κ Ty) (cs : List (AV κ Ty)) (us : List Value) : Prop :=
  us.length = cs.length ∧ (∀ (j : Nat) (u : Value), us[j]? = some u → isCell u = true) ∧ ∀ (j : Nat) (cl : AV κ Ty) (u : Value), cs[j]? = some cl → us[j]? = some u → VRel C w Mut ρ objs cl u

theorem Cells.agg {cs : List (AV κ Ty)} {us : List Value} (h : Cells C w Mut ρ objs cs us) : VRel C w Mut ρ objs (.agg cs) (.agg us.toArray) := .agg h.1 h.2.1 h.2.2

theorem cells_splice {cs ns : List (AV κ Ty)} {us vs : List Value} {o : Nat} (h : Cells C w Mut ρ objs cs us) (h' : Cells C w Mut ρ objs ns vs) (hle : o + ns.length ≤ cs.length) : Cells C w Mut ρ objs (splice cs o ns) (splice us o vs) := by
  obtain ⟨h1, h2, h3⟩ := h
  obtain ⟨g1, g2, g3⟩ := h'
  refine ⟨by rw [splice_length, splice_length, h1], fun j u hj => ?_, fun j cl u hc hu => ?_⟩
  · rw [splice_get _ _ _ _ (by omega)] at hj
    split at hj
    · exact g2 _ _ hj
    · exact h2 _ _ hj
  · rw [splice_get _ _ _ _ (by omega)] at hc hu
    rw [g1] at hu
    split at hc
    · rename_i hh; rw [if_pos hh] at hu; exact g3 _ _ _ hc hu
    · rename_i hh; rw [if_neg hh] at hu; exact h3 _ _ _ hc hu

theorem rel_isCell {x : AV κ Ty} {u : Value} {cs : List (AV κ Ty)} (h : cellsOf x = some cs) (hr : VRel C w Mut ρ objs x u) (hx : ∀ l, x ≠ .agg l) : isCell u = true ∧ cs = [x] := by
  cases hr with
  | agg hl hcell hrel => exact absurd rfl (hx _)
  | lit hc => cases h; exact ⟨hc, rfl⟩
  | tup => cases h
  | void => cases h
  | undef => cases h
  | _ => cases h; exact ⟨by first | rfl | assumption, rfl⟩
/-- the cells of a value -/
theorem cellsOf_rel {x : AV κ Ty} {u : Value} {cs : List (AV κ Ty)} (h : cellsOf x = some cs) (hr : VRel C w Mut ρ objs x u) : Cells C w Mut ρ objs cs u.cells.toList := by
  by_cases hx : ∃ l, x = .agg l
  · obtain ⟨l, rfl⟩ := hx
    cases h
    cases hr with
    | agg hl hcell hrel => exact ⟨hl, hcell, hrel⟩
  · obtain ⟨hc, rfl⟩ := rel_isCell h hr (fun l e => hx ⟨l, e⟩)
    have he : u.cells = #[u] := by cases u <;> simp_all [isCell, Value.cells]
    rw [he]
    refine ⟨rfl, fun j u' hj => ?_, fun j cl u' hc' hu' => ?_⟩
    · cases j <;> simp at hj; subst hj; exact hc
    · cases j <;> simp at hc' hu'; subst hc'; subst hu'; exact hr
theorem isCell_one {u : Value} (h : isCell u = true) : u.oneCell' = true := by cases u <;> simp_all [isCell, Value.oneCell']

/-- a type's zero -/
theorem zero_cells {P : Program} (HT : TOk P C T) {t : TypeId} {ti : TI κ Ty} (ht : T t = some ti) (w : World) : ∃ z, (zeroValue t).run P w = .ok z w ∧ Cells C w Mut ρ objs ti.zero z.cells.toList := by
  obtain ⟨z, h1, h2, h3⟩ := run_zeroValue' HT ht w
  have hl : z.cells.toList.length = ti.zero.length := by have := congrArg List.length h2; simpa using this
  refine ⟨z, h1, hl, fun j u hj => h3 u (List.mem_of_getElem? hj), fun j cl u hc hu => ?_⟩
  have := congrArg (fun l => l[j]?) h2
  simp only [List.getElem?_map, hu, hc, Option.map_some] at this
  cases cl <;> simp [zval] at this
  · rw [← this]; exact .lit (h3 u (List.mem_of_getElem? hu))
  · rw [this]; exact .nil

end
end Km
