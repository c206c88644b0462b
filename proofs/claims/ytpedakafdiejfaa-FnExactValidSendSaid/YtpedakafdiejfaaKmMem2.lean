/- A part of the proof: an abstract machine over the program (sound by its theorems), or definitions printed by it. There is no condition. -/
import Derived.Test.YtpedakafdiejfaaKmMem
namespace Km
open Go
set_option linter.unusedVariables false
set_option linter.unusedSimpArgs false

variable {κ : Type} {Ty : κ → Type} {R : Type}
section
variable {P : Program} {C : Cod κ Ty} {T : TypeId → Option (TI κ Ty)}
variable {Mut : Nat → Prop} {Lent : Org κ Ty} {w0 w w' : World} {ρ ρ' : Nat → Loc} {env : Env κ Ty} {objs objs' : Objs κ Ty} {tm : Array Value}

/-- a place for a new object -/
def upd (ρ : Nat → Loc) (n : Nat) (l : Loc) : Nat → Loc := fun i => if i = n then l else ρ i
theorem upd_same (ρ : Nat → Loc) (n : Nat) (l : Loc) : upd ρ n l n = l := by simp [upd]
theorem upd_other (ρ : Nat → Loc) (n : Nat) (l : Loc) {i : Nat} (h : i ≠ n) : upd ρ n l i = ρ i := by simp [upd, h]

theorem push_old {o : AObj κ Ty} {i : Nat} (h : i < objs.length) : (objs ++ [o])[i]? = objs[i]? := List.getElem?_append_left h
theorem push_new (objs : Objs κ Ty) (o : AObj κ Ty) : (objs ++ [o])[objs.length]? = some o := by simp
theorem push_cases {o : AObj κ Ty} {i : Nat} {x : AObj κ Ty} (h : (objs ++ [o])[i]? = some x) : (i < objs.length ∧ objs[i]? = some x) ∨ (i = objs.length ∧ x = o) := by
  have hl := (List.getElem?_eq_some_iff.mp h).1
  simp at hl
  by_cases hi : i < objs.length
  · exact .inl ⟨hi, by rw [push_old hi] at h; exact h⟩
  · have : i = objs.length := by omega
    subst this
    rw [push_new] at h; cases h; exact .inr ⟨rfl, rfl⟩

theorem foot_push {o : AObj κ Ty} {l : Loc} {i b : Nat} (h : FootAt (upd ρ objs.length l) (objs ++ [o]) i b) : (i < objs.length ∧ FootAt ρ objs i b) ∨ (i = objs.length ∧ b = l.block) := by
  by_cases hi : i < objs.length
  · refine .inl ⟨hi, ?_⟩
    unfold FootAt at h ⊢
    rw [push_old hi, upd_other ρ _ l (by omega)] at h
    exact h
  · unfold FootAt at h
    by_cases hn : i = objs.length
    · subst hn
      rw [push_new, upd_same] at h
      refine .inr ⟨rfl, ?_⟩
      cases o with
      | dead => exact h.elim
      | box cs => exact h.symm
      | sl t xs => exact h.2.symm
    · have : (objs ++ [o])[i]? = none := List.getElem?_eq_none (by simp; omega)
      rw [this] at h; exact h.elim

theorem compat_push (o : AObj κ Ty) (l : Loc) (i : Nat) : Compat ρ objs (upd ρ objs.length l) (objs ++ [o]) i := Compat.of_eq (fun h => push_old h) (fun h => upd_other ρ _ l (by omega))

/-- a new object on a new block -/
theorem SRel.fresh (S : SRel C Mut Lent w0 ρ env objs tm w) {o : AObj κ Ty} {l : Loc}
    (hb : ∀ b, b < w.heap.size → w'.heap[b]? = w.heap[b]?) (hsz : w.heap.size ≤ w'.heap.size) (hl : w.heap.size ≤ l.block)
    (hnew : ∀ (_ : WStep w w' (FootB ρ objs) (FootB (upd ρ objs.length l) (objs ++ [o]))), ORel C w' Mut (upd ρ objs.length l) (objs ++ [o]) objs.length)
    (hos : w'.os = w.os) (htape : w'.tape = w.tape) (hout : w'.output = w.output) :
    WStep w w' (FootB ρ objs) (FootB (upd ρ objs.length l) (objs ++ [o])) ∧ SRel C Mut Lent w0 (upd ρ objs.length l) env (objs ++ [o]) tm w' := by
  have W : WStep w w' (FootB ρ objs) (FootB (upd ρ objs.length l) (objs ++ [o])) := ⟨fun b hlt _ => hb b hlt, hsz, fun b ⟨i, hi⟩ => by
    rcases foot_push hi with ⟨_, h⟩ | ⟨_, h⟩
    · exact .inl ⟨i, h⟩
    · exact .inr (by omega)⟩
  have flt : ∀ i b, FootAt ρ objs i b → b < w.heap.size := fun i b h => by
    have ho := S.ob i
    unfold FootAt at h; unfold ORel at ho
    split at h
    · rename_i cs e; rw [e] at ho; have := ho.1; omega
    · rename_i t xs e; rw [e] at ho; have := ho.2.1 h.1; omega
    · exact h.elim
  refine ⟨W, S.step W (by simp) (compat_push o l) (fun i => ?_) (fun i j b hi hj => ?_) hos htape hout⟩
  · by_cases hi : i < objs.length
    · exact ORel.step W (by simp) (compat_push o l) (S.ob i) (push_old hi) (upd_other ρ _ l (by omega)) (fun b hb' => hb b (flt i b hb'))
    · by_cases hn : i = objs.length
      · subst hn; exact hnew W
      · unfold ORel
        have : (objs ++ [o])[i]? = none := List.getElem?_eq_none (by simp; omega)
        rw [this]; trivial
  · rcases foot_push hi with ⟨h1, h2⟩ | ⟨h1, h2⟩ <;> rcases foot_push hj with ⟨g1, g2⟩ | ⟨g1, g2⟩
    · exact S.inj i j b h2 g2
    · have := flt i b h2; omega
    · have := flt j b g2; omega
    · omega

theorem heap_alloc_old (w : World) (o : Obj) {b : Nat} (h : b < w.heap.size) : (w.alloc o).heap[b]? = w.heap[b]? := RowKit.Below.heap_alloc w o b h

/-- a variable in memory -/
theorem SRel.newBox (S : SRel C Mut Lent w0 ρ env objs tm w) {cs : List (AV κ Ty)} {us : Array Value} (e : TypeId) (hc : Cells C w Mut ρ objs cs us.toList) :
    SRel C Mut Lent w0 (upd ρ objs.length ⟨w.heap.size, 0, 0⟩) env (objs ++ [.box cs]) tm (w.alloc (.cells us e)) := by
  refine (S.fresh (o := .box cs) (l := ⟨w.heap.size, 0, 0⟩) (w' := w.alloc (.cells us e)) (fun b h => heap_alloc_old w _ h) (by simp) (Nat.le_refl _) (fun W => ?_) rfl rfl rfl).2
  unfold ORel
  rw [push_new, upd_same]
  refine ⟨by simp, fun j cl hj => ?_⟩
  have hlt := (List.getElem?_eq_some_iff.mp hj).1
  have hu : us.toList[j]? = some (us.toList[j]'(by rw [hc.1]; exact hlt)) := List.getElem?_eq_getElem _
  refine ⟨_, ?_, hc.2.1 j _ hu, (hc.2.2 j cl _ hj hu).step W (by simp) (compat_push _ _), ?_⟩
  · simp only [at', Nat.zero_add, World.cell?_alloc_new]
    rw [← Array.getElem?_toList]; exact hu
  · simp only [at', World.frozen?_alloc_new]

/-- rows of a new slice, as they lie from the block's begin on -/
structure RowsAt (C : Cod κ Ty) (w : World) (Mut : Nat → Prop) (ρ : Nat → Loc) (objs : Objs κ Ty) (t : κ) (xs : List (Ty t)) (cap : Nat) (us : Nat → Option Value) : Prop where
  le : xs.length ≤ cap
  row : ∀ i x j cl, xs[i]? = some x → (C.enc t x)[j]? = some cl → ∃ v, us (i * C.sz t + j) = some v ∧ VRel C w Mut ρ objs cl v
  room : ∀ q, q < cap * C.sz t → ∃ v, us q = some v ∧ isCell v = true

/-- a new slice -/
theorem SRel.newSl (S : SRel C Mut Lent w0 ρ env objs tm w) {t : κ} {xs : List (Ty t)} {cap : Nat} {us : Array Value} (e : TypeId) (hr : RowsAt C w Mut ρ objs t xs cap (fun q => us[q]?)) :
    SRel C Mut Lent w0 (upd ρ objs.length ⟨w.heap.size, 0, cap⟩) env (objs ++ [.sl t xs]) tm (w.alloc (.cells us e)) := by
  refine (S.fresh (o := .sl t xs) (l := ⟨w.heap.size, 0, cap⟩) (w' := w.alloc (.cells us e)) (fun b h => heap_alloc_old w _ h) (by simp) (Nat.le_refl _) (fun W => ?_) rfl rfl rfl).2
  unfold ORel
  rw [push_new, upd_same]
  refine ⟨hr.le, fun _ => by simp, fun i x j cl hx hj => ?_, fun q hq => ?_⟩
  · obtain ⟨v, h1, h2⟩ := hr.row i x j cl hx hj
    exact ⟨v, by simp only [at', Nat.zero_add, World.cell?_alloc_new]; exact h1, h2.step W (by simp) (compat_push _ _)⟩
  · obtain ⟨v, h1, h2⟩ := hr.room q hq
    exact ⟨v, by simp only [at', Nat.zero_add, World.cell?_alloc_new]; exact h1, h2, by simp only [at', World.frozen?_alloc_new]⟩

/-- what a draw of Go's own changes: nothing that is told -/
theorem SRel.drew (S : SRel C Mut Lent w0 ρ env objs tm w) : SRel C Mut Lent w0 ρ env objs tm w.drew := by
  have W : WStep w w.drew (FootB ρ objs) (FootB ρ objs) := ⟨fun _ _ _ => rfl, Nat.le_refl _, fun b h => .inl h⟩
  exact S.step W (Nat.le_refl _) (fun i => .refl i) (fun i => ORel.step W (Nat.le_refl _) (fun i => .refl i) (S.ob i) rfl rfl (fun _ _ => rfl)) S.inj rfl rfl rfl
theorem VRel.drew {v : AV κ Ty} {u : Value} (h : VRel C w Mut ρ objs v u) : VRel C w.drew Mut ρ objs v u :=
  VRel.step (w := w) (w' := w.drew) (ρ := ρ) (ρ' := ρ) (objs := objs) (objs' := objs) ⟨fun _ _ _ => rfl, Nat.le_refl _, fun b h => .inl h⟩ (Nat.le_refl _) (fun i => .refl i) h

end
end Km
