/- A part of the proof: an abstract machine over the program (sound by its theorems), or definitions printed by it. There is no condition. -/
import Derived.Test.YtpedakafdiejfaaKmDefs
import Derived.Laws.Sem
import Derived.Laws.World
import Derived.Laws.Cells
namespace Km
open Go
set_option linter.unusedVariables false

variable {κ : Type} {Ty : κ → Type} {R : Type}

structure Loc where
  block : Nat
  off : Nat
  cap : Nat

def isCell : Value → Bool | .agg _ => false | .tuple _ => false | _ => true

abbrev at' (b o : Nat) : Addr := ⟨b, o, none⟩

/-- object id stands on this block -/
def FootAt (ρ : Nat → Loc) (objs : Objs κ Ty) (id b : Nat) : Prop :=
  match objs[id]? with
  | some (.box _) => (ρ id).block = b
  | some (.sl _ _) => (ρ id).cap ≠ 0 ∧ (ρ id).block = b
  | _ => False
def FootB (ρ : Nat → Loc) (objs : Objs κ Ty) (b : Nat) : Prop := ∃ id, FootAt ρ objs id b

/-- where something may be written: what is borrowed may lie where the callers' own lies, what is not may not -/
def Xs (Mut : Nat → Prop) (ρ : Nat → Loc) (objs : Objs κ Ty) (b : Bool) (k : Nat) : Prop := FootB ρ objs k ∨ (b = false ∧ Mut k)

inductive VRel (C : Cod κ Ty) (w : World) (Mut : Nat → Prop) (ρ : Nat → Loc) (objs : Objs κ Ty) : AV κ Ty → Value → Prop
  | lit {v : Value} (h : isCell v = true) : VRel C w Mut ρ objs (.lit v) v
  | nil {t : κ} : VRel C w Mut ρ objs (.nil t) (.slice none 0 0)
  | inl {b : Bool} {t : κ} {xs : List (Ty t)} {A : Option Addr} {c : Nat} {blk off : Nat} {vals : Nat → Nat → Value} (hb : b = false → C.bor t = false) (hc : xs.length ≤ c)
      (hA : xs ≠ [] → A = some (at' blk off) ∧ blk < w.heap.size ∧ ¬ Xs Mut ρ objs b blk)
      (hcell : ∀ i x j cl, xs[i]? = some x → (C.enc t x)[j]? = some cl → w.cell? (at' blk (off + i * C.sz t + j)) = some (vals i j))
      (hrel : ∀ i x j cl, xs[i]? = some x → (C.enc t x)[j]? = some cl → VRel C w Mut ρ objs cl (vals i j)) :
      VRel C w Mut ρ objs (.inl b t xs) (.slice A xs.length c)
  | cadr {b : Bool} {cs : List (AV κ Ty)} {off blk base : Nat} {vals : Nat → Value} (hX : ¬ Xs Mut ρ objs b blk) (hlt : blk < w.heap.size)
      (hcell : ∀ j cl, cs[j]? = some cl → w.cell? (at' blk (base + j)) = some (vals j)) (hisc : ∀ j cl, cs[j]? = some cl → isCell (vals j) = true)
      (hrel : ∀ j cl, cs[j]? = some cl → VRel C w Mut ρ objs cl (vals j)) :
      VRel C w Mut ρ objs (.cadr b cs off) (.pointer (some (at' blk (base + off))))
  | ref {id off : Nat} {cs : List (AV κ Ty)} (h : objs[id]? = some (.box cs)) : VRel C w Mut ρ objs (.ref id off) (.pointer (some (at' (ρ id).block ((ρ id).off + off))))
  | refd {id off : Nat} {u : Value} (hc : isCell u = true) (hin : id < objs.length) (h : boxOf objs id = none) : VRel C w Mut ρ objs (.ref id off) u
  | eref {id i off : Nat} {t : κ} {xs : List (Ty t)} (h : objs[id]? = some (.sl t xs)) (hi : i < xs.length) : VRel C w Mut ρ objs (.eref id i off) (.pointer (some (at' (ρ id).block ((ρ id).off + i * C.sz t + off))))
  | erefd {id i off : Nat} {u : Value} (hc : isCell u = true) (hin : id < objs.length) (h : slOf objs id = none) : VRel C w Mut ρ objs (.eref id i off) u
  | own {id : Nat} {t : κ} {xs : List (Ty t)} {A : Option Addr} (h : objs[id]? = some (.sl t xs)) (hA : (ρ id).cap ≠ 0 → A = some (at' (ρ id).block (ρ id).off)) :
      VRel C w Mut ρ objs (.own id) (.slice A xs.length (ρ id).cap)
  | ownd {id : Nat} {u : Value} (hc : isCell u = true) (hin : id < objs.length) (h : slOf objs id = none) : VRel C w Mut ρ objs (.own id) u
  | sub {id lo hi c : Nat} {t : κ} {xs : List (Ty t)} {A : Option Addr} (h : objs[id]? = some (.sl t xs)) (hlo : lo ≤ hi) (hhi : hi ≤ xs.length) (hc : hi - lo ≤ c) (hcap : lo + c ≤ (ρ id).cap)
      (hA : c ≠ 0 → A = some (at' (ρ id).block ((ρ id).off + lo * C.sz t))) :
      VRel C w Mut ρ objs (.sub id lo hi) (.slice A (hi - lo) c)
  | subd {id lo hi : Nat} {u : Value} (hc : isCell u = true) (hin : id < objs.length) (h : slOf objs id = none) : VRel C w Mut ρ objs (.sub id lo hi) u
  | agg {cs : List (AV κ Ty)} {us : List Value} (hl : us.length = cs.length) (hcell : ∀ (j : Nat) (u : Value), us[j]? = some u → isCell u = true)
      (hrel : ∀ (j : Nat) (cl : AV κ Ty) (u : Value), cs[j]? = some cl → us[j]? = some u → VRel C w Mut ρ objs cl u) : VRel C w Mut ρ objs (.agg cs) (.agg us.toArray)
  | tup {cs : List (AV κ Ty)} {us : List Value} (hl : us.length = cs.length)
      (hrel : ∀ (j : Nat) (cl : AV κ Ty) (u : Value), cs[j]? = some cl → us[j]? = some u → VRel C w Mut ρ objs cl u) : VRel C w Mut ρ objs (.tup cs) (.tuple us.toArray)
  | void : VRel C w Mut ρ objs .void Go.undef
  | undef {u : Value} : VRel C w Mut ρ objs .undef u

/-- laws of the codec -/
inductive WeakC (C : Cod κ Ty) : AV κ Ty → AV κ Ty → Prop
  | same (c) : WeakC C c c
structure CodOk (C : Cod κ Ty) : Prop where
  same : ∀ s t, C.same s t = true → s = t
  len : ∀ t x, (C.enc t x).length = C.sz t
  dec : ∀ t cs x, C.dec t cs = some x → C.enc t x = cs
  deep : ∀ t x c, c ∈ C.enc t x → (∃ v, c = .lit v) ∨ (∃ s xs, c = .inl (C.bor s) s xs ∧ (C.bor s = true → C.bor t = true))
  cast : ∀ s t xs ys, C.cast s t xs = some ys → ∃ h : s = t, h ▸ xs = ys
  bytes : ∀ t xs bs, C.bytes t xs = some bs → bs.length = xs.length ∧ ∀ (i : Nat) x b, xs[i]? = some x → bs[i]? = some b → C.enc t x = [.lit (.int .u8 b)]

/-- how object number id lies in memory -/
def ORel (C : Cod κ Ty) (w : World) (Mut : Nat → Prop) (ρ : Nat → Loc) (objs : Objs κ Ty) (id : Nat) : Prop :=
  match objs[id]? with
  | some (.box cs) => (ρ id).block < w.heap.size ∧ ∀ j cl, cs[j]? = some cl → ∃ v, w.cell? (at' (ρ id).block ((ρ id).off + j)) = some v ∧ isCell v = true ∧ VRel C w Mut ρ objs cl v ∧ w.frozen? (at' (ρ id).block ((ρ id).off + j)) = false
  | some (.sl t xs) => xs.length ≤ (ρ id).cap ∧ ((ρ id).cap ≠ 0 → (ρ id).block < w.heap.size) ∧
      (∀ i x j cl, xs[i]? = some x → (C.enc t x)[j]? = some cl → ∃ v, w.cell? (at' (ρ id).block ((ρ id).off + i * C.sz t + j)) = some v ∧ VRel C w Mut ρ objs cl v) ∧
      (∀ q, q < (ρ id).cap * C.sz t → ∃ v, w.cell? (at' (ρ id).block ((ρ id).off + q)) = some v ∧ isCell v = true ∧ w.frozen? (at' (ρ id).block ((ρ id).off + q)) = false)
  | _ => True

/-- ids keep what they are, or are gone -/
def Compat (ρ : Nat → Loc) (objs : Objs κ Ty) (ρ' : Nat → Loc) (objs' : Objs κ Ty) (id : Nat) : Prop :=
  match objs[id]? with
  | some (.box _) => (∃ cs, objs'[id]? = some (.box cs) ∧ ρ' id = ρ id) ∨ (boxOf objs' id = none ∧ slOf objs' id = none)
  | some (.sl t xs) => (∃ ys : List (Ty t), objs'[id]? = some (.sl t ys) ∧ ys.length = xs.length ∧ ρ' id = ρ id) ∨ (boxOf objs' id = none ∧ slOf objs' id = none)
  | some .dead => boxOf objs' id = none ∧ slOf objs' id = none
  | none => True

/-- what a frame was lent: where it lay, and what it was -/
structure Org (κ : Type) (Ty : κ → Type) where
  ρ : Nat → Loc
  objs : Objs κ Ty

/-- the state of a frame: its variables, its objects, and what has become of the world since it began -/
structure SRel (C : Cod κ Ty) (Mut : Nat → Prop) (Lent : Org κ Ty) (w0 : World) (ρ : Nat → Loc) (env : Env κ Ty) (objs : Objs κ Ty) (tm : Array Value) (w : World) : Prop where
  env : ∀ i, look env i = .undef ∨ ∃ u, tm[i]? = some u ∧ VRel C w Mut ρ objs (look env i) u
  ob : ∀ id, ORel C w Mut ρ objs id
  inj : ∀ i j b, FootAt ρ objs i b → FootAt ρ objs j b → i = j
  live : ∀ b, FootB ρ objs b → ¬ Mut b ∧ (FootB Lent.ρ Lent.objs b ∨ w0.heap.size ≤ b)
  comp : ∀ id, Compat Lent.ρ Lent.objs ρ objs id
  len : Lent.objs.length ≤ objs.length
  mlt : ∀ b, Mut b → b < w0.heap.size
  frame : ∀ b, b < w0.heap.size → ¬ FootB Lent.ρ Lent.objs b → w.heap[b]? = w0.heap[b]?
  size : w0.heap.size ≤ w.heap.size
  os : w.os = w0.os
  tape : w.tape = w0.tape
  output : w.output = w0.output

/-- the world has turned where this frame may write, and nowhere else -/
structure WStep (w w' : World) (F F' : Nat → Prop) : Prop where
  block : ∀ b, b < w.heap.size → ¬ F b → w'.heap[b]? = w.heap[b]?
  size : w.heap.size ≤ w'.heap.size
  foot : ∀ b, F' b → F b ∨ w.heap.size ≤ b

theorem cell_lt {w : World} {a : Addr} {v : Value} (h : w.cell? a = some v) : a.block < w.heap.size := World.block_lt_of_cell? w a h

theorem cell_of_block {w w' : World} {b : Nat} (h : w'.heap[b]? = w.heap[b]?) (o : Nat) : w'.cell? (at' b o) = w.cell? (at' b o) := by
  simp only [World.cell?, h]
theorem frozen_of_block {w w' : World} {b : Nat} (h : w'.heap[b]? = w.heap[b]?) (o : Nat) : w'.frozen? (at' b o) = w.frozen? (at' b o) := by
  simp only [World.frozen?, h]

theorem boxOf_none {objs : Objs κ Ty} {id : Nat} (h : boxOf objs id = none) : ∀ cs, objs[id]? ≠ some (.box cs) := by
  intro cs e; simp [boxOf, e] at h
theorem slOf_none {objs : Objs κ Ty} {id : Nat} (h : slOf objs id = none) : ∀ t xs, objs[id]? ≠ some (.sl t xs) := by
  intro t xs e; simp [slOf, e] at h
theorem boxOf_some {objs : Objs κ Ty} {id : Nat} {cs : List (AV κ Ty)} (h : boxOf objs id = some cs) : objs[id]? = some (.box cs) := by
  unfold boxOf at h; split at h
  · rename_i cs' e; cases h; exact e
  · cases h
theorem slOf_some {objs : Objs κ Ty} {id : Nat} {t : κ} {xs : List (Ty t)} (h : slOf objs id = some ⟨t, xs⟩) : objs[id]? = some (.sl t xs) := by
  unfold slOf at h; split at h
  · rename_i t' xs' e; cases h; exact e
  · cases h
theorem slOf_of {objs : Objs κ Ty} {id : Nat} {t : κ} {xs : List (Ty t)} (h : objs[id]? = some (.sl t xs)) : slOf objs id = some ⟨t, xs⟩ := by simp [slOf, h]
theorem boxOf_of {objs : Objs κ Ty} {id : Nat} {cs : List (AV κ Ty)} (h : objs[id]? = some (.box cs)) : boxOf objs id = some cs := by simp [boxOf, h]
theorem boxOf_dead {objs : Objs κ Ty} {id : Nat} (h : objs[id]? = some .dead) : boxOf objs id = none := by simp [boxOf, h]
theorem slOf_dead {objs : Objs κ Ty} {id : Nat} (h : objs[id]? = some .dead) : slOf objs id = none := by simp [slOf, h]
theorem boxOf_out {objs : Objs κ Ty} {id : Nat} (h : objs[id]? = none) : boxOf objs id = none := by simp [boxOf, h]
theorem slOf_out {objs : Objs κ Ty} {id : Nat} (h : objs[id]? = none) : slOf objs id = none := by simp [slOf, h]
theorem slOf_box {objs : Objs κ Ty} {id : Nat} {cs : List (AV κ Ty)} (h : objs[id]? = some (.box cs)) : slOf objs id = none := by simp [slOf, h]
theorem boxOf_sl {objs : Objs κ Ty} {id : Nat} {t : κ} {xs : List (Ty t)} (h : objs[id]? = some (.sl t xs)) : boxOf objs id = none := by simp [boxOf, h]

variable {C : Cod κ Ty} {w w' : World} {Mut : Nat → Prop} {ρ ρ' : Nat → Loc} {objs objs' : Objs κ Ty}

theorem Compat.box {id : Nat} (h : Compat ρ objs ρ' objs' id) (hb : boxOf objs id = none) (hin : id < objs.length) : boxOf objs' id = none := by
  unfold Compat at h
  split at h
  · rename_i cs e; exact absurd e (boxOf_none hb cs)
  · rename_i t xs e
    rcases h with ⟨ys, e', _⟩ | ⟨h1, _⟩
    · exact boxOf_sl e'
    · exact h1
  · exact h.1
  · rename_i e; simp at e; omega
theorem Compat.sl {id : Nat} (h : Compat ρ objs ρ' objs' id) (hb : slOf objs id = none) (hin : id < objs.length) : slOf objs' id = none := by
  unfold Compat at h
  split at h
  · rename_i cs e
    rcases h with ⟨ys, e', _⟩ | ⟨_, h1⟩
    · exact slOf_box e'
    · exact h1
  · rename_i t xs e; exact absurd e (slOf_none hb t xs)
  · exact h.2
  · rename_i e; simp at e; omega

theorem Xs.of_step {b : Bool} {k : Nat} (W : WStep w w' (FootB ρ objs) (FootB ρ' objs')) (hk : k < w.heap.size) (h : ¬ Xs Mut ρ objs b k) : ¬ Xs Mut ρ' objs' b k := by
  intro h'
  rcases h' with h' | h'
  · rcases W.foot k h' with h1 | h1
    · exact h (.inl h1)
    · omega
  · exact h (.inr h')
theorem Xs.foot {b : Bool} {k : Nat} (h : ¬ Xs Mut ρ objs b k) : ¬ FootB ρ objs k := fun h' => h (.inl h')

/-- a value speaks of the new state what it spoke of the old one -/
theorem VRel.step (W : WStep w w' (FootB ρ objs) (FootB ρ' objs')) (hl : objs.length ≤ objs'.length) (hc : ∀ id, Compat ρ objs ρ' objs' id) {v : AV κ Ty} {u : Value} (h : VRel C w Mut ρ objs v u) : VRel C w' Mut ρ' objs' v u := by
  induction h with
  | lit h => exact .lit h
  | nil => exact .nil
  | @inl b t xs A c blk off vals hb hc1 hA hcell hrel ih =>
    refine .inl (blk := blk) (off := off) hb hc1 (fun hne => ?_) (fun i x j cl hx hj => ?_) (fun i x j cl hx hj => ih i x j cl hx hj)
    · obtain ⟨a1, a2, a3⟩ := hA hne
      exact ⟨a1, Nat.lt_of_lt_of_le a2 W.size, Xs.of_step W a2 a3⟩
    · have hne : _ ≠ [] := List.ne_nil_of_mem (List.mem_of_getElem? hx)
      obtain ⟨a1, a2, a3⟩ := hA hne
      rw [cell_of_block (W.block _ a2 (Xs.foot a3))]
      exact hcell i x j cl hx hj
  | cadr hX hlt hcell hisc hrel ih =>
    refine .cadr (Xs.of_step W hlt hX) (Nat.lt_of_lt_of_le hlt W.size) (fun j cl hj => ?_) hisc (fun j cl hj => ih j cl hj)
    rw [cell_of_block (W.block _ hlt (Xs.foot hX))]
    exact hcell j cl hj
  | @ref id off cs h =>
    have := hc id
    simp only [Compat, h] at this
    rcases this with ⟨cs', e, er⟩ | ⟨e1, e2⟩
    · rw [← er]; exact .ref e
    · have := (List.getElem?_eq_some_iff.mp h).1
      exact .refd rfl (by omega) e1
  | refd hcl hin h => exact .refd hcl (by omega) ((hc _).box h hin)
  | @eref id i off t xs h hi =>
    have := hc id
    simp only [Compat, h] at this
    rcases this with ⟨ys, e, el, er⟩ | ⟨e1, e2⟩
    · rw [← er]; exact .eref e (by omega)
    · have := (List.getElem?_eq_some_iff.mp h).1
      exact .erefd rfl (by omega) e2
  | erefd hcl hin h => exact .erefd hcl (by omega) ((hc _).sl h hin)
  | @own id t xs A h hA =>
    have := hc id
    simp only [Compat, h] at this
    rcases this with ⟨ys, e, el, er⟩ | ⟨e1, e2⟩
    · rw [← er, ← el]; exact .own e (by rw [er]; exact hA)
    · have := (List.getElem?_eq_some_iff.mp h).1
      exact .ownd rfl (by omega) e2
  | ownd hcl hin h => exact .ownd hcl (by omega) ((hc _).sl h hin)
  | @sub id lo hi c t xs A h hlo hhi hc1 hcap hA =>
    have := hc id
    simp only [Compat, h] at this
    rcases this with ⟨ys, e, el, er⟩ | ⟨e1, e2⟩
    · exact .sub e hlo (by omega) hc1 (by rw [er]; exact hcap) (by rw [er]; exact hA)
    · have := (List.getElem?_eq_some_iff.mp h).1
      exact .subd rfl (by omega) e2
  | subd hcl hin h => exact .subd hcl (by omega) ((hc _).sl h hin)
  | agg hl hcell hrel ih => exact .agg hl hcell ih
  | tup hl hrel ih => exact .tup hl ih
  | void => exact .void
  | undef => exact .undef

/-- an object that nobody has touched -/
theorem ORel.step (W : WStep w w' (FootB ρ objs) (FootB ρ' objs')) (hl : objs.length ≤ objs'.length) (hc : ∀ id, Compat ρ objs ρ' objs' id) {id : Nat} (h : ORel C w Mut ρ objs id)
    (he : objs'[id]? = objs[id]?) (hr : ρ' id = ρ id) (hb : ∀ b, FootAt ρ objs id b → w'.heap[b]? = w.heap[b]?) : ORel C w' Mut ρ' objs' id := by
  unfold ORel at h ⊢
  rw [he, hr]
  split
  · rename_i cs e
    rw [e] at h
    obtain ⟨h1, h2⟩ := h
    have hblk := hb (ρ id).block (by simp [FootAt, e])
    refine ⟨Nat.lt_of_lt_of_le h1 W.size, fun j cl hj => ?_⟩
    obtain ⟨v, a1, a2, a3, a4⟩ := h2 j cl hj
    exact ⟨v, by rw [cell_of_block hblk]; exact a1, a2, a3.step W hl hc, by rw [frozen_of_block hblk]; exact a4⟩
  · rename_i t xs e
    rw [e] at h
    obtain ⟨h1, h2, h3, h4⟩ := h
    refine ⟨h1, fun hn => Nat.lt_of_lt_of_le (h2 hn) W.size, fun i x j cl hx hj => ?_, fun q hq => ?_⟩
    · have hcap : (ρ id).cap ≠ 0 := by
        have := (List.getElem?_eq_some_iff.mp hx).1
        omega
      have hblk := hb (ρ id).block (by simp [FootAt, e, hcap])
      obtain ⟨v, a1, a2⟩ := h3 i x j cl hx hj
      exact ⟨v, by rw [cell_of_block hblk]; exact a1, a2.step W hl hc⟩
    · have hcap : (ρ id).cap ≠ 0 := fun e0 => by rw [e0, Nat.zero_mul] at hq; omega
      have hblk := hb (ρ id).block (by simp [FootAt, e, hcap])
      obtain ⟨v, a1, a2, a3⟩ := h4 q hq
      exact ⟨v, by rw [cell_of_block hblk]; exact a1, a2, by rw [frozen_of_block hblk]; exact a3⟩
  · trivial

/-- the state behind a step -/
theorem Compat.trans {ρ3 : Nat → Loc} {objs3 : Objs κ Ty} {id : Nat} (hl : objs.length ≤ objs'.length) (h : Compat ρ objs ρ' objs' id) (g : Compat ρ' objs' ρ3 objs3 id) : Compat ρ objs ρ3 objs3 id := by
  have dead : id < objs.length → boxOf objs' id = none ∧ slOf objs' id = none → boxOf objs3 id = none ∧ slOf objs3 id = none := fun hi ⟨h1, h2⟩ => by
    unfold Compat at g
    split at g
    · rename_i cs e; exact absurd e (boxOf_none h1 cs)
    · rename_i t xs e; exact absurd e (slOf_none h2 t xs)
    · exact g
    · rename_i e; simp at e; omega
  unfold Compat at h ⊢
  split
  · rename_i cs e
    rw [e] at h
    have hi := (List.getElem?_eq_some_iff.mp e).1
    rcases h with ⟨cs', e', er⟩ | h
    · unfold Compat at g; rw [e'] at g
      rcases g with ⟨cs3, e3, er3⟩ | g
      · exact .inl ⟨cs3, e3, er3.trans er⟩
      · exact .inr g
    · exact .inr (dead hi h)
  · rename_i t xs e
    rw [e] at h
    have hi := (List.getElem?_eq_some_iff.mp e).1
    rcases h with ⟨ys, e', el, er⟩ | h
    · unfold Compat at g; rw [e'] at g
      rcases g with ⟨zs, e3, el3, er3⟩ | g
      · exact .inl ⟨zs, e3, el3.trans el, er3.trans er⟩
      · exact .inr g
    · exact .inr (dead hi h)
  · rename_i e
    rw [e] at h
    have hi := (List.getElem?_eq_some_iff.mp e).1
    exact dead hi h
  · trivial

theorem SRel.step {Lent : Org κ Ty} {w0 : World} {env : Env κ Ty} {tm : Array Value} (S : SRel C Mut Lent w0 ρ env objs tm w)
    (W : WStep w w' (FootB ρ objs) (FootB ρ' objs')) (hl : objs.length ≤ objs'.length) (hc : ∀ id, Compat ρ objs ρ' objs' id)
    (hob : ∀ id, ORel C w' Mut ρ' objs' id) (hinj : ∀ i j b, FootAt ρ' objs' i b → FootAt ρ' objs' j b → i = j)
    (hos : w'.os = w.os) (htape : w'.tape = w.tape) (hout : w'.output = w.output) : SRel C Mut Lent w0 ρ' env objs' tm w' where
  env i := (S.env i).imp id fun ⟨u, h1, h2⟩ => ⟨u, h1, h2.step W hl hc⟩
  ob := hob
  inj := hinj
  live b hb := by
    rcases W.foot b hb with h | h
    · exact S.live b h
    · have := S.size
      exact ⟨fun hm => by have := S.mlt b hm; omega, .inr (by omega)⟩
  comp id := (S.comp id).trans S.len (hc id)
  len := Nat.le_trans S.len hl
  mlt := S.mlt
  frame b hb hn := by
    have := S.size
    rw [W.block b (by omega) (fun hf => ?_)]
    · exact S.frame b hb hn
    · rcases (S.live b hf).2 with h | h
      · exact hn h
      · omega
  size := Nat.le_trans S.size W.size
  os := hos.trans S.os
  tape := htape.trans S.tape
  output := hout.trans S.output

theorem Compat.refl (id : Nat) : Compat ρ objs ρ objs id := by
  unfold Compat
  split
  · rename_i cs e; exact .inl ⟨cs, e, rfl⟩
  · rename_i t xs e; exact .inl ⟨xs, e, rfl, rfl⟩
  · rename_i e; exact ⟨boxOf_dead e, slOf_dead e⟩
  · trivial
theorem Compat.of_eq {id : Nat} (h : id < objs.length → objs'[id]? = objs[id]?) (hr : id < objs.length → ρ' id = ρ id) : Compat ρ objs ρ' objs' id := by
  unfold Compat
  split
  · rename_i cs e
    have := (List.getElem?_eq_some_iff.mp e).1
    exact .inl ⟨cs, by rw [h this, e], hr this⟩
  · rename_i t xs e
    have := (List.getElem?_eq_some_iff.mp e).1
    exact .inl ⟨xs, by rw [h this, e], rfl, hr this⟩
  · rename_i e
    have := (List.getElem?_eq_some_iff.mp e).1
    exact ⟨boxOf_dead (by rw [h this, e]), slOf_dead (by rw [h this, e])⟩
  · trivial

end Km
