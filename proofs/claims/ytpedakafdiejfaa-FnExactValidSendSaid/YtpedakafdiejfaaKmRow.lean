/- A part of the proof: an abstract machine over the program (sound by its theorems), or definitions printed by it. There is no condition. -/
import Derived.Test.YtpedakafdiejfaaKmTab
import Derived.Below
namespace Km
open Go Go.RowKit
set_option linter.unusedVariables false
variable {κ : Type} {Ty : κ → Type} {R : Type} {P : Program} {C : Cod κ Ty}

/-- nothing of one's own, nothing that others may write: the state in which a row's call begins -/
theorem SRel.zero (w : World) : SRel C (fun _ => False) ⟨fun _ => ⟨0, 0, 0⟩, []⟩ w (fun _ => ⟨0, 0, 0⟩) [] ([] : Objs κ Ty) #[] w :=
  SRel.start (fun id => by simp [ORel]) (fun i j b h => by simp [FootAt] at h) (fun b ⟨i, h⟩ => by simp [FootAt] at h) (fun b h => h.elim)

/-- what a row asks of a call, of what a summary says -/
theorem SummOk.calls {f : FuncId} {S : Summ κ Ty} (h : SummOk P C f S) {args : List (AV κ Ty)} {r : S.R} (hr : S.run args [] = some r) {vals : Array Value} {w : World} (hl : vals.size = args.length)
    (hrel : ∀ (j : Nat) (x : AV κ Ty) (u : Value), args[j]? = some x → vals[j]? = some u → VRel C w (fun _ => False) (fun _ => ⟨0, 0, 0⟩) [] x u) {v : Value} (hret : (S.ret r).1 = .lit v) :
    Calls P f vals w fun e w' => e = .returned v ∧ Below w.heap.size w w' := by
  refine (h.2 args [] r hr (fun _ => False) (fun _ => ⟨0, 0, 0⟩) vals w hl hrel (SRel.zero w)).mono ?_
  rintro e w' ⟨u, ρ', rfl, h1, h2, _⟩
  rw [hret] at h1
  obtain ⟨rfl, _⟩ := lit_inv h1
  refine ⟨rfl, h2.os, h2.tape, h2.output, h2.size, fun k hk => h2.frame k hk (fun ⟨i, hi⟩ => by simp [FootAt] at hi)⟩

/-- arguments that are no memory -/
theorem rel_lits {w : World} {Mut : Nat → Prop} {ρ : Nat → Loc} {objs : Objs κ Ty} {vs : List Value} (h : isCells vs = true) : ∀ (j : Nat) (x : AV κ Ty) (u : Value), (vs.map AV.lit)[j]? = some x → vs.toArray[j]? = some u → VRel C w Mut ρ objs x u := by
  intro j x u hx hu
  simp only [List.getElem?_map, Option.map_eq_some_iff] at hx
  obtain ⟨q, hv, rfl⟩ := hx
  have h1 : vs[j]? = some u := by simpa using hu
  have h2 : q = u := by rw [hv] at h1; exact Option.some.inj h1
  rw [h2]
  exact .lit (isCells_iff h u (List.mem_of_getElem? h1))
end Km
