/- A part of the proof: an abstract machine over the program (sound by its theorems), or definitions printed by it. There is no condition. -/
import Derived.Test.YtpedakafdiejfaaKmOps7
import Derived.Laws.BytesString
namespace Km
open Go
set_option linter.unusedVariables false
set_option linter.unusedSimpArgs false

variable {κ : Type} {Ty : κ → Type} {R : Type}
section
variable {P : Program} {C : Cod κ Ty} {T : TypeId → Option (TI κ Ty)}
variable {Mut : Nat → Prop} {Lent : Org κ Ty} {w0 w w' : World} {ρ ρ' : Nat → Loc} {env : Env κ Ty} {objs objs' : Objs κ Ty} {a : Act}

theorem rows_bytes (HC : CodOk C) (S : SRel C Mut Lent w0 ρ env objs a.tmps w) {x : AV κ Ty} {u : Value} {t : κ} {xs : List (Ty t)} {bs : List Int} (hx : VRel C w Mut ρ objs x u) (h : rowsOf objs x = some ⟨t, xs⟩) (hb : C.bytes t xs = some bs) :
    ∃ A n c, u = .slice A n c ∧ (Conv.bytesToString u).run P w = .ok (.string (bstr bs)) w := by
  obtain ⟨A, c, blk, off, rfl, hc, hA, hcell⟩ := rowsOf_rel HC S hx h
  obtain ⟨hlen, hrow⟩ := HC.bytes t xs bs hb
  refine ⟨_, _, _, rfl, ?_⟩
  by_cases hne : xs = []
  · subst hne
    have : bs = [] := List.length_eq_zero_iff.mp (by simpa using hlen)
    subst this
    cases A with
    | none => simp [Conv.bytesToString, bstr]
    | some A =>
      exact run_bytesToString w A 0 c [] (by simpa using run_loadCells_list (P := P) (w := w) A [] (by simp))
  · obtain ⟨rfl, hlt⟩ := hA hne
    have hsz : C.sz t = 1 := by
      obtain ⟨y, ys, rfl⟩ := List.exists_cons_of_ne_nil hne
      obtain ⟨b, bs', rfl⟩ : ∃ b bs', bs = b :: bs' := by cases bs with | nil => simp at hlen | cons b bs' => exact ⟨b, bs', rfl⟩
      rw [← HC.len t y, hrow 0 y b rfl rfl]; rfl
    have := run_loadCells_list (P := P) (w := w) (at' blk off) (bs.map (Value.int .u8)) (fun j v hj => by
      simp only [List.getElem?_map, Option.map_eq_some_iff] at hj
      obtain ⟨b, hj, rfl⟩ := hj
      have hjl := (List.getElem?_eq_some_iff.mp hj).1
      have hy : xs[j]? = some (xs[j]'(by omega)) := List.getElem?_eq_getElem _
      have he := hrow j _ b hy hj
      obtain ⟨v, g1, g2⟩ := hcell j _ 0 (.lit (.int .u8 b)) hy (by rw [he]; rfl)
      obtain ⟨rfl, _⟩ := lit_inv g2
      rw [add_at, ← g1, hsz]; congr 2; omega)
    rw [List.length_map, hlen] at this
    exact run_bytesToString w _ _ c bs this

end
end Km
