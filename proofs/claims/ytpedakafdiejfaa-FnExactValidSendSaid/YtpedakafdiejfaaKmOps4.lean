/- A part of the proof: an abstract machine over the program (sound by its theorems), or definitions printed by it. There is no condition. -/
import Derived.Test.YtpedakafdiejfaaKmOps3
namespace Km
open Go
set_option linter.unusedVariables false
set_option linter.unusedSimpArgs false

variable {κ : Type} {Ty : κ → Type} {R : Type}
section
variable {P : Program} {C : Cod κ Ty} {T : TypeId → Option (TI κ Ty)}
variable {Mut : Nat → Prop} {Lent : Org κ Ty} {w0 w w' : World} {ρ ρ' : Nat → Loc} {env : Env κ Ty} {objs objs' : Objs κ Ty} {a : Act}

theorem enc_cell (HC : CodOk C) {t : κ} {x : Ty t} {j : Nat} {cl : AV κ Ty} (h : (C.enc t x)[j]? = some cl) : cl ∈ C.enc t x := List.mem_of_getElem? h

theorem aindexAddr_sound (HT : TOk P C T) (HC : CodOk C) (S : SRel C Mut Lent w0 ρ env objs a.tmps w) {t : TypeId} {ti : TI κ Ty} (ht : T t = some ti) {x iv : AV κ Ty} {u q : Value} (hx : VRel C w Mut ρ objs x u)
    (hi : VRel C w Mut ρ objs iv q) {K : AV κ Ty → Option R} {r : R} (h : aindexAddr C objs ti.shp x iv K = some r) :
    ∃ v u', K v = some r ∧ (Instr.indexAt t u q).run P w = .ok u' w ∧ VRel C w Mut ρ objs v u' := by
  unfold aindexAddr at h
  split at h
  · rename_i k i
    obtain ⟨rfl, _⟩ := lit_inv hi
    split at h
    · rename_i e s hs
      obtain ⟨hu, ii, hi1, hi2, _⟩ := HT.slice t ti e s ht hs
      split at h
      · rename_i id
        split at h
        · rename_i t' xs hsl
          split at h
          · rename_i hsame
            obtain rfl := HC.same _ _ hsame
            obtain ⟨y, hp, h⟩ := bind_some h
            obtain ⟨p1, p2, p3⟩ := idx_some hp
            have hsl' := slOf_some hsl
            have ho := S.ob id
            simp only [ORel, hsl'] at ho
            cases hx with
            | own h1 hA =>
              rw [hsl'] at h1; cases h1
              have hcap : (ρ id).cap ≠ 0 := by have := ho.1; omega
              refine ⟨_, _, h, ?_, .eref (off := 0) hsl' (by omega)⟩
              rw [hA hcap]
              simp only [Instr.indexAt, asIntOf, Sem.run_bind, Sem.run_pure, Result.andThen_ok, run_underlying hu]
              rw [if_pos ⟨p1, p2⟩]
              simp [runSz hi1, hi2, add_at]
            | ownd hcl hin h1 => rw [h1] at hsl; cases hsl
          · cases h
        · cases h
      · rename_i b t' xs
        split at h
        · rename_i hsame
          obtain rfl := HC.same _ _ hsame
          obtain ⟨y, hp, h⟩ := bind_some h
          obtain ⟨p1, p2, p3⟩ := idx_some hp
          cases hx with
          | inl hb hc hA hcell hrel =>
            rename_i A c blk off vals
            have hne : xs ≠ [] := List.ne_nil_of_mem (List.mem_of_getElem? p3)
            obtain ⟨a1, a2, a3⟩ := hA hne
            refine ⟨_, _, h, ?_, .cadr (base := off + i.toNat * C.sz s) (vals := fun j => vals i.toNat j) a3 a2 (fun j cl hj => hcell _ _ _ _ p3 hj) (fun j cl hj => deep_isCell HC (enc_cell HC hj) (hrel _ _ _ _ p3 hj)) (fun j cl hj => hrel _ _ _ _ p3 hj)⟩
            rw [a1]
            simp only [Instr.indexAt, asIntOf, Sem.run_bind, Sem.run_pure, Result.andThen_ok, run_underlying hu]
            rw [if_pos ⟨p1, p2⟩]
            simp [runSz hi1, hi2, add_at]
        · cases h
      · rename_i id lo hh
        split at h
        · rename_i t' xs hsl
          split at h
          · rename_i hsame
            obtain rfl := HC.same _ _ hsame
            obtain ⟨y, hp, h⟩ := bind_some h
            obtain ⟨p1, p2, p3⟩ := idx_some hp
            have hsl' := slOf_some hsl
            have ho := S.ob id
            simp only [ORel, hsl'] at ho
            cases hx with
            | sub h1 hlo hhi hc hcap hA =>
              rename_i c _ _ A
              rw [hsl'] at h1; cases h1
              rw [dcut_length _ _ _ hhi] at p2
              refine ⟨_, _, h, ?_, .eref (off := 0) hsl' (by omega)⟩
              rw [hA (by omega)]
              simp only [Instr.indexAt, asIntOf, Sem.run_bind, Sem.run_pure, Result.andThen_ok, run_underlying hu]
              rw [if_pos ⟨p1, p2⟩]
              simp [runSz hi1, hi2, add_at, Nat.add_mul, Nat.add_assoc]
            | subd hcl hin h1 => rw [h1] at hsl; cases hsl
          · cases h
        · cases h
      · cases h
    · rename_i n e s hs
      obtain ⟨hu, ⟨ii, hi1, hi2, _⟩, _⟩ := HT.arr t ti n e s ht hs
      split at h
      · rename_i id
        split at h
        · rename_i t' xs hsl
          split at h
          · rename_i hsame
            obtain rfl := HC.same _ _ hsame
            obtain ⟨y, hp, h⟩ := bind_some h
            split at hp
            · rename_i hn
              obtain ⟨p1, p2, p3⟩ := idx_some hp
              have hsl' := slOf_some hsl
              cases hx with
              | eref h1 hi' =>
                refine ⟨_, _, h, ?_, .eref (off := 0) hsl' (by omega)⟩
                simp only [Instr.indexAt, asIntOf, Sem.run_bind, Sem.run_pure, Result.andThen_ok, run_underlying hu, Instr.sureAddr]
                rw [if_pos ⟨p1, by omega⟩]
                simp [runSz hi1, hi2, add_at]
              | erefd hcl hin h1 => rw [h1] at hsl; cases hsl
            · cases hp
          · cases h
        · cases h
      · cases h
    · cases h
  · cases h

/-- what a slice shows, as it lies -/
theorem rowsOf_rel (HC : CodOk C) (S : SRel C Mut Lent w0 ρ env objs a.tmps w) {x : AV κ Ty} {u : Value} {t : κ} {xs : List (Ty t)} (hx : VRel C w Mut ρ objs x u) (h : rowsOf objs x = some ⟨t, xs⟩) :
    ∃ (A : Option Addr) (c blk off : Nat), u = .slice A xs.length c ∧ xs.length ≤ c ∧ (xs ≠ [] → A = some (at' blk off) ∧ blk < w.heap.size) ∧
      (∀ i y j cl, xs[i]? = some y → (C.enc t y)[j]? = some cl → ∃ v, w.cell? (at' blk (off + i * C.sz t + j)) = some v ∧ VRel C w Mut ρ objs cl v) := by
  cases x <;> simp only [rowsOf] at h
  case nil t' => cases h; cases hx; exact ⟨none, 0, 0, 0, rfl, Nat.le_refl _, fun h => absurd rfl h, fun i y j cl h => by simp at h⟩
  case inl b t' ys =>
    cases h
    cases hx with
    | inl hb hc hA hcell hrel => exact ⟨_, _, _, _, rfl, hc, fun hne => ⟨(hA hne).1, (hA hne).2.1⟩, fun i y j cl h1 h2 => ⟨_, hcell i y j cl h1 h2, hrel i y j cl h1 h2⟩⟩
  case own id =>
    have hsl' := slOf_some h
    have ho := S.ob id
    simp only [ORel, hsl'] at ho
    cases hx with
    | own h1 hA =>
      rw [hsl'] at h1; cases h1
      exact ⟨_, _, _, _, rfl, ho.1, fun hne => by
        have : (ρ id).cap ≠ 0 := by have := ho.1; have := List.length_pos_iff.mpr hne; omega
        exact ⟨hA this, ho.2.1 this⟩, ho.2.2.1⟩
    | ownd hcl hin h1 => rw [h1] at h; cases h
  case sub id lo hi =>
    split at h
    · rename_i t' ys hsl
      cases h
      have hsl' := slOf_some hsl
      have ho := S.ob id
      simp only [ORel, hsl'] at ho
      cases hx with
      | sub h1 hlo hhi hc hcap hA =>
        rename_i A
        rw [hsl'] at h1; cases h1
        have hlen := dcut_length ys lo hi hhi
        refine ⟨_, _, (ρ id).block, (ρ id).off + lo * C.sz t, by rw [hlen], by omega, fun hne => ?_, fun i y j cl h1 h2 => ?_⟩
        · have := List.length_pos_iff.mpr hne
          rw [hlen] at this
          exact ⟨hA (by omega), ho.2.1 (by omega)⟩
        · have := ho.2.2.1 _ _ _ _ (dcut_some h1).1 h2
          rwa [Nat.add_mul, ← Nat.add_assoc] at this
      | subd hcl hin h1 => rw [h1] at hsl; cases hsl
    · cases h
  all_goals cases h

end
end Km
