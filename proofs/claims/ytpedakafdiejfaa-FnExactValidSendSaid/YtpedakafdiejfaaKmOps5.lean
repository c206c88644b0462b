/- A part of the proof: an abstract machine over the program (sound by its theorems), or definitions printed by it. There is no condition. -/
import Derived.Test.YtpedakafdiejfaaKmApp
namespace Km
open Go
set_option linter.unusedVariables false
set_option linter.unusedSimpArgs false

variable {κ : Type} {Ty : κ → Type} {R : Type}
section
variable {P : Program} {C : Cod κ Ty} {T : TypeId → Option (TI κ Ty)}
variable {Mut : Nat → Prop} {Lent : Org κ Ty} {w0 w w' : World} {ρ ρ' : Nat → Loc} {env : Env κ Ty} {objs objs' objs1 : Objs κ Ty} {a : Act}

theorem app_some {α : Type} {b : Nat} {xs ys zs : List α} (h : app b xs ys = some zs) : zs = xs ++ ys ∧ (xs.length + ys.length) * b ≤ 140737488355328 := by
  unfold app at h; split at h
  · cases h; exact ⟨rfl, by assumption⟩
  · cases h
theorem cast_some (HC : CodOk C) {s t : κ} {xs : List (Ty s)} {ys : List (Ty t)} (h : C.cast s t xs = some ys) : ∃ e : s = t, e ▸ xs = ys := HC.cast s t xs ys h
theorem cast_case (HC : CodOk C) {s t : κ} {xs : List (Ty s)} {K : List (Ty t) → Option R} {r : R} (h : (C.cast s t xs).bind K = some r) : ∃ e : s = t, K (e ▸ xs) = some r := by
  obtain ⟨ys, h1, h2⟩ := bind_some h
  obtain ⟨e, he⟩ := cast_some HC h1
  exact ⟨e, he ▸ h2⟩

theorem elem_zero (HT : TOk P C T) {t : TypeId} {ti : TI κ Ty} {e : TypeId} {s : κ} (HE : ∀ t ti e s, T t = some ti → ti.shp = .slice e s → ∃ i z, P.info? e = some i ∧ i.zero = some z ∧ z.cells.size = C.sz s ∧ (∀ v ∈ z.cells.toList, isCell v = true) ∧ 0 < C.by' s) (ht : T t = some ti) (hs : ti.shp = .slice e s) :
    ∃ i z, P.underlying t = some (.slice e) ∧ P.info? e = some i ∧ i.size = C.sz s ∧ i.bytes = C.by' s ∧ i.zero = some z ∧ z.cells.size = C.sz s ∧ (∀ v ∈ z.cells.toList, isCell v = true) ∧ 0 < C.by' s := by
  obtain ⟨h1, i, h2, h3, h4⟩ := HT.slice t ti e s ht hs
  obtain ⟨i', z, g1, g2, g3, g4, g5⟩ := HE t ti e s ht hs
  rw [h2] at g1; cases g1
  exact ⟨i, z, h1, h2, h3, h4, g2, g3, g4, g5⟩

/-- elements' types, as slices of them need them -/
def EOk (P : Program) (C : Cod κ Ty) (T : TypeId → Option (TI κ Ty)) : Prop := ∀ t ti e s, T t = some ti → ti.shp = .slice e s → ∃ i z, P.info? e = some i ∧ i.zero = some z ∧ z.cells.size = C.sz s ∧ (∀ v ∈ z.cells.toList, isCell v = true) ∧ 0 < C.by' s

/-- 'aappend' -/
theorem aappend_sound (HT : TOk P C T) (HE : EOk P C T) (HC : CodOk C) (S : SRel C Mut Lent w0 ρ env objs a.tmps w) {t1 t2 e1 e2 ty : TypeId} {i1 i2 : TI κ Ty} {s1 s2 : κ} (h1 : T t1 = some i1) (h2 : T t2 = some i2) (hs1 : i1.shp = .slice e1 s1) (hs2 : i2.shp = .slice e2 s2)
    {x y : AV κ Ty} {u q : Value} (hx : VRel C w Mut ρ objs x u) (hy : VRel C w Mut ρ objs y q) {K : AV κ Ty → Objs κ Ty → Option R} {r : R} (h : aappend C objs s1 x y K = some r) :
    ∃ v objs' u' w' ρ', K v objs' = some r ∧ (Builtin.append_ #[t1, t2] ty #[u, q]).run P w = .ok u' w' ∧ SRel C Mut Lent w0 ρ' env objs' a.tmps w' ∧ VRel C w' Mut ρ' objs' v u' := by
  obtain ⟨ie, z, b1, b2, b3, b4, b5, b6, b7, b8⟩ := elem_zero HT HE h1 hs1
  obtain ⟨c1, _⟩ := HT.slice t2 i2 e2 s2 h2 hs2
  unfold aappend at h
  split at h
  · cases h
  · rename_i s ys hrow
    replace h := cast_case HC h
    obtain ⟨e, h⟩ := h
    subst e
    dsimp only at h
    obtain ⟨A', c', blk', off', rfl, hle', hA', hrow'⟩ := rowsOf_rel HC S hy hrow
    split at h
    · rename_i t
      replace h := bind_some h
      obtain ⟨zs, hz, h⟩ := h
      obtain ⟨rfl, hb⟩ := app_some hz
      cases hx
      obtain ⟨u', w', ρ', g1, g2, g3⟩ := append_sound (P := P) (ty := ty) HC S b1 c1 b2 b3 b4 b5 b6 b7 b8 (objs1 := objs) (xs := []) (A := none) (c := 0) (blk := 0) (off := 0)
        ⟨.refl _, Nat.le_refl _, fun h => absurd rfl h, fun i y j cl h => by simp at h, fun q hq => by simp at hq⟩ hA' hrow' hb
      exact ⟨_, _, u', w', ρ', h, g1, g2, g3⟩
    · rename_i id
      split at h
      · rename_i t xs hsl
        replace h := cast_case HC h
        obtain ⟨e, h⟩ := h
        subst e
        dsimp only at h
        replace h := bind_some h
        obtain ⟨zs, hz, h⟩ := h
        obtain ⟨rfl, hb⟩ := app_some hz
        have hsl' := slOf_some hsl
        have ho := S.ob id
        simp only [ORel, hsl'] at ho
        cases hx with
        | own g hA =>
          rw [hsl'] at g; cases g
          obtain ⟨u', w', ρ', g1, g2, g3⟩ := append_sound (P := P) (ty := ty) HC S b1 c1 b2 b3 b4 b5 b6 b7 b8 (objs1 := objs.set id .dead) (xs := xs) (c := (ρ id).cap) (blk := (ρ id).block) (off := (ρ id).off)
            ⟨.kill objs id, ho.1, fun hc => ⟨hA hc, ho.2.1 hc, ⟨id, foot_live hsl' hc⟩, fun i hi => by
              obtain ⟨k1, k2⟩ := foot_kill hi
              exact k1 (S.inj _ _ _ k2 (foot_live hsl' hc))⟩, ho.2.2.1, ho.2.2.2⟩ hA' hrow' hb
          exact ⟨_, _, u', w', ρ', h, g1, g2, by simpa using g3⟩
        | ownd hcl hin g => rw [g] at hsl; cases hsl
      · cases h
    · rename_i id lo hi
      split at h
      · rename_i t xs hsl
        replace h := cast_case HC h
        obtain ⟨e, h⟩ := h
        subst e
        dsimp only at h
        replace h := bind_some h
        obtain ⟨zs, hz, h⟩ := h
        obtain ⟨rfl, hb⟩ := app_some hz
        have hsl' := slOf_some hsl
        have ho := S.ob id
        simp only [ORel, hsl'] at ho
        cases hx with
        | sub g hlo hhi hc hcap hA =>
          rename_i c _ _ A
          rw [hsl'] at g; cases g
          have hlen := dcut_length xs lo hi hhi
          obtain ⟨u', w', ρ', g1, g2, g3⟩ := append_sound (P := P) (ty := ty) HC S b1 c1 b2 b3 b4 b5 b6 b7 b8 (objs1 := objs.set id .dead) (xs := dcut xs lo hi) (A := A) (c := c) (blk := (ρ id).block) (off := (ρ id).off + lo * C.sz t)
            ⟨.kill objs id, by omega, fun hc0 => by
              have hcp : (ρ id).cap ≠ 0 := by omega
              exact ⟨hA hc0, ho.2.1 hcp, ⟨id, foot_live hsl' hcp⟩, fun i hi => by
                obtain ⟨k1, k2⟩ := foot_kill hi
                exact k1 (S.inj _ _ _ k2 (foot_live hsl' hcp))⟩, fun i y j cl k1 k2 => by
              have := ho.2.2.1 _ _ _ _ (dcut_some k1).1 k2
              rwa [Nat.add_mul, ← Nat.add_assoc] at this, fun q hq => by
              have hm := Nat.mul_le_mul_right (C.sz t) hcap
              rw [Nat.add_mul] at hm
              have := ho.2.2.2 (lo * C.sz t + q) (by omega)
              rwa [← Nat.add_assoc] at this⟩ hA' hrow' hb
          rw [hlen] at g1
          exact ⟨_, _, u', w', ρ', h, g1, g2, by simpa using g3⟩
        | subd hcl hin g => rw [g] at hsl; cases hsl
      · cases h
    · cases h

end
end Km
