/- A part of the proof: an abstract machine over the program (sound by its theorems), or definitions printed by it. There is no condition. -/
import Derived.Test.YtpedakafdiejfaaKmMem3
namespace Km
open Go
set_option linter.unusedVariables false
set_option linter.unusedSimpArgs false

variable {κ : Type} {Ty : κ → Type} {R : Type}
section
variable {P : Program} {C : Cod κ Ty} {T : TypeId → Option (TI κ Ty)}
variable {Mut : Nat → Prop} {Lent : Org κ Ty} {w0 w w' : World} {ρ ρ' : Nat → Loc} {env : Env κ Ty} {objs objs' : Objs κ Ty} {tm : Array Value}

theorem row_lt {i j n s : Nat} (hi : i < n) (hj : j < s) : i * s + j < n * s := by
  have : (i + 1) * s ≤ n * s := Nat.mul_le_mul_right s hi
  rw [Nat.add_mul] at this; omega
theorem row_ne {i i' j j' s : Nat} (hj : j < s) (hj' : j' < s) (h : i ≠ i') : i * s + j ≠ i' * s + j' := by
  intro e
  rcases Nat.lt_or_ge i i' with h1 | h1
  · have := row_lt (n := i') h1 hj; omega
  · have := row_lt (n := i) (i := i') (by omega) hj'; omega

/-- a store into an element of a slice -/
theorem SRel.storeRow (HC : CodOk C) (S : SRel C Mut Lent w0 ρ env objs tm w) {id i off : Nat} {t : κ} {xs : List (Ty t)} {z y : Ty t} {ns : List (AV κ Ty)} {us : List Value} (hid : objs[id]? = some (.sl t xs)) (hz : xs[i]? = some z)
    (hn : Cells C w Mut ρ objs ns us) (hle : off + ns.length ≤ (C.enc t z).length) (hy : C.enc t y = splice (C.enc t z) off ns) :
    SRel C Mut Lent w0 ρ env (objs.set id (.sl t (xs.set i y))) tm (w.setCells (ρ id).block ((ρ id).off + i * C.sz t + off) us) := by
  have hlt := (List.getElem?_eq_some_iff.mp hid).1
  have hilt := (List.getElem?_eq_some_iff.mp hz).1
  have ho := S.ob id
  simp only [ORel, hid] at ho
  obtain ⟨ho1, ho2, ho3, ho4⟩ := ho
  have hcap : (ρ id).cap ≠ 0 := by omega
  have hfoot : FootAt ρ objs id (ρ id).block := foot_live hid hcap
  rw [HC.len] at hle
  have hset : (objs.set id (AObj.sl t (xs.set i y)))[id]? = some (.sl t (xs.set i y)) := by simp [hlt]
  have hne : ∀ k, k ≠ id → (objs.set id (AObj.sl t (xs.set i y)))[k]? = objs[k]? := fun k h => List.getElem?_set_ne (Ne.symm h)
  have hft : ∀ k b, FootAt ρ (objs.set id (AObj.sl t (xs.set i y))) k b → FootAt ρ objs k b := fun k b h => by
    by_cases e : k = id
    · subst e; unfold FootAt at h ⊢; rw [hset] at h; rw [hid]; exact h
    · unfold FootAt at h ⊢; rw [hne k e] at h; exact h
  have hroom : ∀ k, k < us.length → ∃ u, w.cell? (at' (ρ id).block ((ρ id).off + i * C.sz t + off + k)) = some u := fun k hk => by
    obtain ⟨v, a1, _⟩ := ho4 (i * C.sz t + (off + k)) (row_lt (by omega) (by rw [hn.1] at hk; omega))
    exact ⟨v, by rw [← a1]; congr 2; omega⟩
  have hcell := fun q => setCells_cell (w := w) (b := (ρ id).block) (o := (ρ id).off + i * C.sz t + off) (vs := us) (q := q) hroom
  have W : WStep w (w.setCells (ρ id).block ((ρ id).off + i * C.sz t + off) us) (FootB ρ objs) (FootB ρ (objs.set id (AObj.sl t (xs.set i y)))) :=
    ⟨fun b _ hb => setCells_block _ _ _ _ _ (fun e => hb ⟨id, e ▸ hfoot⟩), by rw [setCells_size]; exact Nat.le_refl _, fun b ⟨k, hk⟩ => .inl ⟨k, hft k b hk⟩⟩
  have hcm : ∀ k, Compat ρ objs ρ (objs.set id (AObj.sl t (xs.set i y))) k := fun k => by
    by_cases e : k = id
    · subst e; unfold Compat; rw [hid]; exact .inl ⟨_, hset, by simp, rfl⟩
    · exact Compat.of_eq (fun _ => hne k e) (fun _ => rfl)
  obtain ⟨o1, o2, o3⟩ := setCells_os (ρ id).block us ((ρ id).off + i * C.sz t + off) w
  refine S.step W (by simp) hcm (fun k => ?_) (fun k j b hi hj => S.inj k j b (hft k b hi) (hft j b hj)) o1 o2 o3
  by_cases e : k = id
  · subst e
    unfold ORel
    rw [hset]
    refine ⟨by simpa using ho1, fun h => by rw [setCells_size]; exact ho2 h, fun i' x j cl hx hj => ?_, fun q hq => ?_⟩
    · have hjs : j < C.sz t := by have := (List.getElem?_eq_some_iff.mp hj).1; rwa [HC.len] at this
      by_cases hi' : i' = i
      · subst hi'
        simp only [List.getElem?_set_self hilt, Option.some.injEq] at hx
        subst hx
        rw [hy, splice_get _ _ _ _ (by rw [HC.len]; exact hle)] at hj
        by_cases hin : off ≤ j ∧ j < off + ns.length
        · rw [if_pos hin] at hj
          have hk : us[j - off]? = some (us[j - off]'(by rw [hn.1]; omega)) := List.getElem?_eq_getElem _
          refine ⟨_, ?_, (hn.2.2 _ _ _ hj hk).step W (by simp) hcm⟩
          rw [hcell, if_pos (by rw [hn.1]; omega), ← hk]; congr 1; omega
        · rw [if_neg hin] at hj
          obtain ⟨v, a1, a2⟩ := ho3 i' z j cl hz hj
          exact ⟨v, by rw [hcell, if_neg (by rw [hn.1]; omega)]; exact a1, a2.step W (by simp) hcm⟩
      · rw [List.getElem?_set_ne (Ne.symm hi')] at hx
        obtain ⟨v, a1, a2⟩ := ho3 i' x j cl hx hj
        refine ⟨v, ?_, a2.step W (by simp) hcm⟩
        rw [hcell, if_neg]
        · exact a1
        · rintro ⟨b1, b2⟩
          rw [hn.1] at b2
          exact row_ne (s := C.sz t) (i := i') (i' := i) (j := j) (j' := i' * C.sz t + j - i * C.sz t) hjs (by omega) hi' (by omega)
    · obtain ⟨v, a1, a2, a3⟩ := ho4 q hq
      by_cases hin : (ρ k).off + i * C.sz t + off ≤ (ρ k).off + q ∧ (ρ k).off + q < (ρ k).off + i * C.sz t + off + us.length
      · have hk : us[(ρ k).off + q - ((ρ k).off + i * C.sz t + off)]? = some (us[(ρ k).off + q - ((ρ k).off + i * C.sz t + off)]'(by omega)) := List.getElem?_eq_getElem _
        exact ⟨_, by rw [hcell, if_pos hin]; exact hk, hn.2.1 _ _ hk, by rw [World.frozen?_setCells]; exact a3⟩
      · exact ⟨v, by rw [hcell, if_neg hin]; exact a1, a2, by rw [World.frozen?_setCells]; exact a3⟩
  · exact ORel.step W (by simp) hcm (S.ob k) (hne k e) rfl (fun b hb => setCells_block _ _ _ _ _ (fun e' => e (S.inj k id b hb (e' ▸ hfoot))))

/-- 'astore' -/
theorem astore_sound (HT : TOk P C T) (HC : CodOk C) (S : SRel C Mut Lent w0 ρ env objs tm w) {t : TypeId} {ti : TI κ Ty} (ht : T t = some ti) {x y : AV κ Ty} {u q : Value} (hx : VRel C w Mut ρ objs x u) (hy : VRel C w Mut ρ objs y q)
    {K : Objs κ Ty → Option R} {r : R} (h : astore C objs ti x y K = some r) : ∃ objs' w', K objs' = some r ∧ (Instr.storeAt t u q).run P w = .ok () w' ∧ SRel C Mut Lent w0 ρ env objs' tm w' := by
  unfold astore at h
  split at h
  · cases h
  · rename_i ns hns
    have hc := cellsOf_rel hns hy
    split at h
    · cases h
    · rename_i hsz
      have hsz := Nat.eq_of_beq_eq_true hsz
      have hqs : q.cells.size = ti.size := by have := hc.1; simp at this; omega
      split at h
      · rename_i id off
        split at h
        · rename_i cs hb
          split at h
          · rename_i hle
            have hle := Nat.le_of_ble_eq_true hle
            have hb' := boxOf_some hb
            have ho := S.ob id
            simp only [ORel, hb'] at ho
            cases hx with
            | ref h1 =>
              refine ⟨_, _, h, run_storeVar HT ht hqs (fun j hj => ?_) (fun v hv => ?_), S.storeBox hb' hc hle⟩
              · obtain ⟨v, a1, _, _, a4⟩ := ho.2 (off + j) _ (List.getElem?_eq_getElem (by omega))
                exact ⟨v, by rw [Nat.add_assoc]; exact a1, by rw [Nat.add_assoc]; exact a4⟩
              · obtain ⟨j, hj⟩ := List.getElem?_of_mem hv
                exact hc.2.1 j v hj
            | refd hcl hin h1 => rw [h1] at hb; cases hb
          · cases h
        · cases h
      · rename_i id i off
        split at h
        · rename_i s xs hsl
          obtain ⟨z, hz, h⟩ := bind_some h
          obtain ⟨ns', objs', h, S', hc', hw⟩ := deepen_sound HC ns _ _ _ _ S hc h
          split at h
          · rename_i sl' hsl2
            split at h
            · rename_i hle
              have hle := Nat.le_of_ble_eq_true hle
              split at h
              · rename_i yy hdec
                have hsl' := slOf_some hsl
                have henc := HC.dec _ _ _ hdec
                have hid : objs'[id]? = some (.sl s xs) := by
                  rcases hw.2 id with e | e
                  · rw [e]; exact hsl'
                  · rw [slOf_dead e] at hsl2; cases hsl2
                have ho := S'.ob id
                simp only [ORel, hid] at ho
                have hilt := (List.getElem?_eq_some_iff.mp hz).1
                have hnl : ns'.length = ns.length := by have := hc.1; have := hc'.1; omega
                cases hx with
                | eref h1 hi =>
                  rw [hsl'] at h1; cases h1
                  refine ⟨_, _, h, run_storeVar HT ht hqs (fun j hj => ?_) (fun v hv => ?_), S'.storeRow HC hid hz hc' hle henc⟩
                  · rw [HC.len] at hle
                    obtain ⟨v, a1, _, a4⟩ := ho.2.2.2 (i * C.sz s + (off + j)) (row_lt (by omega) (by omega))
                    have e : (ρ id).off + i * C.sz s + off + j = (ρ id).off + (i * C.sz s + (off + j)) := by omega
                    exact ⟨v, by rw [e]; exact a1, by rw [e]; exact a4⟩
                  · obtain ⟨j, hj⟩ := List.getElem?_of_mem hv
                    exact hc.2.1 j v hj
                | erefd hcl hin h1 => rw [h1] at hsl; cases hsl
              · cases h
            · cases h
          · cases h
        · cases h
      · cases h

end
end Km
