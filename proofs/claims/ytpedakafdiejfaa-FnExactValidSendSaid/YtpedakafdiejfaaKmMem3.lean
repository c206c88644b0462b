/- A part of the proof: an abstract machine over the program (sound by its theorems), or definitions printed by it. There is no condition. -/
import Derived.Test.YtpedakafdiejfaaKmMem2
namespace Km
open Go
set_option linter.unusedVariables false
set_option linter.unusedSimpArgs false

variable {κ : Type} {Ty : κ → Type} {R : Type}
section
variable {P : Program} {C : Cod κ Ty} {T : TypeId → Option (TI κ Ty)}
variable {Mut : Nat → Prop} {Lent : Org κ Ty} {w0 w w' : World} {ρ ρ' : Nat → Loc} {env : Env κ Ty} {objs objs' : Objs κ Ty} {tm : Array Value}

theorem setCells_block (b : Nat) : ∀ (vs : List Value) (o : Nat) (w : World) (k : Nat), k ≠ b → (w.setCells b o vs).heap[k]? = w.heap[k]?
  | [], _, _, _, _ => rfl
  | v :: r, o, w, k, h => by
    rw [World.setCells, setCells_block b r (o + 1) _ k h]
    exact RowKit.Below.heap_setCell w ⟨b, o, none⟩ v k h
theorem setCells_size (b : Nat) : ∀ (vs : List Value) (o : Nat) (w : World), (w.setCells b o vs).heap.size = w.heap.size
  | [], _, _ => rfl
  | v :: r, o, w => by rw [World.setCells, setCells_size b r (o + 1)]; simp
theorem setCells_os (b : Nat) : ∀ (vs : List Value) (o : Nat) (w : World), (w.setCells b o vs).os = w.os ∧ (w.setCells b o vs).tape = w.tape ∧ (w.setCells b o vs).output = w.output
  | [], _, _ => ⟨rfl, rfl, rfl⟩
  | v :: r, o, w => by rw [World.setCells]; exact setCells_os b r (o + 1) (w.setCell ⟨b, o, none⟩ v)

/-- a cell behind a store of several -/
theorem setCells_cell {b o : Nat} {vs : List Value} {q : Nat} (h : ∀ j, j < vs.length → ∃ u, w.cell? (at' b (o + j)) = some u) :
    (w.setCells b o vs).cell? (at' b q) = if o ≤ q ∧ q < o + vs.length then vs[q - o]? else w.cell? (at' b q) := by
  by_cases hq : o ≤ q ∧ q < o + vs.length
  · rw [if_pos hq]
    obtain ⟨j, rfl⟩ : ∃ j, q = o + j := ⟨q - o, by omega⟩
    have hj : j < vs.length := by omega
    have := World.cell?_setCells_in b vs o w (fun j hj => by obtain ⟨u, hu⟩ := h j hj; rw [show (⟨b, o + j, none⟩ : Addr) = at' b (o + j) from rfl, hu]; rfl) j hj
    rw [show at' b (o + j) = ⟨b, o + j, none⟩ from rfl, this, show o + j - o = j by omega, List.getElem?_eq_getElem hj]
  · rw [if_neg hq]
    exact World.cell?_setCells_out b vs o w (at' b q) (fun _ _ => by simp only [at']; omega)

theorem run_storeVar (HT : TOk P C T) {t : TypeId} {ti : TI κ Ty} (ht : T t = some ti) {u : Value} {b o : Nat} (hsz : u.cells.size = ti.size) (hc : ∀ j, j < u.cells.size → ∃ v, w.cell? (at' b (o + j)) = some v ∧ w.frozen? (at' b (o + j)) = false)
    (h1 : ∀ v ∈ u.cells.toList, isCell v = true) : (Instr.storeAt t (.pointer (some (at' b o))) u).run P w = .ok () (w.setCells b o u.cells.toList) := by
  have hst := run_storeCells_cells (P := P) b o u.cells.toList 0 w (fun j hj => by
    obtain ⟨v, g1, _⟩ := hc j (by simpa using hj)
    simp only [Nat.add_zero]; rw [show (⟨b, o + j, none⟩ : Addr) = at' b (o + j) from rfl, g1]; rfl) (fun j hj => by
    obtain ⟨v, _, g2⟩ := hc j (by simpa using hj)
    simp only [Nat.add_zero]; exact g2) (fun v hv => isCell_one (h1 v hv))
  simp only [Instr.storeAt, Instr.sureAddr, Sem.run_bind, Sem.run_pure, Result.andThen_ok, storeVar, run_sizeOf' HT ht]
  rw [if_neg (by simp [hsz])]
  simp only [Nat.add_zero] at hst
  exact hst

/-- a store into a variable in memory -/
theorem SRel.storeBox (S : SRel C Mut Lent w0 ρ env objs tm w) {id off : Nat} {cs ns : List (AV κ Ty)} {us : List Value} (hid : objs[id]? = some (.box cs)) (hn : Cells C w Mut ρ objs ns us) (hle : off + ns.length ≤ cs.length) :
    SRel C Mut Lent w0 ρ env (objs.set id (.box (splice cs off ns))) tm (w.setCells (ρ id).block ((ρ id).off + off) us) := by
  have hlt := (List.getElem?_eq_some_iff.mp hid).1
  have ho := S.ob id
  simp only [ORel, hid] at ho
  have hfoot : FootAt ρ objs id (ρ id).block := by simp [FootAt, hid]
  have hset : (objs.set id (AObj.box (splice cs off ns)))[id]? = some (.box (splice cs off ns)) := by simp [hlt]
  have hne : ∀ i, i ≠ id → (objs.set id (AObj.box (splice cs off ns)))[i]? = objs[i]? := fun i h => List.getElem?_set_ne (Ne.symm h)
  have hft : ∀ i b, FootAt ρ (objs.set id (AObj.box (splice cs off ns))) i b → FootAt ρ objs i b := fun i b h => by
    by_cases e : i = id
    · subst e; unfold FootAt at h ⊢; rw [hset] at h; rw [hid]; exact h
    · unfold FootAt at h ⊢; rw [hne i e] at h; exact h
  have W : WStep w (w.setCells (ρ id).block ((ρ id).off + off) us) (FootB ρ objs) (FootB ρ (objs.set id (AObj.box (splice cs off ns)))) :=
    ⟨fun b _ hb => setCells_block _ _ _ _ _ (fun e => hb ⟨id, e ▸ hfoot⟩), by rw [setCells_size]; exact Nat.le_refl _, fun b ⟨i, hi⟩ => .inl ⟨i, hft i b hi⟩⟩
  have hcm : ∀ i, Compat ρ objs ρ (objs.set id (AObj.box (splice cs off ns))) i := fun i => by
    by_cases e : i = id
    · subst e; unfold Compat; rw [hid]; exact .inl ⟨_, hset, rfl⟩
    · exact Compat.of_eq (fun _ => hne i e) (fun _ => rfl)
  obtain ⟨o1, o2, o3⟩ := setCells_os (ρ id).block us ((ρ id).off + off) w
  refine S.step W (by simp) hcm (fun i => ?_) (fun i j b hi hj => S.inj i j b (hft i b hi) (hft j b hj)) o1 o2 o3
  by_cases e : i = id
  · subst e
    unfold ORel
    rw [hset]
    refine ⟨by rw [setCells_size]; exact ho.1, fun j cl hj => ?_⟩
    have hjl : j < cs.length := by have := (List.getElem?_eq_some_iff.mp hj).1; rwa [splice_length] at this
    obtain ⟨v0, g1, g2, g3, g4⟩ := ho.2 j cs[j] (List.getElem?_eq_getElem hjl)
    have hcell := setCells_cell (w := w) (b := (ρ i).block) (o := (ρ i).off + off) (vs := us) (q := (ρ i).off + j) (fun k hk => by
      obtain ⟨v, a1, _⟩ := ho.2 (off + k) _ (List.getElem?_eq_getElem (by rw [hn.1] at hk; omega))
      exact ⟨v, by rw [Nat.add_assoc]; exact a1⟩)
    have hfr : (w.setCells (ρ i).block ((ρ i).off + off) us).frozen? (at' (ρ i).block ((ρ i).off + j)) = false := by
      rw [World.frozen?_setCells]; exact g4
    rw [splice_get _ _ _ _ hle] at hj
    by_cases hin : off ≤ j ∧ j < off + ns.length
    · rw [if_pos hin] at hj
      rw [if_pos (by rw [hn.1]; omega)] at hcell
      have hk : us[j - off]? = some (us[j - off]'(by rw [hn.1]; omega)) := List.getElem?_eq_getElem _
      rw [show (ρ i).off + j - ((ρ i).off + off) = j - off by omega, hk] at hcell
      exact ⟨_, hcell, hn.2.1 _ _ hk, (hn.2.2 _ _ _ hj hk).step W (by simp) hcm, hfr⟩
    · rw [if_neg hin] at hj
      rw [if_neg (by rw [hn.1]; omega), g1] at hcell
      rw [List.getElem?_eq_getElem hjl] at hj; cases hj
      exact ⟨_, hcell, g2, g3.step W (by simp) hcm, hfr⟩
  · exact ORel.step W (by simp) hcm (S.ob i) (hne i e) rfl (fun b hb => setCells_block _ _ _ _ _ (fun e' => e (S.inj i id b hb (e' ▸ hfoot))))

end
end Km
