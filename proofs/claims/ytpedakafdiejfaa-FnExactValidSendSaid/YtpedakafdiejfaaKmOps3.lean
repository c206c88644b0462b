/- A part of the proof: an abstract machine over the program (sound by its theorems), or definitions printed by it. There is no condition. -/
import Derived.Test.YtpedakafdiejfaaKmOps2
namespace Km
open Go
set_option linter.unusedVariables false
set_option linter.unusedSimpArgs false

variable {κ : Type} {Ty : κ → Type} {R : Type}
section
variable {P : Program} {C : Cod κ Ty} {T : TypeId → Option (TI κ Ty)}
variable {Mut : Nat → Prop} {Lent : Org κ Ty} {w0 w w' : World} {ρ ρ' : Nat → Loc} {env : Env κ Ty} {objs objs' : Objs κ Ty} {a : Act}

/-- values that stand for the parts of a literal -/
def Parts (C : Cod κ Ty) (w : World) (Mut : Nat → Prop) (ρ : Nat → Loc) (objs : Objs κ Ty) : List (Nat × AV κ Ty) → List (Nat × Value) → Prop
  | [], [] => True
  | (i, x) :: ps, (j, u) :: qs => i = j ∧ VRel C w Mut ρ objs x u ∧ Parts C w Mut ρ objs ps qs
  | _, _ => False

theorem partsOf_rel (HT : TOk P C T) (S : SRel C Mut Lent w0 ρ env objs a.tmps w) (ty : Nat → TypeId) : ∀ (ps : List (Nat × Operand)), Parts C w Mut ρ objs (partsOf T env ty ps) (ps.map fun p => (p.1, a.eval p.2))
  | [] => trivial
  | (i, x) :: ps => ⟨rfl, opnd_rel HT S _ _, partsOf_rel HT S ty ps⟩

theorem fill_sound (HT : TOk P C T) {fs : List (Nat × TypeId)} {place : Nat → Option (Nat × Nat)} (hp : ∀ i d t ti, fs[i]? = some (d, t) → T t = some ti → place i = some (d, ti.size)) :
    ∀ (ps : List (Nat × AV κ Ty)) (qs : List (Nat × Value)) (cs cs' : List (AV κ Ty)) (us : Array Value), Parts C w Mut ρ objs ps qs → Cells C w Mut ρ objs cs us.toList → fillC T fs cs ps = some cs' →
      ∃ us', Instr.fill place us qs = some us' ∧ Cells C w Mut ρ objs cs' us'.toList
  | [], [], cs, cs', us, _, hc, h => by cases h; exact ⟨us, rfl, hc⟩
  | (i, x) :: ps, (j, u) :: qs, cs, cs', us, hpq, hc, h => by
    obtain ⟨rfl, hx, hrest⟩ := hpq
    simp only [fillC] at h
    split at h
    · cases h
    · rename_i d t hd
      split at h
      · rename_i ns ti hns hti
        split at h
        · rename_i heq
          split at h
          · rename_i hle
            have heq := Nat.eq_of_beq_eq_true heq
            have hle := Nat.le_of_ble_eq_true hle
            have hns' := cellsOf_rel hns hx
            have hsz : u.cells.size = ti.size := by have := hns'.1; simp at this; omega
            have hlen := hc.1
            have hsp := cells_splice hc hns' hle
            have hf := fold_splice u.cells.toList 0 us d (by simp at hlen ⊢; omega)
            simp only [Nat.add_zero] at hf
            obtain ⟨us', h1, h2⟩ := fill_sound HT hp ps qs _ cs' (u.cells.zipIdx.foldl (fun cs (c, j) => cs.setIfInBounds (d + j) c) us) hrest (by
              rw [← Array.foldl_toList, Array.toList_zipIdx]
              rw [hf]; exact hsp) h
            refine ⟨us', ?_, h2⟩
            simp only [Instr.fill, hp i d t ti hd hti]
            rw [if_neg (by simp at hlen ⊢; omega)]
            exact h1
          · cases h
        · cases h
      · cases h
  | [], _ :: _, _, _, _, h, _, _ => h.elim
  | _ :: _, [], _, _, _, h, _, _ => h.elim

theorem build_sound (HT : TOk P C T) {t : TypeId} {ti : TI κ Ty} (ht : T t = some ti) {fs : List (Nat × TypeId)} (hs : ti.shp = .struct fs) {ps : List (Nat × AV κ Ty)} {qs : List (Nat × Value)} {cs : List (AV κ Ty)}
    (hp : Parts C w Mut ρ objs ps qs) (h : fillC T fs ti.zero ps = some cs) : ∃ us : List Value, (Instr.build t qs.toArray).run P w = .ok (.agg us.toArray) w ∧ Cells C w Mut ρ objs cs us := by
  obtain ⟨z, hz, hzc⟩ := zero_cells (C := C) (Mut := Mut) (ρ := ρ) (objs := objs) HT ht w
  obtain ⟨fields, hu, hfs, hfi⟩ := HT.struct t ti fs ht hs
  have hm := amapM_run (P := P) (w := w) (fun f : Field => do pure (f.offset, ← Go.sizeOf f.type)) (fun f => (f.offset, P.cellsOf f.type)) fields (fun f hf => by
    obtain ⟨i, hi, _⟩ := hfi f hf
    simp [runSz hi, Program.cellsOf, hi])
  obtain ⟨us', h1, h2⟩ := fill_sound (P := P) HT (fs := fs) (place := ((fields.map fun f => (f.offset, P.cellsOf f.type))[·]?)) (fun i d t ti hd hti => by
    rw [← hfs] at hd
    simp only [List.getElem?_map, Option.map_eq_some_iff] at hd
    obtain ⟨f, hf, he⟩ := hd
    cases he
    obtain ⟨ii, z', hi1, hi2, _⟩ := HT.info _ _ hti
    have hf' : fields[i]? = some f := by rw [← Array.getElem?_toList]; exact hf
    simp [hf', Program.cellsOf, hi1, hi2]) ps qs _ cs z.cells hp hzc h
  refine ⟨us'.toList, ?_, h2⟩
  simp only [Instr.build, Sem.run_bind, hz, Result.andThen_ok, run_underlying hu, hm]
  simp only [List.toList_toArray, h1]
  rfl

/-- a struct's part, out of its cells -/
theorem part_sound (HT : TOk P C T) {t : TypeId} {ti : TI κ Ty} (ht : T t = some ti) {cs : List (AV κ Ty)} {us : List Value} {d : Nat} {v : AV κ Ty} (hc : Cells C w Mut ρ objs cs us) (h : loadC ti cs d = some v) :
    ∃ u, (part t us.toArray d).run P w = .ok u w ∧ VRel C w Mut ρ objs v u := by
  unfold loadC at h
  split at h
  · rename_i hag
    split at h
    · rename_i hle
      have hle := Nat.le_of_ble_eq_true hle
      cases h
      refine ⟨.agg ((us.drop d).take ti.size).toArray, ?_, ?_⟩
      · simp only [part, Sem.run_bind, run_isAgg HT ht, Result.andThen_ok, hag, if_true, run_sizeOf' HT ht, Sem.run_pure]
        congr 2
        apply Array.ext'
        simp [List.take_drop]
      · obtain ⟨h1, h2, h3⟩ := hc
        refine .agg (by simp; omega) (fun j u hj => ?_) (fun j cl u hj1 hj2 => ?_)
        · have hjs : j < ti.size := by have := (List.getElem?_eq_some_iff.mp hj).1; simp at this; omega
          rw [List.getElem?_take_of_lt hjs, List.getElem?_drop] at hj
          exact h2 _ _ hj
        · have hjs : j < ti.size := by have := (List.getElem?_eq_some_iff.mp hj2).1; simp at this; omega
          rw [List.getElem?_take_of_lt hjs, List.getElem?_drop] at hj1 hj2
          exact h3 _ _ _ hj1 hj2
    · cases h
  · rename_i hag
    obtain ⟨h1, h2, h3⟩ := hc
    have hlt := (List.getElem?_eq_some_iff.mp h).1
    have hu : us[d]? = some us[d] := List.getElem?_eq_getElem (by omega)
    refine ⟨us[d], ?_, h3 d v _ h hu⟩
    simp only [part, Sem.run_bind, run_isAgg HT ht, Result.andThen_ok, hag, Bool.false_eq_true, if_false]
    simp [hu]

/-- bounds of a slice expression -/
inductive BRel : Option Int → Option Value → Prop
  | none : BRel none none
  | some (k : IntKind) (n : Int) : BRel (some n) (some (.int k n))
theorem sliceBounds_sound {lo hi : Option Int} {lv hv : Option Value} {isS : Bool} {n cap l h : Nat} (hlo : BRel lo lv) (hhi : BRel hi hv) (hcap : n ≤ cap) (hw : wnd n (lo.getD 0) (hi.getD n) = some (l, h)) :
    (Instr.sliceBounds isS n cap lv hv none).run P w = .ok (l, h, cap) w ∧ l ≤ h ∧ h ≤ n := by
  unfold wnd at hw
  split at hw
  · rename_i hh
    obtain ⟨h1, h2, h3⟩ := hh
    cases hw
    refine ⟨?_, by omega, by omega⟩
    cases hlo <;> cases hhi <;> simp only [Option.getD_some, Option.getD_none] at h1 h2 h3 ⊢ <;>
      simp (disch := omega) [Instr.sliceBounds, Instr.sliceBound, asIntOf, if_pos] <;>
      (first | done | (rw [if_pos (by omega)]; simp (disch := omega) [if_pos]) | skip)
  · cases hw


theorem dcut_length {α : Type} (xs : List α) (lo hi : Nat) (h : hi ≤ xs.length) : (dcut xs lo hi).length = hi - lo := by simp [dcut]; omega
theorem dcut_get {α : Type} (xs : List α) (lo hi i : Nat) : (dcut xs lo hi)[i]? = if lo + i < hi then xs[lo + i]? else none := by
  simp only [dcut, List.getElem?_drop, List.getElem?_take]
theorem dcut_some {α : Type} {xs : List α} {lo hi i : Nat} {x : α} (h : (dcut xs lo hi)[i]? = some x) : xs[lo + i]? = some x ∧ lo + i < hi := by
  rw [dcut_get] at h; split at h
  · exact ⟨h, by assumption⟩
  · cases h
theorem idx_some {α : Type} {xs : List α} {i : Int} {x : α} (h : idx xs i = some x) : 0 ≤ i ∧ i < xs.length ∧ xs[i.toNat]? = some x := by
  unfold idx at h
  split at h
  · cases h
  · have := (List.getElem?_eq_some_iff.mp h).1
    exact ⟨by omega, by omega, h⟩

theorem inl_cut {b : Bool} {t : κ} {xs : List (Ty t)} {A : Option Addr} {n c l h : Nat} (hr : VRel C w Mut ρ objs (.inl b t xs) (.slice A n c)) (hlh : l ≤ h) (hh : h ≤ xs.length) :
    n = xs.length ∧ n ≤ c ∧ VRel C w Mut ρ objs (.inl b t (dcut xs l h)) (.slice (if c = l then A else A.map (·.add (l * C.sz t))) (h - l) (c - l)) := by
  cases hr with
  | inl hb hc hA hcell hrel =>
    rename_i blk off vals
    refine ⟨rfl, hc, ?_⟩
    have := VRel.inl (C := C) (w := w) (Mut := Mut) (ρ := ρ) (objs := objs) (b := b) (t := t) (xs := dcut xs l h) (A := if c = l then A else A.map (·.add (l * C.sz t))) (c := c - l) (blk := blk) (off := off + l * C.sz t) (vals := fun i j => vals (l + i) j) hb
      (by rw [dcut_length _ _ _ hh]; omega)
      (fun hne => by
        have hx : xs ≠ [] := by rintro rfl; simp [dcut] at hne
        have hlt : l < h := by
          have := List.length_pos_iff.mpr hne
          rw [dcut_length _ _ _ hh] at this; omega
        obtain ⟨a1, a2, a3⟩ := hA hx
        refine ⟨?_, a2, a3⟩
        rw [if_neg (by omega), a1]
        simp [add_at])
      (fun i x j cl hx hj => by
        obtain ⟨h1, h2⟩ := dcut_some hx
        have := hcell _ _ _ _ h1 hj
        rw [← this, Nat.add_mul]; congr 2; omega)
      (fun i x j cl hx hj => hrel _ _ _ _ (dcut_some hx).1 hj)
    rw [dcut_length _ _ _ hh] at this
    exact this

theorem aslice_sound (HT : TOk P C T) (HC : CodOk C) (S : SRel C Mut Lent w0 ρ env objs a.tmps w) {t : TypeId} {ti : TI κ Ty} (ht : T t = some ti) {x : AV κ Ty} {u : Value} (hx : VRel C w Mut ρ objs x u)
    {lo hi : Option Int} {lv hv : Option Value} (hlo : BRel lo lv) (hhi : BRel hi hv) {K : AV κ Ty → Option R} {r : R} (h : aslice C objs ti.shp x lo hi K = some r) :
    ∃ v u', K v = some r ∧ (Instr.sliceAt t u lv hv none).run P w = .ok u' w ∧ VRel C w Mut ρ objs v u' := by
  unfold aslice at h
  split at h
  · rename_i hs
    have hu := HT.str t ti ht hs
    split at h
    · rename_i s
      obtain ⟨⟨l, m⟩, hp, h⟩ := bind_some h
      obtain ⟨rfl, _⟩ := lit_inv hx
      obtain ⟨h1, _, _⟩ := sliceBounds_sound (P := P) (w := w) (isS := false) hlo hhi (Nat.le_refl _) hp
      refine ⟨_, _, h, ?_, .lit rfl⟩
      simp only [Instr.sliceAt, Sem.run_bind, run_underlying hu, Result.andThen_ok, Instr.slice, Option.isSome_none, Bool.false_eq_true, if_false, h1]
      simp
    · cases h
  · rename_i e s hs
    obtain ⟨hu, i, hi1, hi2, _⟩ := HT.slice t ti e s ht hs
    split at h
    · rename_i id
      split at h
      · rename_i t' xs hsl
        split at h
        · rename_i hsame
          obtain rfl := HC.same _ _ hsame
          obtain ⟨⟨l, m⟩, hp, h⟩ := bind_some h
          have hsl' := slOf_some hsl
          have ho := S.ob id
          simp only [ORel, hsl'] at ho
          cases hx with
          | own h1 hA =>
            rw [hsl'] at h1; cases h1
            obtain ⟨g1, g2, g3⟩ := sliceBounds_sound (P := P) (w := w) (isS := true) hlo hhi ho.1 hp
            refine ⟨_, _, h, ?_, .sub hsl' g2 g3 (c := (ρ id).cap - l) (by omega) (by omega) (A := ?_) (fun hc => ?_)⟩
            rotate_left
            · rename_i A; exact if (ρ id).cap = l then A else A.map (·.add (l * C.sz s))
            · rw [if_neg (by omega), hA (by omega)]; simp [add_at]
            · simp only [Instr.sliceAt, Sem.run_bind, run_underlying hu, Result.andThen_ok, Instr.slice, g1, runSz hi1, hi2, Sem.run_pure]
          | ownd hcl hin h1 => rw [h1] at hsl; cases hsl
        · cases h
      · cases h
    · rename_i b t' xs
      split at h
      · rename_i hsame
        obtain rfl := HC.same _ _ hsame
        obtain ⟨⟨l, m⟩, hp, h⟩ := bind_some h
        have hx' := hx
        cases hx' with
        | inl hb hc hA hcell hrel =>
          obtain ⟨g1, g2, g3⟩ := sliceBounds_sound (P := P) (w := w) (isS := true) hlo hhi hc hp
          refine ⟨_, _, h, ?_, (inl_cut hx g2 g3).2.2⟩
          simp only [Instr.sliceAt, Sem.run_bind, run_underlying hu, Result.andThen_ok, Instr.slice, g1, runSz hi1, hi2, Sem.run_pure]
      · cases h
    · rename_i t'
      obtain ⟨⟨l, m⟩, hp, h⟩ := bind_some h
      cases hx
      obtain ⟨g1, g2, g3⟩ := sliceBounds_sound (P := P) (w := w) (isS := true) hlo hhi (Nat.le_refl 0) hp
      obtain rfl : m = 0 := by omega
      obtain rfl : l = 0 := by omega
      refine ⟨_, _, h, ?_, .nil⟩
      simp only [Instr.sliceAt, Sem.run_bind, run_underlying hu, Result.andThen_ok, Instr.slice, g1, runSz hi1, hi2, Sem.run_pure]
      simp
    · cases h
  · rename_i n e s hs
    obtain ⟨hu, ⟨i, hi1, hi2, _⟩, _⟩ := HT.arr t ti n e s ht hs
    split at h
    · rename_i id
      split at h
      · rename_i t' xs hsl
        split at h
        · rename_i hsame
          obtain rfl := HC.same _ _ hsame
          obtain ⟨⟨l, m⟩, hp, h⟩ := bind_some h
          split at hp
          · rename_i hn
            have hsl' := slOf_some hsl
            have ho := S.ob id
            simp only [ORel, hsl'] at ho
            cases hx with
            | eref h1 hi =>
              rw [hsl'] at h1; cases h1
              obtain ⟨g1, g2, g3⟩ := sliceBounds_sound (P := P) (w := w) (isS := false) hlo hhi (Nat.le_refl n) hp
              have hcap := ho.1
              refine ⟨_, _, h, ?_, .sub hsl' g2 (by omega) (c := n - l) (by omega) (by omega) (A := some (if n = l then at' (ρ id).block (ρ id).off else (at' (ρ id).block (ρ id).off).add (l * C.sz s))) (fun hc => ?_)⟩
              · simp only [Instr.sliceAt, Sem.run_bind, run_underlying hu, Result.andThen_ok, Instr.sureAddr, g1, runSz hi1, hi2, Sem.run_pure]
                simp [at']
              · rw [if_neg (by omega), add_at]
            | erefd hcl hin h1 => rw [h1] at hsl; cases hsl
          · cases hp
        · cases h
      · cases h
    · cases h
  · cases h

end
end Km
