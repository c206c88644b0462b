/- A part of the proof: an abstract machine over the program (sound by its theorems), or definitions printed by it. There is no condition. -/
import Derived.Test.YtpedakafdiejfaaKmNat
namespace Km
open Go
set_option linter.unusedVariables false
set_option linter.unusedSimpArgs false

variable {κ : Type} {Ty : κ → Type} {R α : Type}
section
variable {C : Cod κ Ty} {T : TypeId → Option (TI κ Ty)} {Γ : FuncId → Option (Summ κ Ty)} {objs objs' : Objs κ Ty} {env env' : Env κ Ty}

/-- the same objects at these numbers -/
def Like (l : List Nat) (objs objs' : Objs κ Ty) : Prop := ∀ id ∈ l, objs'[id]? = objs[id]?
theorem Like.sub {l m : List Nat} (h : Like l objs objs') (hm : ∀ i ∈ m, i ∈ l) : Like m objs objs' := fun id hi => h id (hm id hi)
theorem slOf_like {id : Nat} (h : objs'[id]? = objs[id]?) : slOf objs' id = slOf objs id := by unfold slOf; rw [h]
theorem boxOf_like {id : Nat} (h : objs'[id]? = objs[id]?) : boxOf objs' id = boxOf objs id := by unfold boxOf; rw [h]
theorem ids_in {v : AV κ Ty} {i : Nat} (h : i ∈ ids1 v) : i ∈ idsV v := by cases v <;> first | exact h | (simp [ids1] at h)

theorem rowsOf_like {v : AV κ Ty} (h : Like (ids1 v) objs objs') : rowsOf objs' v = rowsOf objs v := by
  cases v with
  | own id => simp only [rowsOf]; exact slOf_like (h id (by simp [ids1]))
  | sub id lo hi => simp only [rowsOf]; rw [slOf_like (h id (by simp [ids1]))]
  | _ => rfl
theorem isAddr_like {v : AV κ Ty} (h : Like (idsV v) objs objs') : isAddr objs' v = isAddr objs v := by
  cases v with
  | ref id off => simp only [isAddr]; rw [boxOf_like (h id (by simp [idsV, ids2, ids1]))]
  | eref id i off => simp only [isAddr]; rw [slOf_like (h id (by simp [idsV, ids2, ids1]))]
  | _ => rfl
theorem aload_like {ti : TI κ Ty} {v : AV κ Ty} (h : Like (idsV v) objs objs') (K : AV κ Ty → Option R) : aload C objs' ti v K = aload C objs ti v K := by
  cases v with
  | ref id off => simp only [aload]; rw [boxOf_like (h id (by simp [idsV, ids2, ids1]))]
  | eref id i off => simp only [aload]; rw [slOf_like (h id (by simp [idsV, ids2, ids1]))]
  | _ => rfl
theorem aindexAddr_like {shp : Shp κ} {x i : AV κ Ty} (h : Like (idsV x) objs objs') (K : AV κ Ty → Option R) : aindexAddr C objs' shp x i K = aindexAddr C objs shp x i K := by
  unfold aindexAddr
  split
  · split
    · split
      · rename_i id; rw [slOf_like (h id (by simp [idsV, ids2, ids1]))]
      · rfl
      · rename_i id lo hi; rw [slOf_like (h id (by simp [idsV, ids2, ids1]))]
      · rfl
    · split
      · rename_i id; rw [slOf_like (h id (by simp [idsV, ids2, ids1]))]
      · rfl
    · rfl
  · rfl
theorem aslice_like {shp : Shp κ} {x : AV κ Ty} {lo hi : Option Int} (h : Like (idsV x) objs objs') (K : AV κ Ty → Option R) : aslice C objs' shp x lo hi K = aslice C objs shp x lo hi K := by
  unfold aslice
  split
  · rfl
  · split
    · rename_i id; rw [slOf_like (h id (by simp [idsV, ids2, ids1]))]
    · rfl
    · rfl
    · rfl
  · split
    · rename_i id; rw [slOf_like (h id (by simp [idsV, ids2, ids1]))]
    · rfl
  · rfl
theorem lenOf_like {shp : Shp κ} {v : AV κ Ty} (h : Like (idsV v) objs objs') : lenOf objs' shp v = lenOf objs shp v := by
  unfold lenOf
  split
  · rfl
  · rw [rowsOf_like (h.sub fun i hi => ids_in hi)]
  · rfl
theorem prep_like {m : Mode} {v : AV κ Ty} (h : Like (ids1 v) objs objs') : prep objs' m v = prep objs m v := by
  cases m <;> simp only [prep]
  rw [rowsOf_like h]
theorem prepA_like {m : Mode} {v : AV κ Ty} (h : Like (idsV v) objs objs') : prepA objs' m v = prepA objs m v := by
  by_cases hv : ∃ cs, v = .agg cs
  · obtain ⟨cs, rfl⟩ := hv
    simp only [prepA, AV.agg.injEq]
    exact List.map_congr_left fun c hc => prep_like (h.sub fun i hi => by simp only [idsV, ids2, List.mem_flatMap]; exact ⟨c, hc, hi⟩)
  · have e : ∀ objs : Objs κ Ty, prepA objs m v = prep objs m v := fun objs => by cases v <;> first | rfl | exact absurd ⟨_, rfl⟩ hv
    rw [e, e]; exact prep_like (h.sub fun i hi => ids_in hi)
theorem prepL_like : ∀ {vs : List (AV κ Ty)} (ms : List Mode), Like (vs.flatMap idsV) objs objs' → prepL objs' vs ms = prepL objs vs ms
  | [], ms, _ => by cases ms <;> rfl
  | v :: vs, m :: ms, h => by
    simp only [prepL]
    rw [prepA_like (h.sub fun i hi => by simp [hi]), prepL_like ms (h.sub fun i hi => by simp only [List.flatMap_cons, List.mem_append]; exact .inr hi)]
  | v :: vs, [], h => by
    simp only [prepL]
    rw [prepA_like (h.sub fun i hi => by simp [hi]), prepL_like [] (h.sub fun i hi => by simp only [List.flatMap_cons, List.mem_append]; exact .inr hi)]

/-! ### what is written -/
/-- nothing changes but at these numbers, and what is new -/
def Keeps (l : List Nat) (objs objs1 : Objs κ Ty) : Prop := objs.length ≤ objs1.length ∧ ∀ id, id ∉ l → id < objs.length → objs1[id]? = objs[id]?
theorem Keeps.refl (l : List Nat) : Keeps l objs objs := ⟨Nat.le_refl _, fun _ _ _ => rfl⟩
theorem Keeps.trans {l m : List Nat} {o1 o2 : Objs κ Ty} (h : Keeps l objs o1) (h' : Keeps m o1 o2) : Keeps (l ++ m) objs o2 :=
  ⟨Nat.le_trans h.1 h'.1, fun id hn hi => by simp at hn; rw [h'.2 id hn.2 (by have := h.1; omega), h.2 id hn.1 hi]⟩
theorem Keeps.sub {l m : List Nat} {o1 : Objs κ Ty} (h : Keeps l objs o1) (hm : ∀ i ∈ l, i ∈ m) : Keeps m objs o1 := ⟨h.1, fun id hn hi => h.2 id (fun h' => hn (hm id h')) hi⟩
theorem Keeps.set {l : List Nat} {id : Nat} (h : id ∈ l) (o : AObj κ Ty) : Keeps l objs (objs.set id o) := ⟨by simp, fun k hk _ => List.getElem?_set_ne (fun e => hk (by rw [← e]; exact h))⟩
theorem Keeps.push {l : List Nat} {o1 : Objs κ Ty} (h : Keeps l objs o1) (os : List (AObj κ Ty)) : Keeps l objs (o1 ++ os) :=
  ⟨by have := h.1; simp; omega, fun id hn hi => by rw [List.getElem?_append_left (by have := h.1; omega)]; exact h.2 id hn hi⟩

theorem deepen_keeps : ∀ {ns : List (AV κ Ty)} {objs : Objs κ Ty} {K : List (AV κ Ty) → Objs κ Ty → Option R} {r : R}, deepen C objs ns K = some r → ∃ ns' o1, K ns' o1 = some r ∧ Keeps (ns.flatMap ids1) objs o1
  | [], objs, K, r, h => ⟨_, _, h, .refl _⟩
  | c :: cs, objs, K, r, h => by
    simp only [deepen] at h
    split at h
    · rename_i id
      split at h
      · obtain ⟨ns', o1, h1, h2⟩ := deepen_keeps h
        exact ⟨_, o1, h1, ((Keeps.set (l := [id]) (by simp) _).trans h2).sub (by simp [ids1])⟩
      · cases h
    · obtain ⟨ns', o1, h1, h2⟩ := deepen_keeps h
      exact ⟨_, o1, h1, h2.sub (by simp [ids1])⟩
    · obtain ⟨ns', o1, h1, h2⟩ := deepen_keeps h
      exact ⟨_, o1, h1, h2.sub (by simp [ids1])⟩
    · obtain ⟨ns', o1, h1, h2⟩ := deepen_keeps h
      exact ⟨_, o1, h1, h2.sub (by simp [ids1])⟩
    · cases h

theorem cellsOf_ids {x : AV κ Ty} {ns : List (AV κ Ty)} (h : cellsOf x = some ns) : ∀ i ∈ ns.flatMap ids1, i ∈ idsV x := by
  cases x <;> simp only [cellsOf, Option.some.injEq, reduceCtorEq] at h <;> subst h <;> intro i hi <;> first | (simp [ids1] at hi; done) | (simpa [idsV, ids2] using hi)

theorem astore_keeps {ti : TI κ Ty} {a x : AV κ Ty} {K : Objs κ Ty → Option R} {r : R} (h : astore C objs ti a x K = some r) : ∃ o1, K o1 = some r ∧ Keeps (idsV a ++ idsV x) objs o1 := by
  unfold astore at h
  split at h
  · cases h
  · rename_i ns hns
    split at h
    · cases h
    · split at h
      · split at h
        · split at h
          · exact ⟨_, h, .set (by simp [idsV, ids2, ids1]) _⟩
          · cases h
        · cases h
      · rename_i id i off
        split at h
        · obtain ⟨z, _, h⟩ := bind_some h
          obtain ⟨ns', o1, h, hk⟩ := deepen_keeps h
          split at h
          · split at h
            · split at h
              · refine ⟨_, h, ?_⟩
                refine (hk.trans (Keeps.set (l := [id]) (by simp) _)).sub ?_
                intro j hj
                simp only [List.mem_append] at hj ⊢
                rcases hj with hj | hj
                · exact .inr (cellsOf_ids hns j hj)
                · exact .inl (by simpa [idsV, ids2, ids1] using hj)
              · cases h
            · cases h
          · cases h
        · cases h
      · cases h

theorem rowsC_keeps {t : κ} : ∀ {ps : List (Nat × AV κ Ty)} {n : Nat} {objs : Objs κ Ty} {K : List (Ty t) → Objs κ Ty → Option R} {r : R}, rowsC C t objs n ps K = some r → ∃ ys o1, K ys o1 = some r ∧ Keeps (ps.flatMap fun p => idsV p.2) objs o1
  | [], n, objs, K, r, h => ⟨_, _, h, .refl _⟩
  | (i, v) :: ps, n, objs, K, r, h => by
    simp only [rowsC] at h
    split at h
    · cases h
    · split at h
      · cases h
      · rename_i ns hns
        split at h
        · cases h
        · obtain ⟨ns', o1, h, hk⟩ := deepen_keeps h
          split at h
          · obtain ⟨ys, o2, h, hk'⟩ := rowsC_keeps h
            refine ⟨_, o2, h, (hk.trans hk').sub fun i hi => ?_⟩
            simp only [List.mem_append, List.flatMap_cons] at hi ⊢
            exact hi.imp (cellsOf_ids hns i) id
          · cases h

theorem aappend_keeps {s1 : κ} {x y : AV κ Ty} {K : AV κ Ty → Objs κ Ty → Option R} {r : R} (h : aappend C objs s1 x y K = some r) : ∃ v o1, K v o1 = some r ∧ Keeps (idsV x ++ idsV y) objs o1 := by
  unfold aappend at h
  split at h
  · cases h
  · obtain ⟨ys, _, h⟩ := bind_some h
    split at h
    · obtain ⟨zs, _, h⟩ := bind_some h
      exact ⟨_, _, h, (Keeps.refl _).push _⟩
    · split at h
      · obtain ⟨_, _, h⟩ := bind_some h
        obtain ⟨zs, _, h⟩ := bind_some h
        exact ⟨_, _, h, (Keeps.set (by simp [idsV, ids2, ids1]) _).push _⟩
      · cases h
    · split at h
      · obtain ⟨_, _, h⟩ := bind_some h
        obtain ⟨zs, _, h⟩ := bind_some h
        exact ⟨_, _, h, (Keeps.set (by simp [idsV, ids2, ids1]) _).push _⟩
      · cases h
    · cases h

theorem acall_keeps {S : Summ κ Ty} {bs : List Nat} {args : List (AV κ Ty)} {K : AV κ Ty → Objs κ Ty → Option R} {r : R} (h : acall objs S bs args K = some r) :
    ∃ v o1, K v o1 = some r ∧ Keeps (reach objs (addN [] (args.flatMap idsV))) objs o1 := by
  unfold acall at h
  dsimp only at h
  split at h
  · cases h
  · obtain ⟨q, _, h⟩ := bind_some h
    refine ⟨_, _, h, Keeps.push ⟨by rw [backO_length]; exact Nat.le_refl _, fun id hn hi => backO_out _ _ _ _ _ hn⟩ _⟩

/-! ### quiet calls -/
theorem ren1_free {g g' : Nat → Option Nat} {v : AV κ Ty} (h : ids1 v = []) : ren1 g v = ren1 g' v := by cases v <;> first | rfl | (simp [ids1] at h)
theorem ren2_free {g g' : Nat → Option Nat} {v : AV κ Ty} (h : ids2 v = []) : ren2 g v = ren2 g' v := by
  by_cases hv : ∃ cs, v = .agg cs
  · obtain ⟨cs, rfl⟩ := hv
    simp only [ren2, AV.agg.injEq]
    exact List.map_congr_left fun c hc => ren1_free (by simp only [ids2, List.flatMap_eq_nil_iff] at h; exact h c hc)
  · have e : ∀ g, ren2 g v = ren1 g v := fun g => by cases v <;> first | rfl | exact absurd ⟨_, rfl⟩ hv
    rw [e, e]; exact ren1_free (by cases v <;> first | exact h | exact absurd ⟨_, rfl⟩ hv)
theorem renV_free {g g' : Nat → Option Nat} {v : AV κ Ty} (h : idsV v = []) : renV g v = renV g' v := by
  by_cases hv : ∃ vs, v = .tup vs
  · obtain ⟨vs, rfl⟩ := hv
    simp only [renV, AV.tup.injEq]
    exact List.map_congr_left fun c hc => ren2_free (by simp only [idsV, List.flatMap_eq_nil_iff] at h; exact h c hc)
  · have e : ∀ g, renV g v = ren2 g v := fun g => by cases v <;> first | rfl | exact absurd ⟨_, rfl⟩ hv
    rw [e, e]; exact ren2_free (by cases v <;> first | exact h | exact absurd ⟨_, rfl⟩ hv)

theorem isNil_iff {α : Type} {l : List α} : isNil l = true ↔ l = [] := by cases l <;> simp [isNil]

/-- a summary that says 'quiet' gives nothing of its own back -/
def QuietOk (Γ : FuncId → Option (Summ κ Ty)) : Prop := ∀ f S, Γ f = some S → S.quiet = true → ∀ r, (S.ret r).2 = [] ∧ idsV (S.ret r).1 = []

theorem acall_quiet {S : Summ κ Ty} {bs : List Nat} {args : List (AV κ Ty)} (hS : ∀ r, (S.ret r).2 = [] ∧ idsV (S.ret r).1 = []) (ha : args.flatMap idsV = []) {v : AV κ Ty} {o1 : Objs κ Ty}
    (h : (acall objs S bs args fun a b => some (a, b)) = some (v, o1)) : o1 = objs ∧ ∀ objs' : Objs κ Ty, (acall objs' S bs args fun a b => some (a, b)) = some (v, objs') := by
  have hl : ∀ objs : Objs κ Ty, reach objs (addN [] (args.flatMap idsV)) = [] := fun objs => by rw [ha]; rfl
  unfold acall at h ⊢
  simp only [hl, List.map_nil, List.length_nil, List.drop_zero] at h ⊢
  split at h
  · cases h
  · obtain ⟨q, hq, h⟩ := bind_some h
    obtain ⟨h1, h2⟩ := hS q
    simp only [h1, List.map_nil, List.append_nil, backO, Option.some.injEq, Prod.mk.injEq] at h
    refine ⟨h.2.symm, fun objs' => ?_⟩
    rename_i hd
    simp only [hd, hq, Option.bind_some, h1, List.map_nil, List.append_nil, backO, Option.some.injEq, Prod.mk.injEq, and_true]
    rw [← h.1]
    exact renV_free h2

theorem opnd_ids (ty ty' : TypeId) (x : Operand) : idsV (opnd T env ty x) = idsV (opnd T env ty' x) := by
  have key : ∀ v : Value, idsV (opnd T env ty (.const v)) = [] := fun v => by
    unfold opnd; dsimp only
    split
    · split
      · split <;> rfl
      · rfl
    · rfl
    · rfl
    · rfl
  have key' : ∀ v : Value, idsV (opnd T env ty' (.const v)) = [] := fun v => by
    unfold opnd; dsimp only
    split
    · split
      · split <;> rfl
      · rfl
    · rfl
    · rfl
    · rfl
  cases x with
  | const v => rw [key, key']
  | _ => rfl
theorem partsOf_ids (f g : Nat → TypeId) : ∀ (ps : List (Nat × Operand)), ((partsOf T env f ps).flatMap fun p => idsV p.2) = (partsOf T env g ps).flatMap fun p => idsV p.2
  | [] => rfl
  | (i, x) :: ps => by simp only [partsOf, List.flatMap_cons, partsOf_ids f g ps, opnd_ids (f i) (g i) x]

end
end Km
