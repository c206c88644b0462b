/- A part of the proof: an abstract machine over the program (sound by its theorems), or definitions printed by it. There is no condition. -/
import Derived.Test.YtpedakafdiejfaaKmFrame
namespace Km
open Go
set_option linter.unusedVariables false
set_option linter.unusedSimpArgs false

variable {κ : Type} {Ty : κ → Type} {R α : Type}
section
variable {C : Cod κ Ty} {T : TypeId → Option (TI κ Ty)} {Γ : FuncId → Option (Summ κ Ty)} {objs objs' : Objs κ Ty} {env env' : Env κ Ty}

theorem opnds_ids : ∀ (xs : List Operand) (ts : List TypeId), (opnds T env xs ts).flatMap idsV = (opnds T env xs ts).flatMap idsV := fun _ _ => rfl

/-- what an operation leaves as it was, and what it may be moved past -/
def Framed (C : Cod κ Ty) (T : TypeId → Option (TI κ Ty)) (Γ : FuncId → Option (Summ κ Ty)) (o : Oper) (env : Env κ Ty) (objs : Objs κ Ty) (v : AV κ Ty) (o1 : Objs κ Ty) : Prop :=
  Keeps (footOf T Γ o env objs).writes objs o1 ∧
  ((footOf T Γ o env objs).loud = false → o1 = objs ∧ ∀ objs' : Objs κ Ty, Like (footOf T Γ o env objs).reads objs objs' → aval C T Γ o env objs' = some (v, objs') ∧ footOf T Γ o env objs' = footOf T Γ o env objs)

theorem framed_read {o : Oper} {v : AV κ Ty} {o1 : Objs κ Ty} {l : List Nat} (hf : ∀ objs, footOf T Γ o env objs = ⟨false, l, []⟩)
    (hk : ∀ (objs : Objs κ Ty) (K : AV κ Ty → Objs κ Ty → Option (AV κ Ty × Objs κ Ty)), aop C T Γ o env objs K = aop C T Γ o env objs fun v _ => K v objs)
    (hl : ∀ objs', Like l objs objs' → aop C T Γ o env objs' (fun v _ => some v) = aop C T Γ o env objs (fun v _ => some v)) (h : aval C T Γ o env objs = some (v, o1)) : Framed C T Γ o env objs v o1 := by
  have hn : ∀ objs : Objs κ Ty, aval C T Γ o env objs = (aop C T Γ o env objs fun v _ => some v).map fun v => (v, objs) := fun objs => by
    rw [aval, hk, Option.map_eq_bind]
    exact aop_nat o (fun v _ => some v) fun v => some (v, objs)
  rw [hn] at h
  simp only [Option.map_eq_some_iff, Prod.mk.injEq] at h
  obtain ⟨v', h1, rfl, rfl⟩ := h
  refine ⟨.refl _, fun _ => ⟨rfl, fun objs' hlk => ⟨?_, by rw [hf, hf]⟩⟩⟩
  rw [hf] at hlk
  rw [hn, hl _ hlk, h1]; rfl

theorem framed_pure {o : Oper} {v : AV κ Ty} {o1 : Objs κ Ty} {l : List Nat} (hf : ∀ objs, footOf T Γ o env objs = ⟨false, l, []⟩)
    (hk : ∀ (objs : Objs κ Ty) (K : AV κ Ty → Objs κ Ty → Option (AV κ Ty × Objs κ Ty)), aop C T Γ o env objs K = aop C T Γ o env objs fun v _ => K v objs)
    (hl : ∀ objs', aop C T Γ o env objs' (fun v _ => some v) = aop C T Γ o env objs (fun v _ => some v)) (h : aval C T Γ o env objs = some (v, o1)) : Framed C T Γ o env objs v o1 := framed_read hf hk (fun o' _ => hl o') h

theorem framed_loud {o : Oper} {v : AV κ Ty} {o1 : Objs κ Ty} (hf : (footOf T Γ o env objs).loud = true) (hk : Keeps (footOf T Γ o env objs).writes objs o1) : Framed C T Γ o env objs v o1 :=
  ⟨hk, fun h => by rw [hf] at h; cases h⟩

theorem aop_frame (hQ : QuietOk Γ) {o : Oper} {v : AV κ Ty} {o1 : Objs κ Ty} (h : aval C T Γ o env objs = some (v, o1)) : Framed C T Γ o env objs v o1 := by
  obtain ⟨dst, op, type, pos, after, guard⟩ := o
  cases op with
  | move x => exact framed_pure (fun _ => rfl) (fun _ _ => rfl) (fun _ => rfl) h
  | assign x => exact framed_pure (fun _ => rfl) (fun _ _ => rfl) (fun _ => rfl) h
  | pick c a b => exact framed_pure (fun _ => rfl) (fun _ _ => rfl) (fun _ => rfl) h
  | alloc t =>
    refine framed_loud rfl ?_
    simp only [aval, aop] at h
    split at h
    · split at h
      · split at h
        · split at h
          · cases h; exact (Keeps.refl _).push _
          · cases h
        · cases h
      · cases h; exact (Keeps.refl _).push _
    · cases h
  | box t x =>
    refine framed_loud rfl ?_
    simp only [aval, aop] at h
    split at h
    · cases h; exact (Keeps.refl _).push _
    · cases h
  | build t ps => exact framed_pure (fun _ => rfl) (fun _ _ => rfl) (fun _ => rfl) h
  | buildSlice t n ps =>
    refine framed_loud rfl ?_
    simp only [aval, aop] at h
    split at h
    · split at h
      · rename_i e s _
        split at h
        · obtain ⟨ys, o2, h, hk⟩ := rowsC_keeps h
          cases h
          refine Keeps.push (hk.sub fun i hi => ?_) _
          simp only [footOf]
          rw [partsOf_ids (fun _ => 0) (fun _ => e)]; exact hi
        · cases h
      · cases h
    · cases h
  | load t a =>
    refine framed_read (l := opIds T env 0 a) (fun _ => rfl) (fun _ _ => rfl) (fun o' hl => ?_) h
    simp only [aop]
    split
    · exact aload_like hl _
    · rfl
  | store t a x =>
    refine framed_loud rfl ?_
    simp only [aval, aop] at h
    split at h
    · obtain ⟨o2, h, hk⟩ := astore_keeps h
      cases h; exact hk
    · cases h
  | nilCheck x =>
    refine framed_read (l := opIds T env type x) (fun _ => rfl) (fun _ _ => rfl) (fun o' hl => ?_) h
    simp only [aop]
    rw [isAddr_like hl]
  | binOp op t x y z => exact framed_pure (fun _ => rfl) (fun _ _ => rfl) (fun _ => rfl) h
  | unOp op t x => exact framed_pure (fun _ => rfl) (fun _ _ => rfl) (fun _ => rfl) h
  | convert s d x =>
    refine framed_read (l := opIds T env type x) (fun _ => rfl) (fun _ _ => rfl) (fun o' hl => ?_) h
    have e := rowsOf_like (hl.sub fun i hi => ids_in hi)
    simp only [aop]
    split
    · split
      · rfl
      · rw [e]
      · rfl
    · rfl
  | makeSlice t n c =>
    refine framed_loud rfl ?_
    simp only [aval, aop] at h
    split at h
    · split at h
      · split at h
        · split at h
          · obtain ⟨m, _, h⟩ := bind_some h
            split at h
            · cases h; exact (Keeps.refl _).push _
            · cases h
          · cases h
        · cases h
      · cases h
    · cases h
  | slice t x lo hi mx =>
    refine framed_read (l := opIds T env t x) (fun _ => rfl) (fun _ _ => rfl) (fun o' hl => ?_) h
    simp only [aop]
    split
    · split
      · split
        · exact aslice_like hl _
        · rfl
      · rfl
    · rfl
  | fieldAddr s x f =>
    refine framed_read (l := opIds T env 0 x) (fun _ => rfl) (fun _ _ => rfl) (fun o' hl => ?_) h
    simp only [aop]
    rw [isAddr_like hl]
  | field s x f => exact framed_pure (fun _ => rfl) (fun _ _ => rfl) (fun _ => rfl) h
  | indexAddr t x i =>
    refine framed_read (l := opIds T env t x) (fun _ => rfl) (fun _ _ => rfl) (fun o' hl => ?_) h
    simp only [aop]
    split
    · exact aindexAddr_like hl _
    · rfl
  | index t x i => exact framed_pure (fun _ => rfl) (fun _ _ => rfl) (fun _ => rfl) h
  | extract x i => exact framed_pure (fun _ => rfl) (fun _ _ => rfl) (fun _ => rfl) h
  | call c =>
    simp only [aval, aop] at h
    split at h
    · rename_i b hb
      split at h
      · -- len
        have hf : ∀ objs : Objs κ Ty, footOf T Γ ⟨dst, .call c, type, pos, after, guard⟩ env objs = ⟨false, (opnds T env c.args.toList c.argTypes.toList).flatMap idsV, []⟩ := fun objs => by simp [footOf, hb]
        split at h
        · rename_i x t hx ht
          refine framed_read hf (fun _ _ => by simp only [aop, hb, hx, ht]) (fun o' hl => ?_) (by simpa only [aval, aop, hb, hx, ht] using h)
          simp only [aop, hb, hx, ht]
          split
          · rw [lenOf_like (hl.sub fun i hi => by simp only [hx, ht, opnds, List.flatMap_cons, List.mem_append]; exact .inl hi)]
          · rfl
        · cases h
      · -- append
        have hf : ∀ objs : Objs κ Ty, footOf T Γ ⟨dst, .call c, type, pos, after, guard⟩ env objs = ⟨true, (opnds T env c.args.toList c.argTypes.toList).flatMap idsV, (opnds T env c.args.toList c.argTypes.toList).flatMap idsV⟩ := fun objs => by simp [footOf, hb]
        refine framed_loud (by rw [hf]) ?_
        rw [hf]
        split at h
        · rename_i x y t1 t2 hx ht
          split at h
          · split at h
            · obtain ⟨v', o2, h, hk⟩ := aappend_keeps h
              cases h
              exact hk.sub fun i hi => by simpa [hx, ht, opnds] using hi
            · cases h
          · cases h
        · cases h
      · cases h
    · rename_i f hf
      split at h
      · rename_i S hlen hΓ
        by_cases hq : S.quiet && isNil ((prepL objs (opnds T env c.args.toList c.argTypes.toList) S.modes).flatMap idsV)
        · have hft : footOf T Γ ⟨dst, .call c, type, pos, after, guard⟩ env objs = ⟨false, (opnds T env c.args.toList c.argTypes.toList).flatMap idsV, []⟩ := by simp only [footOf, hf, hΓ, hq]
          simp only [Bool.and_eq_true] at hq
          obtain ⟨k1, k2⟩ := acall_quiet (hQ f S hΓ hq.1) (isNil_iff.mp hq.2) h
          subst k1
          refine ⟨.refl _, fun _ => ⟨rfl, fun objs' hl => ?_⟩⟩
          rw [hft] at hl
          have hp := prepL_like S.modes hl
          refine ⟨?_, ?_⟩
          · simp only [aval, aop, hf, hlen, hΓ, hp]; exact k2 objs'
          · rw [hft]; simp only [footOf, hf, hΓ, hp, hq, Bool.and_true]
        · have hq' : (S.quiet && isNil ((prepL objs (opnds T env c.args.toList c.argTypes.toList) S.modes).flatMap idsV)) = false := by simpa using hq
          refine framed_loud (by simp only [footOf, hf, hΓ, hq']) ?_
          obtain ⟨v', o2, h, hk⟩ := acall_keeps h
          cases h
          simp only [footOf, hf, hΓ, hq']
          exact hk
      · cases h
    · cases h
  | _ => simp [aval, aop] at h

end
end Km
