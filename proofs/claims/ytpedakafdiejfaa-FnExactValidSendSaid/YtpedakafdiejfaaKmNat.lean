/- A part of the proof: an abstract machine over the program (sound by its theorems), or definitions printed by it. There is no condition. -/
import Derived.Test.YtpedakafdiejfaaKmShrink
namespace Km
open Go
set_option linter.unusedVariables false
set_option linter.unusedSimpArgs false

variable {κ : Type} {Ty : κ → Type} {R α : Type}
section
variable {C : Cod κ Ty} {T : TypeId → Option (TI κ Ty)} {Γ : FuncId → Option (Summ κ Ty)} {objs objs' : Objs κ Ty} {env env' : Env κ Ty}

/-! ### what comes behind an operation has no hand in it -/
theorem ifB_nat (b : Bool) (K : Bool → Option α) (F : α → Option R) : ifB b (fun t => (K t).bind F) = (ifB b K).bind F := by cases b <;> rfl
theorem ibin_nat (op : BinOp) (k : IntKind) (a b : Int) (K : Value → Option α) (F : α → Option R) : ibin op k a b (fun v => (K v).bind F) = (ibin op k a b K).bind F := by
  cases op <;> simp [ibin, Option.bind_assoc]
theorem sbin_nat (op : BinOp) (a b : ByteArray) (K : Value → Option α) (F : α → Option R) : sbin op a b (fun v => (K v).bind F) = (sbin op a b K).bind F := by
  cases op <;> simp [sbin, Option.bind_assoc]
theorem vbin_nat (ti : TI κ Ty) (op : BinOp) (x y : AV κ Ty) (K : AV κ Ty → Option α) (F : α → Option R) : vbin ti op x y (fun v => (K v).bind F) = (vbin ti op x y K).bind F := by
  unfold vbin
  split
  · split
    · rw [Option.bind_assoc]
    · rfl
  · split
    · rw [Option.bind_assoc]
    · rfl
  · split
    · split
      · exact ibin_nat _ _ _ _ _ _
      · rfl
    · exact sbin_nat _ _ _ _ _
    · split
      · split <;> rfl
      · rfl
    · rfl
theorem aload_nat (ti : TI κ Ty) (a : AV κ Ty) (K : AV κ Ty → Option α) (F : α → Option R) : aload C objs ti a (fun v => (K v).bind F) = (aload C objs ti a K).bind F := by
  unfold aload
  split
  · split
    · split <;> rfl
    · rfl
  · split
    · rename_i s xs h
      rw [Option.bind_assoc]
      congr 1; funext x
      split <;> rfl
    · rfl
  · split <;> rfl
  · rfl
theorem deepen_nat : ∀ (ns : List (AV κ Ty)) (objs : Objs κ Ty) (K : List (AV κ Ty) → Objs κ Ty → Option α) (F : α → Option R), deepen C objs ns (fun a b => (K a b).bind F) = (deepen C objs ns K).bind F
  | [], objs, K, F => rfl
  | c :: cs, objs, K, F => by
    cases c <;> simp only [deepen] <;> first
      | rfl
      | exact deepen_nat cs _ _ _
      | (split
         · exact deepen_nat cs _ _ _
         · rfl)
theorem astore_nat (ti : TI κ Ty) (a x : AV κ Ty) (K : Objs κ Ty → Option α) (F : α → Option R) : astore C objs ti a x (fun v => (K v).bind F) = (astore C objs ti a x K).bind F := by
  unfold astore
  split
  · rfl
  · split
    · rfl
    · split
      · split
        · split <;> rfl
        · rfl
      · split
        · rw [Option.bind_assoc]
          congr 1; funext z
          rw [← deepen_nat]
          congr 1; funext p q
          split
          · split
            · split <;> rfl
            · rfl
          · rfl
        · rfl
      · rfl
theorem aindexAddr_nat (shp : Shp κ) (x i : AV κ Ty) (K : AV κ Ty → Option α) (F : α → Option R) : aindexAddr C objs shp x i (fun v => (K v).bind F) = (aindexAddr C objs shp x i K).bind F := by
  unfold aindexAddr
  split
  · split
    · split
      · split
        · split
          · rw [Option.bind_assoc]
          · rfl
        · rfl
      · split
        · rw [Option.bind_assoc]
        · rfl
      · split
        · split
          · rw [Option.bind_assoc]
          · rfl
        · rfl
      · rfl
    · split
      · split
        · split
          · rw [Option.bind_assoc]
          · rfl
        · rfl
      · rfl
    · rfl
  · rfl
theorem aslice_nat (shp : Shp κ) (x : AV κ Ty) (lo hi : Option Int) (K : AV κ Ty → Option α) (F : α → Option R) : aslice C objs shp x lo hi (fun v => (K v).bind F) = (aslice C objs shp x lo hi K).bind F := by
  unfold aslice
  split
  · split
    · rw [Option.bind_assoc]
    · rfl
  · split
    · split
      · split
        · rw [Option.bind_assoc]
        · rfl
      · rfl
    · split
      · rw [Option.bind_assoc]
      · rfl
    · rw [Option.bind_assoc]
    · rfl
  · split
    · split
      · split
        · rw [Option.bind_assoc]
        · rfl
      · rfl
    · rfl
  · rfl
theorem rowsC_nat (t : κ) : ∀ (ps : List (Nat × AV κ Ty)) (n : Nat) (objs : Objs κ Ty) (K : List (Ty t) → Objs κ Ty → Option α) (F : α → Option R), rowsC C t objs n ps (fun a b => (K a b).bind F) = (rowsC C t objs n ps K).bind F
  | [], n, objs, K, F => rfl
  | (i, v) :: ps, n, objs, K, F => by
    simp only [rowsC]
    split
    · rfl
    · split
      · rfl
      · split
        · rfl
        · rw [← deepen_nat]
          congr 1; funext p q
          split
          · exact rowsC_nat t ps _ _ _ _
          · rfl
theorem aappend_nat (s1 : κ) (x y : AV κ Ty) (K : AV κ Ty → Objs κ Ty → Option α) (F : α → Option R) : aappend C objs s1 x y (fun a b => (K a b).bind F) = (aappend C objs s1 x y K).bind F := by
  unfold aappend
  split
  · rfl
  · rw [Option.bind_assoc]
    congr 1; funext ys
    split
    · rw [Option.bind_assoc]
    · split
      · simp only [Option.bind_assoc]
      · rfl
    · split
      · simp only [Option.bind_assoc]
      · rfl
    · rfl
theorem acall_nat (S : Summ κ Ty) (bs : List Nat) (args : List (AV κ Ty)) (K : AV κ Ty → Objs κ Ty → Option α) (F : α → Option R) : acall objs S bs args (fun a b => (K a b).bind F) = (acall objs S bs args K).bind F := by
  unfold acall
  dsimp only
  split
  · rfl
  · rw [Option.bind_assoc]

theorem aop_nat (o : Oper) (K : AV κ Ty → Objs κ Ty → Option α) (F : α → Option R) : aop C T Γ o env objs (fun a b => (K a b).bind F) = (aop C T Γ o env objs K).bind F := by
  unfold aop
  split
  · rfl
  · rfl
  · split
    · exact ifB_nat _ _ _
    · rfl
  · split
    · split
      · split
        · split <;> rfl
        · rfl
      · rfl
    · rfl
  · split <;> rfl
  · split
    · split
      · split <;> rfl
      · rfl
    · rfl
  · split
    · split
      · split
        · exact rowsC_nat _ _ _ _ _ _
        · rfl
      · rfl
    · rfl
  · split
    · exact aload_nat _ _ _ _
    · rfl
  · split
    · exact astore_nat _ _ _ _ _
    · rfl
  · split <;> rfl
  · split
    · exact vbin_nat _ _ _ _ _ _
    · rfl
  · split
    · split <;> rfl
    · rfl
  · split
    · split
      · split <;> rfl
      · split
        · split
          · split
            · split
              · split <;> rfl
              · rfl
            · rfl
          · rfl
        · rfl
      · rfl
    · rfl
  · split
    · split
      · split
        · split
          · rw [Option.bind_assoc]
            congr 1; funext m
            split <;> rfl
          · rfl
        · rfl
      · rfl
    · rfl
  · split
    · split
      · split
        · exact aslice_nat _ _ _ _ _ _
        · rfl
      · rfl
    · rfl
  · split
    · split
      · split <;> rfl
      · rfl
    · rfl
  · split
    · split
      · split
        · split
          · split <;> rfl
          · rfl
        · rfl
      · rfl
    · rfl
  · split
    · exact aindexAddr_nat _ _ _ _ _
    · rfl
  · split
    · split
      · split
        · rw [Option.bind_assoc]
        · rfl
      · rfl
    · rfl
  · split
    · split <;> rfl
    · rfl
  · split
    · split
      · split
        · split
          · split <;> rfl
          · rfl
        · rfl
      · split
        · split
          · split
            · exact aappend_nat _ _ _ _ _
            · rfl
          · rfl
        · rfl
      · rfl
    · split
      · exact acall_nat _ _ _ _ _
      · rfl
    · rfl
  · rfl

/-- what an operation gives -/
abbrev aval (C : Cod κ Ty) (T : TypeId → Option (TI κ Ty)) (Γ : FuncId → Option (Summ κ Ty)) (o : Oper) (env : Env κ Ty) (objs : Objs κ Ty) : Option (AV κ Ty × Objs κ Ty) := aop C T Γ o env objs fun a b => some (a, b)
theorem aop_bind (o : Oper) (K : AV κ Ty → Objs κ Ty → Option R) : aop C T Γ o env objs K = (aval C T Γ o env objs).bind fun p => K p.1 p.2 := aop_nat o (fun a b => some (a, b)) fun (p : AV κ Ty × Objs κ Ty) => K p.1 p.2
theorem aop_det {o : Oper} {K : AV κ Ty → Objs κ Ty → Option R} {r : R} (h : aop C T Γ o env objs K = some r) : ∃ v objs1, aval C T Γ o env objs = some (v, objs1) ∧ K v objs1 = some r := by
  rw [aop_bind] at h
  cases hv : aval C T Γ o env objs with
  | none => rw [hv] at h; cases h
  | some p => rw [hv] at h; exact ⟨p.1, p.2, rfl, h⟩

/-! ### and it looks at nothing but its operands -/
def Agree (xs : List Operand) (env env' : Env κ Ty) : Prop := ∀ t, .tmp t ∈ xs → look env' t = look env t
theorem opnd_agree {xs : List Operand} (h : Agree xs env env') (ty : TypeId) {x : Operand} (hx : x ∈ xs) : opnd T env' ty x = opnd T env ty x := by
  cases x with
  | tmp t => exact h t hx
  | _ => rfl
theorem partsOf_agree {xs : List Operand} (h : Agree xs env env') (ty : Nat → TypeId) : ∀ (ps : List (Nat × Operand)), (∀ p ∈ ps, p.2 ∈ xs) → partsOf T env' ty ps = partsOf T env ty ps
  | [], _ => rfl
  | (i, x) :: ps, hp => by simp only [partsOf]; rw [opnd_agree h _ (hp (i, x) (by simp)), partsOf_agree h ty ps (fun p m => hp p (by simp [m]))]
theorem opnds_agree {xs : List Operand} (h : Agree xs env env') : ∀ (as : List Operand) (ts : List TypeId), (∀ a ∈ as, a ∈ xs) → opnds T env' as ts = opnds T env as ts
  | [], ts, _ => by simp [opnds]
  | a :: as, [], _ => by simp [opnds]
  | a :: as, t :: ts, hp => by simp only [opnds]; rw [opnd_agree h _ (hp a (by simp)), opnds_agree h as ts (fun p m => hp p (by simp [m]))]

theorem aop_agree {o : Oper} (h : Agree o.op.operands.toList env env') (K : AV κ Ty → Objs κ Ty → Option R) : aop C T Γ o env' objs K = aop C T Γ o env objs K ∧ footOf T Γ o env' objs = footOf T Γ o env objs := by
  have E : ∀ ty x, x ∈ o.op.operands.toList → opnd T env' ty x = opnd T env ty x := fun ty x hx => opnd_agree h ty hx
  obtain ⟨dst, op, type, pos, after, guard⟩ := o
  simp only at E h
  cases op with
  | move x => simp only [aop, footOf, E type x (by simp [Op.operands])] <;> first | exact ⟨rfl, rfl⟩ | trivial
  | assign x => simp only [aop, footOf, E type x (by simp [Op.operands])] <;> first | exact ⟨rfl, rfl⟩ | trivial
  | pick c a b => simp only [aop, footOf, E _ c (by simp [Op.operands]), E _ a (by simp [Op.operands]), E _ b (by simp [Op.operands])] <;> first | exact ⟨rfl, rfl⟩ | trivial
  | alloc t => exact ⟨rfl, rfl⟩
  | box t x => simp only [aop, footOf, E _ x (by simp [Op.operands])] <;> first | exact ⟨rfl, rfl⟩ | trivial
  | build t ps =>
    have := fun ty => partsOf_agree (T := T) h ty ps.toList (fun p hp => by simp only [Op.operands, Array.toList_map, List.mem_map]; exact ⟨p, hp, rfl⟩)
    simp only [aop, footOf, this] <;> first | exact ⟨rfl, rfl⟩ | trivial
  | buildSlice t n ps =>
    have := fun ty => partsOf_agree (T := T) h ty ps.toList (fun p hp => by simp only [Op.operands, Array.toList_map, List.mem_map]; exact ⟨p, hp, rfl⟩)
    simp only [aop, footOf, this] <;> first | exact ⟨rfl, rfl⟩ | trivial
  | load t x => simp only [aop, footOf, opIds, E _ x (by simp [Op.operands])] <;> first | exact ⟨rfl, rfl⟩ | trivial
  | store t x y => simp only [aop, footOf, opIds, E _ x (by simp [Op.operands]), E _ y (by simp [Op.operands])] <;> first | exact ⟨rfl, rfl⟩ | trivial
  | nilCheck x => simp only [aop, footOf, opIds, E _ x (by simp [Op.operands])] <;> first | exact ⟨rfl, rfl⟩ | trivial
  | binOp op t x y z => simp only [aop, footOf, opIds, E _ x (by simp [Op.operands]), E _ y (by simp [Op.operands])] <;> first | exact ⟨rfl, rfl⟩ | trivial
  | unOp op t x => simp only [aop, footOf, opIds, E _ x (by simp [Op.operands])] <;> first | exact ⟨rfl, rfl⟩ | trivial
  | convert s d x => simp only [aop, footOf, opIds, E _ x (by simp [Op.operands])] <;> first | exact ⟨rfl, rfl⟩ | trivial
  | makeSlice t x y => simp only [aop, footOf, opIds, E _ x (by simp [Op.operands]), E _ y (by simp [Op.operands])] <;> first | exact ⟨rfl, rfl⟩ | trivial
  | slice t x lo hi mx =>
    have e1 := E t x (by simp [Op.operands])
    have e2 : ∀ l, lo = some l → opnd T env' 0 l = opnd T env 0 l := fun l hl => E _ l (by subst hl; simp [Op.operands])
    have e3 : ∀ l, hi = some l → opnd T env' 0 l = opnd T env 0 l := fun l hl => E _ l (by subst hl; simp [Op.operands])
    simp only [aop, footOf, opIds, e1]
    refine ⟨?_, trivial⟩
    cases lo <;> cases hi <;> cases mx <;> simp [e2, e3]
  | fieldAddr s x f => simp only [aop, footOf, opIds, E _ x (by simp [Op.operands])] <;> first | exact ⟨rfl, rfl⟩ | trivial
  | field s x f => simp only [aop, footOf, opIds, E _ x (by simp [Op.operands])] <;> first | exact ⟨rfl, rfl⟩ | trivial
  | indexAddr t x y => simp only [aop, footOf, opIds, E _ x (by simp [Op.operands]), E _ y (by simp [Op.operands])] <;> first | exact ⟨rfl, rfl⟩ | trivial
  | index t x y => simp only [aop, footOf, opIds, E _ x (by simp [Op.operands]), E _ y (by simp [Op.operands])] <;> first | exact ⟨rfl, rfl⟩ | trivial
  | extract x i => simp only [aop, footOf, opIds, E _ x (by simp [Op.operands])] <;> first | exact ⟨rfl, rfl⟩ | trivial
  | call c =>
    have e0 : ∀ a ∈ c.args.toList, a ∈ (Op.call c).operands.toList := fun a ha => by simp only [Op.operands, Call.operands]; simp; exact .inr (by simpa using ha)
    have e1 := opnds_agree (T := T) h c.args.toList c.argTypes.toList e0
    simp only [aop, footOf, e1]
    refine ⟨?_, trivial⟩
    cases hc : c.callee with
    | builtin b =>
      cases b <;> try rfl
      · clear e1
        revert e0
        generalize c.args.toList = A
        generalize c.argTypes.toList = B
        intro e0
        rcases A with _ | ⟨x, _ | ⟨y, _ | ⟨z, A⟩⟩⟩ <;> rcases B with _ | ⟨t1, _ | ⟨t2, _ | ⟨t3, B⟩⟩⟩ <;> try rfl
        dsimp only
        rw [E t1 x (e0 x (by simp)), E t2 y (e0 y (by simp))]
      · clear e1
        revert e0
        generalize c.args.toList = A
        generalize c.argTypes.toList = B
        intro e0
        rcases A with _ | ⟨x, _ | ⟨y, A⟩⟩ <;> rcases B with _ | ⟨t1, _ | ⟨t2, B⟩⟩ <;> try rfl
        dsimp only
        rw [E t1 x (e0 x (by simp))]
    | value f => cases f <;> rfl
    | invoke r m => rfl
  | _ => exact ⟨rfl, rfl⟩

end
end Km
