/- A part of the proof: an abstract machine over the program (sound by its theorems), or definitions printed by it. There is no condition. -/
import Derived.Test.YtpedakafdiejfaaKmSwap
namespace Km
open Go
set_option linter.unusedVariables false
set_option linter.unusedSimpArgs false

variable {κ : Type} {Ty : κ → Type} {R α : Type}
section
variable {P : Program} {C : Cod κ Ty} {T : TypeId → Option (TI κ Ty)} {Γ : FuncId → Option (Summ κ Ty)} {objs objs' : Objs κ Ty} {env env' : Env κ Ty}
variable {Mut : Nat → Prop} {Lent : Org κ Ty} {w0 w w' : World} {ρ ρ' ρ2 : Nat → Loc} {a : Act} {tm : Array Value} {all : Array Oper}

/-- an operation with its guard does this -/
def Does (C : Cod κ Ty) (T : TypeId → Option (TI κ Ty)) (Γ : FuncId → Option (Summ κ Ty)) (all : Array Oper) (o : Oper) (env : Env κ Ty) (objs : Objs κ Ty) (v : AV κ Ty) (o1 : Objs κ Ty) : Prop :=
  match o.guard with
  | none => aval C T Γ o env objs = some (v, o1)
  | some (j, want) => match (all[j]?).bind (·.dst) with
    | none => False
    | some d => (∃ b, look env d = .lit (.bool b) ∧ ((eqB b want = true ∧ aval C T Γ o env objs = some (v, o1)) ∨ (eqB b want = false ∧ v = .void ∧ o1 = objs))) ∨ (look env d = .void ∧ v = .void ∧ o1 = objs)

theorem look_know {d : Nat} {x : AV κ Ty} (h : look env d = x) (t : Nat) : look ((d, x) :: env) t = look env t := by
  rw [look_cons]; split
  · rename_i e; rw [e, h]
  · rfl
theorem put_look {o : Oper} {v : AV κ Ty} (h : ∀ t, look env' t = look env t) (t : Nat) : look (put o env' v) t = look (put o env v) t := by
  unfold put
  cases o.dst with
  | none => exact h t
  | some d => simp only [look_cons, h]
theorem agree_of_look {xs : List Operand} (h : ∀ t, look env' t = look env t) : Agree xs env env' := fun t _ => h t

theorem aval_look {o : Oper} (h : ∀ t, look env' t = look env t) : aval C T Γ o env' objs = aval C T Γ o env objs := (aop_agree (agree_of_look h) _).1

theorem astep_does {o : Oper} {K : Env κ Ty → Objs κ Ty → Option R} {r : R} (h : astep C T Γ all o env objs K = some r) :
    ∃ v o1 env1, Does C T Γ all o env objs v o1 ∧ K env1 o1 = some r ∧ ∀ t, look env1 t = look (put o env v) t := by
  unfold astep at h
  unfold Does
  split at h
  · rename_i hg
    obtain ⟨v, o1, h1, h2⟩ := aop_det h
    exact ⟨v, o1, _, by rw [hg]; exact h1, h2, fun t => rfl⟩
  · rename_i j want hg
    split at h
    · cases h
    · rename_i d hd
      split at h
      · rename_i b hb
        have h := ifB_some h
        split at h
        · rename_i he
          obtain ⟨v, o1, h1, h2⟩ := aop_det h
          rw [aval_look (look_know hb)] at h1
          refine ⟨v, o1, _, ?_, h2, put_look (look_know hb)⟩
          rw [hg]; dsimp only; rw [hd]
          exact .inl ⟨b, hb, .inl ⟨he, h1⟩⟩
        · rename_i he
          refine ⟨_, _, _, ?_, h, put_look (look_know hb)⟩
          rw [hg]; dsimp only; rw [hd]
          exact .inl ⟨b, hb, .inr ⟨he, rfl, rfl⟩⟩
      · rename_i hb
        refine ⟨_, _, _, ?_, h, fun t => rfl⟩
        rw [hg]; dsimp only; rw [hd]
        exact .inr ⟨hb, rfl, rfl⟩
      · cases h
theorem does_astep {o : Oper} {v : AV κ Ty} {o1 : Objs κ Ty} (h : Does C T Γ all o env objs v o1) :
    ∃ env1, (∀ t, look env1 t = look (put o env v) t) ∧ (astep C T Γ all o env objs fun e o => some (e, o)) = some (env1, o1) := by
  unfold Does at h
  unfold astep
  split at h
  · rename_i hg
    rw [hg]
    refine ⟨_, fun t => rfl, ?_⟩
    dsimp only
    rw [aop_bind, h]; rfl
  · rename_i j want hg
    split at h
    · exact h.elim
    · rename_i d hd
      rw [hg]; dsimp only; rw [hd]; dsimp only
      rcases h with ⟨b, hb, ⟨he, h⟩ | ⟨he, rfl, rfl⟩⟩ | ⟨hb, rfl, rfl⟩
      · refine ⟨put o ((d, .lit (.bool b)) :: env) v, put_look (look_know hb), ?_⟩
        rw [hb]; dsimp only
        have : ∀ K : Bool → Option (Env κ Ty × Objs κ Ty), ifB b K = K b := fun K => by cases b <;> rfl
        rw [this, he]; dsimp only
        rw [aop_bind, aval_look (look_know hb), h]; rfl
      · refine ⟨put o ((d, .lit (.bool b)) :: env) .void, put_look (look_know hb), ?_⟩
        rw [hb]; dsimp only
        have : ∀ K : Bool → Option (Env κ Ty × Objs κ Ty), ifB b K = K b := fun K => by cases b <;> rfl
        rw [this, he]
      · refine ⟨put o env .void, fun t => rfl, ?_⟩
        rw [hb]

/-- two environments alike where an operation looks -/
def AgreeO (all : Array Oper) (o : Oper) (env env' : Env κ Ty) : Prop := ∀ t ∈ o.looksAt all, look env' t = look env t
theorem AgreeO.ops {o : Oper} (h : AgreeO all o env env') : Agree o.op.operands.toList env env' := fun t ht => h t (by
  simp only [Oper.looksAt, List.mem_append]
  exact .inl (List.mem_filterMap.mpr ⟨_, ht, rfl⟩))
theorem does_agree {o : Oper} {v : AV κ Ty} {o1 : Objs κ Ty} (h : AgreeO all o env env') (hd : Does C T Γ all o env objs v o1) : Does C T Γ all o env' objs v o1 := by
  have ha : aval C T Γ o env' objs = aval C T Γ o env objs := (aop_agree h.ops _).1
  unfold Does at hd ⊢
  split at hd
  · rw [ha]; exact hd
  · rename_i j want hg
    split at hd
    · exact hd.elim
    · rename_i d hdst
      have hl : look env' d = look env d := h d (by simp only [Oper.looksAt, hg, hdst, List.mem_append]; exact .inr (by simp))
      rw [hl, ha]; exact hd
theorem foot_agree (C : Cod κ Ty) {o : Oper} (h : AgreeO all o env env') : footG T Γ all o env' objs = footG T Γ all o env objs := by
  have ha : footOf T Γ o env' objs = footOf T Γ o env objs := (aop_agree (C := C) (R := Unit) h.ops fun _ _ => none).2
  unfold footG
  split
  · exact ha
  · rename_i j want hg
    split
    · rfl
    · rename_i d hdst
      have hl : look env' d = look env d := h d (by simp only [Oper.looksAt, hg, hdst, List.mem_append]; exact .inr (by simp))
      rw [hl, ha]

theorem does_frame (hQ : QuietOk Γ) {o : Oper} {v : AV κ Ty} {o1 : Objs κ Ty} (h : Does C T Γ all o env objs v o1) :
    Keeps (footG T Γ all o env objs).writes objs o1 ∧
    ((footG T Γ all o env objs).loud = false → o1 = objs ∧ ∀ objs' : Objs κ Ty, Like (footG T Γ all o env objs).reads objs objs' → Does C T Γ all o env objs' v objs' ∧ footG T Γ all o env objs' = footG T Γ all o env objs) := by
  unfold Does at h
  split at h
  · rename_i hg
    have := aop_frame hQ h
    have e : ∀ objs : Objs κ Ty, footG T Γ all o env objs = footOf T Γ o env objs := fun objs => by simp only [footG, hg]
    simp only [e, Does, hg]
    exact this
  · rename_i j want hg
    split at h
    · exact h.elim
    · rename_i d hdst
      rcases h with ⟨b, hb, ⟨he, h⟩ | ⟨he, rfl, rfl⟩⟩ | ⟨hb, rfl, rfl⟩
      · have := aop_frame hQ h
        have e : ∀ objs : Objs κ Ty, footG T Γ all o env objs = footOf T Γ o env objs := fun objs => by simp only [footG, hg, hdst, hb, he]
        simp only [e, Does, hg, hdst, hb]
        refine ⟨this.1, fun hq => ⟨(this.2 hq).1, fun objs' hl => ⟨.inl ⟨b, rfl, .inl ⟨he, ((this.2 hq).2 objs' hl).1⟩⟩, ((this.2 hq).2 objs' hl).2⟩⟩⟩
      · have e : ∀ objs : Objs κ Ty, footG T Γ all o env objs = ⟨false, [], []⟩ := fun objs => by simp only [footG, hg, hdst, hb, he]
        simp only [e, Does, hg, hdst, hb]
        exact ⟨.refl _, fun _ => ⟨trivial, fun objs' _ => ⟨.inl ⟨b, rfl, .inr ⟨he, trivial, trivial⟩⟩, trivial⟩⟩⟩
      · have e : ∀ objs : Objs κ Ty, footG T Γ all o env objs = ⟨false, [], []⟩ := fun objs => by simp only [footG, hg, hdst, hb]
        simp only [e, Does, hg, hdst, hb]
        exact ⟨.refl _, fun _ => ⟨trivial, fun objs' _ => ⟨.inr ⟨trivial, trivial, trivial⟩, trivial⟩⟩⟩

/-- a run of operations, and what each touched -/
inductive Tr (C : Cod κ Ty) (T : TypeId → Option (TI κ Ty)) (Γ : FuncId → Option (Summ κ Ty)) (all : Array Oper) : List (Nat × Oper) → Env κ Ty → Objs κ Ty → List (Nat × Oper × Foot) → Env κ Ty → Objs κ Ty → Prop
  | nil {env : Env κ Ty} {objs : Objs κ Ty} : Tr C T Γ all [] env objs [] env objs
  | cons {i : Nat} {o : Oper} {L : List (Nat × Oper)} {env : Env κ Ty} {objs : Objs κ Ty} {v : AV κ Ty} {o1 : Objs κ Ty} {l : List (Nat × Oper × Foot)} {e2 : Env κ Ty} {o2 : Objs κ Ty}
      (hd : Does C T Γ all o env objs v o1) (hr : ∀ id ∈ (footG T Γ all o env objs).reads, id < objs.length) (ht : Tr C T Γ all L (put o env v) o1 l e2 o2) :
      Tr C T Γ all ((i, o) :: L) env objs ((i, o, footG T Γ all o env objs) :: l) e2 o2

theorem Tr.look {L : List (Nat × Oper)} {l : List (Nat × Oper × Foot)} {e2 : Env κ Ty} {o2 : Objs κ Ty} (h : Tr C T Γ all L env objs l e2 o2) : ∀ {env' : Env κ Ty}, (∀ t, Km.look env' t = Km.look env t) →
    ∃ e2', Tr C T Γ all L env' objs l e2' o2 ∧ ∀ t, Km.look e2' t = Km.look e2 t := by
  induction h with
  | nil => intro env' he; exact ⟨_, .nil, he⟩
  | @cons i o L env objs v o1 l e2 o2 hd hr ht ih =>
    intro env' he
    obtain ⟨e2', h1, h2⟩ := ih (put_look he)
    have ha : AgreeO all o env env' := fun t _ => he t
    have hf := foot_agree (T := T) (Γ := Γ) (objs := objs) C ha
    refine ⟨e2', ?_, h2⟩
    rw [← hf]
    exact .cons (does_agree ha hd) (by rw [hf]; exact hr) h1

theorem footOk_iff {x y : Foot} (h : footOk x y = true) : (x.loud = false ∨ y.loud = false) ∧ (∀ i ∈ x.reads, i ∉ y.writes) ∧ (∀ i ∈ y.reads, i ∉ x.writes) := by
  unfold footOk at h
  split at h
  · cases h
  · rename_i hl
    simp only [Bool.and_eq_true] at h
    refine ⟨?_, (disj_iff _ _).mp h.1, (disj_iff _ _).mp h.2⟩
    cases hx : x.loud <;> cases hy : y.loud <;> simp_all

theorem put_agree {o p : Oper} {v : AV κ Ty} (h : ∀ d, p.dst = some d → d ∉ o.looksAt all) : AgreeO all o env (put p env v) := fun t ht => by
  unfold put
  cases hd : p.dst with
  | none => rfl
  | some d =>
    simp only [look_cons]
    rw [if_neg (fun (e : t = d) => h d hd (by rw [← e]; exact ht))]
theorem AgreeO.symm {o : Oper} (h : AgreeO all o env env') : AgreeO all o env' env := fun t ht => (h t ht).symm
theorem put_comm' {o p : Oper} {v u : AV κ Ty} (h : ∀ d, p.dst = some d → o.dst ≠ some d) (t : Nat) : look (put p (put o env v) u) t = look (put o (put p env u) v) t := by
  unfold put
  cases hp : p.dst with
  | none => cases ho : o.dst <;> rfl
  | some d =>
    cases ho : o.dst with
    | none => rfl
    | some e =>
      have hne : e ≠ d := fun x => h d hp (by rw [ho, x])
      simp only [look_cons]
      by_cases h1 : t = d
      · subst h1; simp [Ne.symm hne]
      · simp [h1]

/-- what may be done first, done first -/
theorem Tr.front (hQ : QuietOk Γ) {i : Nat} {oi : Oper} {f : Foot} {L2 : List (Nat × Oper)} {l2 : List (Nat × Oper × Foot)} {e2 : Env κ Ty} {o2 : Objs κ Ty} : ∀ {L1 : List (Nat × Oper)} {l1 : List (Nat × Oper × Foot)} {env : Env κ Ty} {objs : Objs κ Ty},
    L1.length = l1.length → Tr C T Γ all (L1 ++ (i, oi) :: L2) env objs (l1 ++ (i, oi, f) :: l2) e2 o2 → (∀ x ∈ l1, Oper.apart all x.2.1 oi = true ∧ footOk x.2.2 f = true) → (∀ id ∈ f.reads, id < objs.length) →
    ∃ v o1 e2', Does C T Γ all oi env objs v o1 ∧ footG T Γ all oi env objs = f ∧ Tr C T Γ all (L1 ++ L2) (put oi env v) o1 (l1 ++ l2) e2' o2 ∧ ∀ t, Km.look e2' t = Km.look e2 t
  | [], [], env, objs, _, h, _, _ => by
    cases h with
    | cons hd hr ht => exact ⟨_, _, _, hd, rfl, ht, fun _ => rfl⟩
  | [], _ :: _, _, _, hl, _, _, _ => by simp at hl
  | _ :: _, [], _, _, hl, _, _, _ => by simp at hl
  | (j, oj) :: L1, x :: l1, env, objs, hl, h, hc, hi => by
    simp only [List.cons_append] at h
    cases h with
    | cons hd hr ht =>
      rename_i vj oa
      obtain ⟨c1, c2⟩ := hc _ (List.mem_cons_self ..)
      obtain ⟨p1, p2, p3⟩ := Oper.apart_spec c1
      obtain ⟨q1, q2, q3⟩ := footOk_iff c2
      obtain ⟨k1, k2⟩ := does_frame hQ hd
      obtain ⟨v, o1, e2', g1, g2, g3, g4⟩ := Tr.front hQ (by simpa using hl) ht (fun x hx => hc x (List.mem_cons_of_mem _ hx)) (fun id hid => by have := hi id hid; have := k1.1; omega)
      dsimp only at p1 p2 p3 q1 q2 q3 k1 k2
      have ai : AgreeO all oi env (put oj env vj) := put_agree p1
      have aj : AgreeO all oj env (put oi env v) := put_agree p3
      have fi : ∀ o : Objs κ Ty, footG T Γ all oi (put oj env vj) o = footG T Γ all oi env o := fun o => foot_agree C ai
      have fj : ∀ o : Objs κ Ty, footG T Γ all oj (put oi env v) o = footG T Γ all oj env o := fun o => foot_agree C aj
      have key : ∃ ob, Does C T Γ all oi env objs v ob ∧ footG T Γ all oi env objs = f ∧ Does C T Γ all oj env ob vj o1 ∧ footG T Γ all oj env ob = footG T Γ all oj env objs ∧ objs.length ≤ ob.length := by
        obtain ⟨m1, m2⟩ := does_frame hQ g1
        rw [g2] at m1 m2
        rcases hlf : f.loud with _ | _
        · -- the mover is quiet
          obtain ⟨rfl, m3⟩ := m2 hlf
          have lk : Like f.reads _ objs := fun id hid => (k1.2 id (q3 id hid) (hi id hid)).symm
          obtain ⟨n1, n2⟩ := m3 objs lk
          refine ⟨objs, does_agree ai.symm n1, ?_, hd, rfl, Nat.le_refl _⟩
          rw [← fi, n2]
        · -- the one that it passes is quiet
          have hq : (footG T Γ all oj env objs).loud = false := by
            rcases q1 with h | h
            · exact h
            · rw [hlf] at h; cases h
          obtain ⟨rfl, k3⟩ := k2 hq
          have lk : Like (footG T Γ all oj env oa).reads oa o1 := fun id hid => m1.2 id (q2 id hid) (hr id hid)
          obtain ⟨n1, n2⟩ := k3 o1 lk
          refine ⟨o1, does_agree ai.symm g1, ?_, n1, n2, m1.1⟩
          rw [← fi, g2]
      obtain ⟨ob, r1, r2, r3, r4, r5⟩ := key
      obtain ⟨e3, s1, s2⟩ := g3.look (env' := put oj (put oi env v) vj) (fun t => put_comm' p2 t)
      refine ⟨v, ob, e3, r1, r2, ?_, fun t => (s2 t).trans (g4 t)⟩
      simp only [List.cons_append]
      have hfj : footG T Γ all oj env objs = footG T Γ all oj (put oi env v) ob := by rw [fj, r4]
      rw [hfj]
      refine .cons (does_agree aj r3) ?_ s1
      rw [← hfj]
      exact fun id hid => Nat.lt_of_lt_of_le (hr id hid) r5

end
end Km
