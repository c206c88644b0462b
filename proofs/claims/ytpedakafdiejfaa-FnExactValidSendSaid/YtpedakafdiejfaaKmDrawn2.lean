/- A part of the proof: an abstract machine over the program (sound by its theorems), or definitions printed by it. There is no condition. -/
import Derived.Test.YtpedakafdiejfaaKmDrawn
namespace Km
open Go
set_option linter.unusedVariables false
set_option linter.unusedSimpArgs false

variable {κ : Type} {Ty : κ → Type} {R α : Type}

/-! ### what an operation waits for -/
theorem foldl_prefix (f : List (List Nat) → Oper → List Nat) : ∀ (os : List Oper) (acc : List (List Nat)), ∃ m, os.foldl (fun acc o => acc ++ [f acc o]) acc = acc ++ m
  | [], acc => ⟨[], by simp⟩
  | o :: os, acc => by
    obtain ⟨m, h⟩ := foldl_prefix f os (acc ++ [f acc o])
    exact ⟨f acc o :: m, by simp [h]⟩
theorem ancs_mem' : ∀ (os : List Oper) (acc : List (List Nat)) (i e : Nat), acc.length ≤ i → e ∈ (os.foldl (fun acc o => acc ++ [(depsOf o).flatMap fun d => d :: acc.getD d []]) acc).getD i [] →
    ∃ o, os[i - acc.length]? = some o ∧ ∃ d ∈ depsOf o, e = d ∨ e ∈ (os.foldl (fun acc o => acc ++ [(depsOf o).flatMap fun d => d :: acc.getD d []]) acc).getD d []
  | [], acc, i, e, hi, h => by
    simp only [List.foldl_nil] at h
    simp [List.getElem?_eq_none hi] at h
  | o :: os, acc, i, e, hi, h => by
    simp only [List.foldl_cons] at h ⊢
    obtain ⟨m, hm⟩ := foldl_prefix (fun acc o => (depsOf o).flatMap fun d => d :: acc.getD d []) os (acc ++ [(depsOf o).flatMap fun d => d :: acc.getD d []])
    by_cases he : i = acc.length
    · subst he
      refine ⟨o, by simp, ?_⟩
      rw [hm] at h
      simp only [List.append_assoc, List.getD_eq_getElem?_getD] at h
      rw [List.getElem?_append_right (Nat.le_refl _)] at h
      simp only [Nat.sub_self, List.cons_append, List.nil_append, List.getElem?_cons_zero, Option.getD_some, List.mem_flatMap, List.mem_cons] at h
      obtain ⟨d, hd, h⟩ := h
      refine ⟨d, hd, h.imp id fun h => ?_⟩
      rw [hm]
      by_cases hlt : d < acc.length
      · simp only [List.append_assoc, List.getD_eq_getElem?_getD]
        rw [List.getElem?_append_left hlt]; exact h
      · rw [List.getElem?_eq_none (by omega)] at h; simp at h
    · obtain ⟨o', h1, h2⟩ := ancs_mem' os _ i e (by simp; omega) h
      refine ⟨o', ?_, h2⟩
      simp only [List.length_append, List.length_cons, List.length_nil] at h1
      rw [show i - acc.length = (i - (acc.length + (0 + 1))) + 1 by omega]; simpa using h1
theorem ancs_mem {os : List Oper} {i e : Nat} (h : e ∈ (ancs os).getD i []) : ∃ o, os[i]? = some o ∧ ∃ d ∈ depsOf o, e = d ∨ e ∈ (ancs os).getD d [] := by
  have := ancs_mem' os [] i e (Nat.zero_le _) h
  exact this

theorem lessN_iff {n : Nat} : ∀ {l : List Nat}, lessN l n = true → ∀ i ∈ l, i < n
  | [], _, i, hi => by simp at hi
  | j :: l, h, i, hi => by
    simp only [lessN] at h
    split at h
    · rename_i hb
      simp only [List.mem_cons] at hi
      rcases hi with rfl | hi
      · exact Nat.blt_eq.mp hb
      · exact lessN_iff h i hi
    · cases h

section
variable {P : Program} {C : Cod κ Ty} {T : TypeId → Option (TI κ Ty)} {Γ : FuncId → Option (Summ κ Ty)} {objs objs' : Objs κ Ty} {env env' : Env κ Ty}
variable {Mut : Nat → Prop} {Lent : Org κ Ty} {w0 w w' : World} {ρ ρ' ρ2 : Nat → Loc} {a : Act} {tm : Array Value} {all : Array Oper}

def Chk (all : Array Oper) (anc : List (List Nat)) (x y : Nat × Oper × Foot) : Prop := x.1 ∈ anc.getD y.1 [] ∨ (Oper.apart all x.2.1 y.2.1 = true ∧ footOk x.2.2 y.2.2 = true)

theorem checkL_spec {anc : List (List Nat)} {i : Nat} {o : Oper} {f : Foot} : ∀ {log : List (Nat × Oper × Foot)}, checkL all o (anc.getD i []) f log = true → ∀ x ∈ log, Chk all anc x (i, o, f)
  | [], _, x, hx => by simp at hx
  | (j, p, g) :: l, h, x, hx => by
    simp only [checkL] at h
    split at h
    · rename_i hc
      simp only [List.mem_cons] at hx
      rcases hx with rfl | hx
      · simp only [Bool.or_eq_true, Bool.and_eq_true] at hc
        rcases hc with hc | hc
        · exact .inl ((elemN_iff _ _).mp hc)
        · exact .inr hc
      · exact checkL_spec h x hx
    · cases h

def num : Nat → List Oper → List (Nat × Oper)
  | _, [] => []
  | i, o :: os => (i, o) :: num (i + 1) os
theorem num_mem : ∀ {os : List Oper} {n i : Nat} {o : Oper}, (i, o) ∈ num n os ↔ n ≤ i ∧ os[i - n]? = some o
  | [], n, i, o => by simp [num]
  | p :: os, n, i, o => by
    simp only [num, List.mem_cons, Prod.mk.injEq]
    rw [num_mem]
    constructor
    · rintro (⟨rfl, rfl⟩ | ⟨h1, h2⟩)
      · simp
      · refine ⟨by omega, ?_⟩
        rw [show i - n = (i - (n + 1)) + 1 by omega]; simpa using h2
    · rintro ⟨h1, h2⟩
      by_cases e : i = n
      · subst e; simp at h2; exact .inl ⟨rfl, h2.symm⟩
      · refine .inr ⟨by omega, ?_⟩
        rw [show i - n = (i - (n + 1)) + 1 by omega] at h2; simpa using h2
theorem num_sorted : ∀ (os : List Oper) (n : Nat), (num n os).Pairwise fun x y => x.1 < y.1
  | [], _ => .nil
  | o :: os, n => .cons (fun x hx => by
    obtain ⟨i, o'⟩ := x
    have := (num_mem.mp hx).1
    exact this) (num_sorted os (n + 1))

theorem aopsD_tr {anc : List (List Nat)} {K : Env κ Ty → Objs κ Ty → Option R} {r : R} : ∀ {os : List Oper} {i : Nat} {log : List (Nat × Oper × Foot)} {env : Env κ Ty} {objs : Objs κ Ty}, aopsD C T Γ all anc i os log env objs K = some r →
    ∃ l e2 o2 e3, Tr C T Γ all (num i os) env objs l e2 o2 ∧ K e3 o2 = some r ∧ (∀ t, look e3 t = look e2 t) ∧ l.Pairwise (Chk all anc) ∧ (∀ x ∈ log, ∀ y ∈ l, Chk all anc x y) ∧ (∀ (k : Nat) (o : Oper), os[k]? = some o → ∀ d ∈ depsOf o, d < i + k)
  | [], i, log, env, objs, h => ⟨[], env, objs, env, .nil, h, fun _ => rfl, .nil, fun x _ y hy => by simp at hy, fun k o hk => by simp at hk⟩
  | o :: os, i, log, env, objs, h => by
    simp only [aopsD] at h
    split at h
    · rename_i hc
      simp only [Bool.and_eq_true] at hc
      obtain ⟨⟨c1, c2⟩, c3⟩ := hc
      obtain ⟨v, o1, env1, d1, d2, d3⟩ := astep_does h
      obtain ⟨l, e2, o2, e3, t1, t2, t3, t4, t5, t6⟩ := aopsD_tr d2
      obtain ⟨e2', s1, s2⟩ := t1.look (env' := put o env v) (fun t => (d3 t).symm)
      refine ⟨_, e2', o2, e3, .cons d1 (lessN_iff c2) s1, t2, fun t => (t3 t).trans (s2 t).symm, .cons (fun y hy => t5 _ (List.mem_cons_self ..) y hy) t4, fun x hx y hy => ?_, fun k p hk d hd => ?_⟩
      · simp only [List.mem_cons] at hy
        rcases hy with rfl | hy
        · exact checkL_spec c3 x hx
        · exact t5 x (List.mem_cons_of_mem _ hx) y hy
      · cases k with
        | zero => simp at hk; subst hk; exact lessN_iff c1 d hd
        | succ k => have := t6 k p (by simpa using hk) d hd; omega
    · cases h

theorem Tr.heads {L : List (Nat × Oper)} {l : List (Nat × Oper × Foot)} {e2 : Env κ Ty} {o2 : Objs κ Ty} (h : Tr C T Γ all L env objs l e2 o2) : l.map (fun x => (x.1, x.2.1)) = L := by
  induction h with
  | nil => rfl
  | cons hd hr ht ih => simp [ih]

/-- the numbers that a quiet operation reads are its operands' -/
def opsIds (T : TypeId → Option (TI κ Ty)) (o : Oper) (env : Env κ Ty) : List Nat := o.op.operands.toList.flatMap fun x => idsV (opnd T env 0 x)
theorem opnds_sub : ∀ {xs : List Operand} {ts : List TypeId}, ∀ i ∈ (opnds T env xs ts).flatMap idsV, i ∈ xs.flatMap fun x => idsV (opnd T env 0 x)
  | [], ts, i, hi => by simp [opnds] at hi
  | x :: xs, [], i, hi => by simp [opnds] at hi
  | x :: xs, t :: ts, i, hi => by
    simp only [opnds, List.flatMap_cons, List.mem_append] at hi ⊢
    exact hi.imp (fun h => by rw [opnd_ids 0 t]; exact h) (opnds_sub i)
theorem foot_reads {o : Oper} (h : (footOf T Γ o env objs).loud = false) : ∀ i ∈ (footOf T Γ o env objs).reads, i ∈ opsIds T o env := by
  intro i hi
  obtain ⟨dst, op, type, pos, after, guard⟩ := o
  simp only [opsIds]
  cases op with
  | load t a => simpa [footOf, opIds, Op.operands] using hi
  | convert s d x =>
    simp only [footOf, opIds] at hi
    rw [opnd_ids _ 0] at hi
    simpa [Op.operands] using hi
  | nilCheck x =>
    simp only [footOf, opIds] at hi
    rw [opnd_ids _ 0] at hi
    simpa [Op.operands] using hi
  | indexAddr t x y =>
    simp only [footOf, opIds] at hi
    rw [opnd_ids _ 0] at hi
    simp only [Op.operands]; simp; exact .inl hi
  | slice t x lo hi' mx =>
    simp only [footOf, opIds] at hi
    rw [opnd_ids _ 0] at hi
    simp only [Op.operands]; simp; exact .inl hi
  | fieldAddr s x f => simpa [footOf, opIds, Op.operands] using hi
  | call c =>
    have key : ∀ i ∈ (opnds T env c.args.toList c.argTypes.toList).flatMap idsV, i ∈ (Op.call c).operands.toList.flatMap fun x => idsV (opnd T env 0 x) := fun i hi => by
      have := opnds_sub i hi
      simp only [List.mem_flatMap] at this ⊢
      obtain ⟨x, hx, h⟩ := this
      exact ⟨x, by simp only [Op.operands, Call.operands]; simp; exact .inr (by simpa using hx), h⟩
    simp only [footOf] at hi h
    split at hi
    · split at hi
      · exact key i hi
      · simp_all
    · split at hi
      · split at hi
        · split at hi
          · exact key i hi
          · simp_all
        · simp at hi
      · simp at hi
    · simp at hi
  | _ => simp_all [footOf]
theorem footG_reads {o : Oper} (h : (footG T Γ all o env objs).loud = false) : ∀ i ∈ (footG T Γ all o env objs).reads, i ∈ opsIds T o env := by
  unfold footG at h ⊢
  split
  · rename_i hg; rw [hg] at h; exact foot_reads h
  · rename_i j want hg
    rw [hg] at h; dsimp only at h
    split
    · intro i hi; simp at hi
    · rename_i d hd
      rw [hd] at h; dsimp only at h
      split
      · rename_i b hb
        rw [hb] at h; dsimp only at h
        split
        · rename_i he; rw [he] at h; exact foot_reads h
        · intro i hi; simp at hi
      · intro i hi; simp at hi
      · intro i hi; simp at hi

theorem Tr.foot_front {i : Nat} {oi : Oper} {f : Foot} {L2 : List (Nat × Oper)} {l2 : List (Nat × Oper × Foot)} {e2 : Env κ Ty} {o2 : Objs κ Ty} : ∀ {L1 : List (Nat × Oper)} {l1 : List (Nat × Oper × Foot)} {env : Env κ Ty} {objs : Objs κ Ty},
    L1.length = l1.length → Tr C T Γ all (L1 ++ (i, oi) :: L2) env objs (l1 ++ (i, oi, f) :: l2) e2 o2 → (∀ x ∈ l1, Oper.apart all x.2.1 oi = true) →
    (f.loud = false → ∀ id ∈ f.reads, id ∈ opsIds T oi env) ∧ ∃ objs1 : Objs κ Ty, (∀ id ∈ f.reads, id < objs1.length) ∧ ((∀ x ∈ l1, x.2.2.loud = false) → QuietOk Γ → objs1 = objs)
  | [], [], env, objs, _, h, _ => by
    cases h with
    | cons hd hr ht => exact ⟨fun hl => footG_reads hl, objs, hr, fun _ _ => rfl⟩
  | [], _ :: _, _, _, hl, _, _ => by simp at hl
  | _ :: _, [], _, _, hl, _, _ => by simp at hl
  | (j, oj) :: L1, x :: l1, env, objs, hl, h, hc => by
    simp only [List.cons_append] at h
    cases h with
    | cons hd hr ht =>
      rename_i vj oa
      obtain ⟨h1, o1, h2, h3⟩ := Tr.foot_front (by simpa using hl) ht (fun x hx => hc x (List.mem_cons_of_mem _ hx))
      obtain ⟨p1, p2, p3⟩ := Oper.apart_spec (hc _ (List.mem_cons_self ..))
      refine ⟨fun hq id hid => ?_, o1, h2, fun ha hQ => ?_⟩
      · have := h1 hq id hid
        have ha : AgreeO all oi env (put oj env vj) := put_agree p1
        simp only [opsIds, List.mem_flatMap] at this ⊢
        obtain ⟨x, hx, h⟩ := this
        exact ⟨x, hx, by rw [opnd_agree ha.ops 0 hx] at h; exact h⟩
      · have := h3 (fun x hx => ha x (List.mem_cons_of_mem _ hx)) hQ
        rw [this]
        exact ((does_frame hQ hd).2 (ha _ (List.mem_cons_self ..))).1

theorem opsIds_lt (HT : TOk P C T) (S : SRel C Mut Lent w0 ρ env objs a.tmps w) (o : Oper) : ∀ i ∈ opsIds T o env, i < objs.length := by
  intro i hi
  simp only [opsIds, List.mem_flatMap] at hi
  obtain ⟨x, hx, h⟩ := hi
  exact idsV_lt (opnd_rel HT S 0 x) i h

/-- a region that draws its order -/
theorem drawn_all (H : Known P C T Γ) (hQ : QuietOk Γ) {nt : Nat} {Q : Exit → Act → World → Prop} {e2 : Env κ Ty} {o2 : Objs κ Ty} (hd : ∀ o ∈ all.toList, ∀ d, o.dst = some d → d < nt)
    (hdep : ∀ (k : Nat) (o : Oper), all[k]? = some o → ∀ d ∈ depsOf o, d < k) (df : List Deferred)
    (hn : ∀ ρ' a' w' env', (∀ t, look env' t = look e2 t) → SRel C Mut Lent w0 ρ' env' o2 a'.tmps w' → a'.tmps.size = nt → a'.defers = df → Q .normal a' w') :
    ∀ (fuel : Nat) (L : List (Nat × Oper)) (l : List (Nat × Oper × Foot)) (listed : Array Bool) (env : Env κ Ty) (objs : Objs κ Ty) (ρ : Nat → Loc) (a : Act) (w : World) (e2' : Env κ Ty),
      L.length ≤ fuel → Tr C T Γ all L env objs l e2' o2 → (∀ t, look e2' t = look e2 t) → l.Pairwise (Chk all (ancs all.toList)) → SRel C Mut Lent w0 ρ env objs a.tmps w → a.tmps.size = nt → a.defers = df →
      L.Pairwise (fun x y => x.1 < y.1) → listed.size = all.size → (∀ i o, (i, o) ∈ L ↔ all[i]? = some o ∧ listed.getD i true = false) → (∀ k o, all[k]? = some o → listed.getD k false = true → ∀ d ∈ depsOf o, listed.getD d false = true) →
      wpAny P .any all Q fuel listed a w := by
  intro fuel
  induction fuel with
  | zero =>
    intro L l listed env objs ρ a w e2' hlen ht he hp S hsz hdf hs hls hL hcl
    obtain rfl : L = [] := List.length_eq_zero_iff.mp (by omega)
    cases ht
    refine ⟨?_, hn ρ a w env he S hsz hdf⟩
    rw [List.eq_nil_iff_forall_not_mem]
    intro j hj
    obtain ⟨h0, o, ho, _⟩ := mem_ready.mp hj
    have := (hL j o).mpr ⟨ho, h0⟩
    simp at this
  | succ fuel ih =>
    intro L l listed env objs ρ a w e2' hlen ht he hp S hsz hdf hs hls hL hcl
    refine ⟨fun hr => ?_, fun i hi => ?_⟩
    · -- nothing is ready: nothing is left
      cases ht with
      | nil => exact hn ρ a w env he S hsz hdf
      | cons hdo hrd htt =>
        rename_i i o L' v o1 l'
        exfalso
        obtain ⟨h1, h2⟩ := (hL i o).mp (List.mem_cons_self ..)
        have : i ∈ Region.ready .any all listed := mem_ready.mpr ⟨h2, o, h1, fun e he hb => ?_⟩
        · rw [hr] at this; simp at this
        · have hdm : e.on ∈ depsOf o := by
            simp only [depsOf, List.mem_map, List.mem_filter]
            exact ⟨e, ⟨by simpa using he, hb⟩, rfl⟩
          have hlt := hdep i o h1 _ hdm
          have hi := (Array.getElem?_eq_some_iff.mp h1).1
          by_cases hu : listed.getD e.on false = true
          · exact hu
          · exfalso
            have hsz' : e.on < listed.size := by omega
            have hu' : listed.getD e.on true = false := by
              simp only [Array.getD, hsz', dite_true] at hu ⊢
              simpa using hu
            have hmem := (hL e.on all[e.on]).mpr ⟨Array.getElem?_eq_getElem (by omega), hu'⟩
            have hlt2 := List.pairwise_cons.mp hs
            simp only [List.mem_cons, Prod.mk.injEq] at hmem
            rcases hmem with ⟨h, _⟩ | h
            · omega
            · have := hlt2.1 _ h; dsimp only at this; omega
    · obtain ⟨h0, o, ho, hall⟩ := mem_ready.mp hi
      have hmem := (hL i o).mpr ⟨ho, h0⟩
      obtain ⟨L1, L2, rfl⟩ := List.append_of_mem hmem
      have hh := ht.heads
      obtain ⟨l1, x, l2, rfl, hl1, hx⟩ : ∃ l1 x l2, l = l1 ++ x :: l2 ∧ L1.length = l1.length ∧ (x.1, x.2.1) = (i, o) := by
        have hlen : l.length = (L1 ++ (i, o) :: L2).length := by rw [← hh]; simp
        refine ⟨l.take L1.length, l[L1.length]'(by rw [hlen]; simp), l.drop (L1.length + 1), by simp, by simp [hlen], ?_⟩
        have : (l.map fun x => (x.1, x.2.1))[L1.length]? = some (i, o) := by rw [hh]; simp
        simp only [List.getElem?_map, Option.map_eq_some_iff] at this
        obtain ⟨y, h1, h2⟩ := this
        rw [List.getElem?_eq_getElem (by rw [hlen]; simp)] at h1
        cases h1; exact h2
      obtain ⟨i', o', f⟩ := x
      simp only [Prod.mk.injEq] at hx
      obtain ⟨rfl, rfl⟩ := hx
      -- every ancestor is listed
      have hanc : ∀ n k, k < n → listed.getD k false = true → ∀ e ∈ (ancs all.toList).getD k [], listed.getD e false = true := by
        intro n
        induction n with
        | zero => intro k hk; omega
        | succ n ihn =>
          intro k hk hlk e hek
          obtain ⟨p, hp1, d, hd1, hd2⟩ := ancs_mem hek
          have hp1 : all[k]? = some p := by simpa using hp1
          have hdl := hcl k p hp1 hlk d hd1
          rcases hd2 with rfl | hd2
          · exact hdl
          · exact ihn d (by have := hdep k p hp1 d hd1; omega) hdl e hd2
      have hfree : ∀ x ∈ l1, Oper.apart all x.2.1 o' = true ∧ footOk x.2.2 f = true := by
        intro x hx
        rcases (List.pairwise_append.mp hp).2.2 x hx _ (List.mem_cons_self ..) with h | h
        · exfalso
          have hxm : (x.1, x.2.1) ∈ L1 ++ (i', o') :: L2 := by rw [← hh]; exact List.mem_map.mpr ⟨x, by simp [hx], rfl⟩
          have hxu := ((hL _ _).mp hxm)
          obtain ⟨p, hp1, d, hd1, hd2⟩ := ancs_mem h
          have hp1 : all[i']? = some p := by simpa using hp1
          rw [ho] at hp1; cases hp1
          have hdl : listed.getD d false = true := by
            simp only [depsOf, List.mem_map, List.mem_filter] at hd1
            obtain ⟨e, ⟨e1, e2⟩, rfl⟩ := hd1
            exact hall e (by simpa using e1) e2
          have hxl : listed.getD x.1 false = true := by
            rcases hd2 with hd2 | hd2
            · rw [hd2]; exact hdl
            · exact hanc (d + 1) d (by omega) hdl _ hd2
          have hxs : x.1 < listed.size := by rw [hls]; exact (Array.getElem?_eq_some_iff.mp hxu.1).1
          have := hxu.2
          simp only [Array.getD, hxs, dite_true] at this hxl
          rw [this] at hxl; cases hxl
        · exact h
      obtain ⟨q1, oq, q2, q3⟩ := ht.foot_front hl1 (fun x hx => (hfree x hx).1)
      have hreads : ∀ id ∈ f.reads, id < objs.length := by
        cases hlf : f.loud with
        | false => exact fun id hid => opsIds_lt H.ty S o' id (q1 hlf id hid)
        | true =>
          have := q3 (fun x hx => by
            rcases (footOk_iff (hfree x hx).2).1 with h | h
            · exact h
            · rw [hlf] at h; cases h) hQ
          rw [this] at q2; exact q2
      obtain ⟨v, o1, e3, r1, r2, r3, r4⟩ := ht.front hQ hl1 hfree hreads
      obtain ⟨env1, s1, s2⟩ := does_astep r1
      unfold wpOp
      rw [ho]; dsimp only
      have hsub : (L1 ++ L2).Sublist (L1 ++ (i', o') :: L2) := List.Sublist.append_left (List.sublist_cons_self _ _) _
      have hsubl : (l1 ++ l2).Sublist (l1 ++ (i', o', f) :: l2) := List.Sublist.append_left (List.sublist_cons_self _ _) _
      have hne : ∀ x ∈ L1 ++ L2, x.1 ≠ i' := by
        intro x hx
        have hpw := List.pairwise_append.mp hs
        simp only [List.mem_append] at hx
        rcases hx with hx | hx
        · have := hpw.2.2 x hx _ (List.mem_cons_self ..); dsimp only at this; omega
        · have := (List.pairwise_cons.mp hpw.2.1).1 x hx; dsimp only at this; omega
      have hil : i' < listed.size := by rw [hls]; exact (Array.getElem?_eq_some_iff.mp ho).1
      have hgo : ∀ env' objs' ρ' a' w', (some (env', objs') : Option (Env κ Ty × Objs κ Ty)) = some (env1, o1) → SRel C Mut Lent w0 ρ' env' objs' a'.tmps w' → a'.tmps.size = a.tmps.size → a'.defers = a.defers →
          wpAny P .any all Q fuel (listed.setIfInBounds i' true) a' w' := by
        intro env' objs' ρ' a' w' heq S' hz hdf'
        cases heq
        obtain ⟨e4, t1, t2⟩ := r3.look (env' := env1) s1
        refine ih (L1 ++ L2) (l1 ++ l2) _ env1 o1 ρ' a' w' e4 (by simp at hlen ⊢; omega) t1 (fun t => (t2 t).trans ((r4 t).trans (he t))) (hp.sublist hsubl) S' (hz.trans hsz) (hdf'.trans hdf) (hs.sublist hsub) (by simpa using hls) (fun k p => ?_) (fun k p hk hlk d hdd => ?_)
        · constructor
          · intro hm
            obtain ⟨m1, m2⟩ := (hL k p).mp (hsub.subset hm)
            exact ⟨m1, by rw [getD_set_ne true (Ne.symm (hne _ hm))]; exact m2⟩
          · rintro ⟨m1, m2⟩
            have hki : k ≠ i' := by
              rintro rfl
              simp [Array.getD, hil] at m2
            rw [getD_set_ne true (Ne.symm hki)] at m2
            have := (hL k p).mpr ⟨m1, m2⟩
            simp only [List.mem_append, List.mem_cons, Prod.mk.injEq] at this ⊢
            rcases this with h | ⟨h, _⟩ | h
            · exact .inl h
            · exact absurd h hki
            · exact .inr h
        · by_cases hki : k = i'
          · subst hki
            rw [ho] at hk; cases hk
            simp only [depsOf, List.mem_map, List.mem_filter] at hdd
            obtain ⟨e, ⟨e1, e2⟩, rfl⟩ := hdd
            exact getD_set_true (hall e (by simpa using e1) e2)
          · rw [getD_set_ne false (Ne.symm hki)] at hlk
            exact getD_set_true (hcl k p hk hlk d hdd)
      have hst := astep_sound (next := wpAny P .any all Q fuel (listed.setIfInBounds i' true)) (Q := Q) H S (hd := fun d hdd => by rw [hsz]; exact hd o' (by simpa using Array.mem_of_getElem? ho) d hdd) s2 hgo
      split at hst
      · rename_i hw; rw [if_pos hw]; exact .inl hst
      · rename_i hw; rw [if_neg hw]; exact hst

theorem aopsD_sound (H : Known P C T Γ) (hQ : QuietOk Γ) {all : Array Oper} {nt : Nat} {K : Env κ Ty → Objs κ Ty → Option R} {r : R} {Q : Exit → Act → World → Prop}
    (hd : ∀ o ∈ all.toList, ∀ d, o.dst = some d → d < nt) (hsz : a.tmps.size = nt) (S : SRel C Mut Lent w0 ρ env objs a.tmps w) (h : aopsD C T Γ all (ancs all.toList) 0 all.toList [] env objs K = some r)
    (hn : ∀ env' objs' ρ' a' w', K env' objs' = some r → SRel C Mut Lent w0 ρ' env' objs' a'.tmps w' → a'.tmps.size = nt → a'.defers = a.defers → Q .normal a' w') :
    wpAny P .any all Q all.size (Array.replicate all.size false) a w := by
  obtain ⟨l, e2, o2, e3, h1, h2, h3, h4, _, h6⟩ := aopsD_tr h
  refine drawn_all H hQ (e2 := e2) (o2 := o2) hd (fun k o hk d hdd => by have := h6 k o (by simpa using hk) d hdd; omega) a.defers (fun ρ' a' w' env' he S' hz hdf => ?_) all.size (num 0 all.toList) l _ env objs ρ a w e2 ?_ h1 (fun _ => rfl) h4 S hsz rfl
    (num_sorted _ _) (by simp) (fun i o => ?_) (fun k o hk hl => ?_)
  · exact hn e3 o2 ρ' a' w' h2 (S'.setEnv fun i => by rw [h3 i, ← he i]; exact S'.env i) hz hdf
  · have : ∀ (os : List Oper) (n : Nat), (num n os).length = os.length := fun os => by
      induction os with
      | nil => intro n; rfl
      | cons o os ih => intro n; simp [num, ih]
    rw [this]; simp
  · rw [num_mem]
    constructor
    · rintro ⟨_, h⟩
      have h : all[i]? = some o := by simpa using h
      have := (Array.getElem?_eq_some_iff.mp h).1
      exact ⟨h, by simp [Array.getD, this]⟩
    · rintro ⟨h, _⟩
      exact ⟨Nat.zero_le _, by simpa using h⟩
  · exfalso
    have := (Array.getElem?_eq_some_iff.mp hk).1
    simp [Array.getD, this] at hl

theorem SRel.drawn (S : SRel C Mut Lent w0 ρ env objs tm w) (n : Nat) : SRel C Mut Lent w0 ρ env objs tm { w with drawn := n } := by
  have W : WStep w { w with drawn := n } (FootB ρ objs) (FootB ρ objs) := ⟨fun _ _ _ => rfl, Nat.le_refl _, fun _ h => .inl h⟩
  exact S.step W (Nat.le_refl _) (fun _ => .refl _) (fun id => ORel.step W (Nat.le_refl _) (fun _ => .refl _) (S.ob id) rfl rfl (fun _ _ => rfl)) (fun i j b hi hj => S.inj i j b hi hj) rfl rfl rfl


end
end Km
