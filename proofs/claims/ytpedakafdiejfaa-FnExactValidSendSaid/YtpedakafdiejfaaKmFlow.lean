/- A part of the proof: an abstract machine over the program (sound by its theorems), or definitions printed by it. There is no condition. -/
import Derived.Test.YtpedakafdiejfaaKmDrawn2
namespace Km
open Go
set_option linter.unusedVariables false
set_option linter.unusedSimpArgs false

variable {κ : Type} {Ty : κ → Type} {R : Type}

/-- the numbers of a code's regions -/
def rids : Code → List Nat
  | .seq a b => rids a ++ rids b
  | .block _ c => rids c
  | .loop c => rids c
  | .cond _ a b => rids a ++ rids b
  | .region i _ _ => [i]
  | _ => []
/-- what is written lies among the frame's values -/
def okC (nt : Nat) : Code → Bool
  | .seq a b => okC nt a && okC nt b
  | .block _ c => okC nt c
  | .loop c => okC nt c
  | .cond _ a b => okC nt a && okC nt b
  | .region _ ops _ => ops.toList.all fun o => match o.dst with | some d => Nat.blt d nt | none => true
  | _ => true
def nodupB : List Nat → Bool
  | [] => true
  | i :: l => match elemN i l with | true => false | false => nodupB l
theorem nodupB_iff : ∀ {l : List Nat}, nodupB l = true → l.Nodup
  | [], _ => List.nodup_nil
  | i :: l, h => by
    simp only [nodupB] at h
    split at h
    · cases h
    · rename_i hi
      exact List.nodup_cons.mpr ⟨fun hm => (by rw [(elemN_iff i l).mpr hm] at hi; cases hi), nodupB_iff h⟩

theorem inCode_mem {id : Nat} : ∀ (c : Code) (k t : List It), inCode id c k = some t → id ∈ rids c
  | .seq a b, k, t, h => by
    simp only [inCode] at h
    split at h
    · rename_i t' h'; simp [rids, inCode_mem a _ _ h']
    · simp [rids, inCode_mem b _ _ h]
  | .block j c, k, t, h => by simp only [inCode] at h; exact inCode_mem c _ _ h
  | .loop c, k, t, h => by simp only [inCode] at h; exact inCode_mem c _ _ h
  | .cond q a b, k, t, h => by
    simp only [inCode] at h
    split at h
    · rename_i t' h'; simp [rids, inCode_mem a _ _ h']
    · simp [rids, inCode_mem b _ _ h]
  | .region i ops d, k, t, h => by
    simp only [inCode] at h
    split at h
    · rename_i hb; simp [rids, Nat.eq_of_beq_eq_true hb]
    · cases h
  | .skip, k, t, h => by simp [inCode] at h
  | .exit _, k, t, h => by simp [inCode] at h
  | .ret, k, t, h => by simp [inCode] at h
  | .label _, k, t, h => by simp [inCode] at h
  | .goto _, k, t, h => by simp [inCode] at h

/-- a piece of code that stands where it stands in the body -/
def Piece (nt : Nat) (body c : Code) (k : List It) : Prop := okC nt c = true ∧ (rids c).Nodup ∧ ∀ id t, inCode id c k = some t → inCode id body [] = some t
def Pos (nt : Nat) (body : Code) : List It → Prop
  | [] => True
  | .code c :: k => Piece nt body c k ∧ Pos nt body k
  | .inBlock _ :: k => Pos nt body k
  | .inLoop c :: k => Piece nt body c (.inLoop c :: k) ∧ Pos nt body k

def toItem : It → Item
  | .code c => .code c
  | .inBlock id => .inBlock id
  | .inLoop c => .inLoop c

theorem unwind_exit {id : Nat} : ∀ {k k' : List It}, unwind id k = some k' → exitTo id (k.map toItem) = some (k'.map toItem)
  | [], _, h => by simp [unwind] at h
  | .inBlock j :: l, k', h => by
    simp only [unwind] at h
    simp only [List.map_cons, toItem, exitTo]
    split at h
    · rename_i hb; have := Nat.eq_of_beq_eq_true hb; cases h; simp [this]
    · rename_i hb
      have : (j == id) = false := by
        cases hc : j == id with
        | false => rfl
        | true => have := eq_of_beq hc; subst this; simp at hb
      rw [if_neg (by simp [this])]
      exact unwind_exit h
  | .code _ :: l, k', h => by
    simp only [unwind] at h
    simp only [List.map_cons, toItem, exitTo]
    exact unwind_exit h
  | .inLoop _ :: l, k', h => by
    simp only [unwind] at h
    simp only [List.map_cons, toItem, exitTo]
    exact unwind_exit h
theorem unwind_pos {nt : Nat} {body : Code} {id : Nat} : ∀ {k k' : List It}, unwind id k = some k' → Pos nt body k → Pos nt body k'
  | [], _, h, _ => by simp [unwind] at h
  | .inBlock j :: l, k', h, p => by
    simp only [unwind] at h
    split at h
    · cases h; exact p
    · exact unwind_pos h p
  | .code _ :: l, k', h, p => by
    simp only [unwind] at h
    exact unwind_pos h p.2
  | .inLoop _ :: l, k', h, p => by
    simp only [unwind] at h
    exact unwind_pos h p.2

theorem Piece.seq {nt : Nat} {body a b : Code} {k : List It} (h : Piece nt body (.seq a b) k) : Piece nt body a (.code b :: k) ∧ Piece nt body b k := by
  obtain ⟨h1, h2, h3⟩ := h
  simp only [okC, Bool.and_eq_true] at h1
  simp only [rids, List.nodup_append] at h2
  refine ⟨⟨h1.1, h2.1, fun id t h => h3 id t (by simp [inCode, h])⟩, ⟨h1.2, h2.2.1, fun id t h => h3 id t ?_⟩⟩
  have : inCode id a (.code b :: k) = none := by
    cases he : inCode id a (.code b :: k) with
    | none => rfl
    | some t' => exact absurd rfl (h2.2.2 id (inCode_mem _ _ _ he) id (inCode_mem _ _ _ h))
  simp [inCode, this, h]
theorem Piece.cond {nt : Nat} {body a b : Code} {q : Operand} {k : List It} (h : Piece nt body (.cond q a b) k) : Piece nt body a k ∧ Piece nt body b k := by
  obtain ⟨h1, h2, h3⟩ := h
  simp only [okC, Bool.and_eq_true] at h1
  simp only [rids, List.nodup_append] at h2
  refine ⟨⟨h1.1, h2.1, fun id t h => h3 id t (by simp [inCode, h])⟩, ⟨h1.2, h2.2.1, fun id t h => h3 id t ?_⟩⟩
  have : inCode id a k = none := by
    cases he : inCode id a k with
    | none => rfl
    | some t' => exact absurd rfl (h2.2.2 id (inCode_mem _ _ _ he) id (inCode_mem _ _ _ h))
  simp [inCode, this, h]
theorem Piece.block {nt : Nat} {body c : Code} {j : Nat} {k : List It} (h : Piece nt body (.block j c) k) : Piece nt body c (.inBlock j :: k) := ⟨h.1, h.2.1, fun id t e => h.2.2 id t e⟩
theorem Piece.loop {nt : Nat} {body c : Code} {k : List It} (h : Piece nt body (.loop c) k) : Piece nt body c (.inLoop c :: k) := ⟨h.1, h.2.1, fun id t e => h.2.2 id t e⟩

/-- the position of a region, as one finds it in the body -/
theorem inCode_pos {nt : Nat} {body : Code} {id : Nat} : ∀ (c : Code) (k t : List It), Piece nt body c k → Pos nt body k → inCode id c k = some t → Pos nt body t
  | .seq a b, k, t, p, q, h => by
    simp only [inCode] at h
    obtain ⟨p1, p2⟩ := p.seq
    split at h
    · rename_i t' h'; cases h; exact inCode_pos a _ _ p1 ⟨p2, q⟩ h'
    · exact inCode_pos b _ _ p2 q h
  | .block j c, k, t, p, q, h => by simp only [inCode] at h; exact inCode_pos c _ _ p.block q h
  | .loop c, k, t, p, q, h => by simp only [inCode] at h; exact inCode_pos c _ _ p.loop ⟨p.loop, q⟩ h
  | .cond x a b, k, t, p, q, h => by
    simp only [inCode] at h
    obtain ⟨p1, p2⟩ := p.cond
    split at h
    · rename_i t' h'; cases h; exact inCode_pos a _ _ p1 q h'
    · exact inCode_pos b _ _ p2 q h
  | .region i ops d, k, t, p, q, h => by
    simp only [inCode] at h
    split at h
    · cases h; exact ⟨p, q⟩
    · cases h
  | .skip, k, t, p, q, h => by simp [inCode] at h
  | .exit _, k, t, p, q, h => by simp [inCode] at h
  | .ret, k, t, p, q, h => by simp [inCode] at h
  | .label _, k, t, p, q, h => by simp [inCode] at h
  | .goto _, k, t, p, q, h => by simp [inCode] at h

section
variable {P : Program} {C : Cod κ Ty} {T : TypeId → Option (TI κ Ty)} {Γ : FuncId → Option (Summ κ Ty)}
variable {Mut : Nat → Prop} {Lent : Org κ Ty} {w0 w w' : World} {ρ ρ' ρ2 : Nat → Loc} {env : Env κ Ty} {objs objs' objs2 : Objs κ Ty} {a : Act} {tm : Array Value}

/-- values at a cut -/
theorem cut_vals (S : SRel C Mut Lent w0 ρ env objs tm w) : ∀ (slots : List Nat), ORL C w Mut ρ objs (slots.map (look env)) (slots.map fun i => tm[i]?)
  | [] => trivial
  | i :: l => by
    refine ⟨?_, cut_vals S l⟩
    rcases S.env i with h | ⟨u, h1, h2⟩
    · rw [h]
      show OR C w Mut ρ objs .undef tm[i]?
      cases ht : tm[i]? with
      | none => exact rfl
      | some u => exact VRel.undef (u := u)
    · simp only [h1]; exact h2

theorem envOf_rel : ∀ {slots : List Nat} {vs : List (AV κ Ty)}, ORL C w Mut ρ objs vs (slots.map fun i => tm[i]?) →
    ∀ i, look (envOf slots vs) i = .undef ∨ ∃ u, tm[i]? = some u ∧ VRel C w Mut ρ objs (look (envOf slots vs) i) u
  | [], [], h, i => .inl rfl
  | [], _ :: _, h, i => h.elim
  | _ :: _, [], h, i => h.elim
  | j :: l, v :: vs, h, i => by
    simp only [envOf, look_cons]
    split
    · rename_i e; subst e
      have := h.1
      cases ht : tm[i]? with
      | none => simp only [ht] at this; exact .inl this
      | some u => simp only [ht] at this; exact .inr ⟨u, rfl, this⟩
    · exact envOf_rel h.2 i

/-- a frame runs to its end -/
theorem run_sound {Γ : Nat → FuncId → Option (Summ κ Ty)} {Λ : Nat → Nat → List (AV κ Ty) → Objs κ Ty → Option R} {cuts : List (Nat × List Nat)} {fin : Env κ Ty → Objs κ Ty → Option R} {nt : Nat} {body : Code} {cs : List Frame} {b : Frame}
    (hm : P.follows .mixedOrders = true) (H : ∀ k, Known P C T (Γ k)) (HQ : ∀ k, QuietOk (Γ k)) (hbody : Piece nt body body [])
    (h0 : ∀ id vs os, Λ 0 id vs os = none)
    (h1 : ∀ k id vs os r slots, cutAt cuts id = some slots → Λ (k + 1) id vs os = some r → ∃ n todo, inCode id body [] = some todo ∧ run C T (Γ k) (Λ k) cuts Lent.objs.length fin n true todo (envOf slots vs) os = some r)
    {r : R} : ∀ (k n : Nat) (fresh : Bool) (todo : List It) (env : Env κ Ty) (objs : Objs κ Ty) (ρ : Nat → Loc) (a : Act) (w : World), Pos nt body todo → a.tmps.size = nt → a.defers = [] →
    SRel C Mut Lent w0 ρ env objs a.tmps w → run C T (Γ k) (Λ k) cuts Lent.objs.length fin n fresh todo env objs = some r →
    ∃ a' w' todo' env' objs' ρ', Steps P (lone (b.at a (todo.map toItem)) cs w) (lone { b.at a' todo' with mode := .returning } cs w') ∧ a'.defers = [] ∧ a'.tmps.size = nt ∧ fin env' objs' = some r ∧ SRel C Mut Lent w0 ρ' env' objs' a'.tmps w' := by
  intro k
  induction k with
  | zero => ?_
  | succ k ihk => ?_
  all_goals
    intro n
    induction n with
    | zero => intro fresh todo env objs ρ a w _ _ _ _ h; simp [run] at h
    | succ n ih => ?_
    intro fresh todo env objs ρ a w p hsz hdf S h
    have key : ∀ {m' : Machine}, Steps P (lone (b.at a (todo.map toItem)) cs w) m' → (∃ a' w' todo' env' objs' ρ', Steps P m' (lone { b.at a' todo' with mode := .returning } cs w') ∧ a'.defers = [] ∧ a'.tmps.size = nt ∧ fin env' objs' = some r ∧ SRel C Mut Lent w0 ρ' env' objs' a'.tmps w') →
        ∃ a' w' todo' env' objs' ρ', Steps P (lone (b.at a (todo.map toItem)) cs w) (lone { b.at a' todo' with mode := .returning } cs w') ∧ a'.defers = [] ∧ a'.tmps.size = nt ∧ fin env' objs' = some r ∧ SRel C Mut Lent w0 ρ' env' objs' a'.tmps w' :=
      fun hs ⟨a', w', todo', env', objs', ρ', g1, g2⟩ => ⟨a', w', todo', env', objs', ρ', hs.trans g1, g2⟩
    unfold run at h
    split at h
    · exact ⟨a, w, _, env, objs, ρ, .one step_end, hdf, hsz, h, S⟩
    · exact key (.one step_inBlock) (ih _ _ _ _ ρ a w p hsz hdf S h)
    · exact key (.one step_inLoop) (ih _ _ _ _ ρ a w (by exact ⟨p.1, p⟩) hsz hdf S h)
    · rename_i c l
      obtain ⟨p1, p2⟩ := p
      split at h
      · exact key (.one step_skip) (ih _ _ _ _ ρ a w p2 hsz hdf S h)
      · obtain ⟨q1, q2⟩ := p1.seq
        exact key (.one step_seq) (ih _ _ _ _ ρ a w (by exact ⟨q1, q2, p2⟩) hsz hdf S h)
      · exact key (.one step_block) (ih _ _ _ _ ρ a w (by exact ⟨p1.block, p2⟩) hsz hdf S h)
      · exact key (.one step_loop) (ih _ _ _ _ ρ a w (by exact ⟨p1.loop, p1.loop, p2⟩) hsz hdf S h)
      · split at h
        · rename_i k' hk'
          exact key (.one (step_exit (unwind_exit hk'))) (ih _ _ _ _ ρ a w (unwind_pos hk' p2) hsz hdf S h)
        · cases h
      · exact ⟨a, w, _, env, objs, ρ, .one step_ret, hdf, hsz, h, S⟩
      · rename_i q x y
        obtain ⟨q1, q2⟩ := p1.cond
        split at h
        · rename_i t ht
          have h := ifB_some h
          have hq := opnd_rel (H 0).ty S 0 q
          rw [ht] at hq
          have hq := (lit_inv hq).1
          have hset : ∀ t', t' = t → SRel C Mut Lent w0 ρ (setB env q t') objs a.tmps w := by
            intro t' e; subst e
            cases q with
            | tmp d =>
              refine S.know ?_
              cases hd : a.tmps[d]? with
              | none => simp [Act.eval, hd, Go.undef] at hq
              | some u => simp [Act.eval, hd] at hq; subst hq; exact ⟨_, rfl, .lit rfl⟩
            | const v => exact S
            | global v => exact S
            | func v => exact S
          have hst := step_cond (P := P) (b := b) (a := a) (k := l.map toItem) (cs := cs) (w := w) (x := x) (y := y) hq
          cases t with
          | true => exact key (.one hst) (ih _ (.code x :: l) _ _ ρ a w ⟨q1, p2⟩ hsz hdf (hset true rfl) h)
          | false => exact key (.one hst) (ih _ (.code y :: l) _ _ ρ a w ⟨q2, p2⟩ hsz hdf (hset false rfl) h)
        · cases h
      · rename_i id ops draw
        have hd : ∀ o ∈ ops.toList, ∀ d, o.dst = some d → d < nt := by
          have := p1.1
          simp only [okC, List.all_eq_true] at this
          intro o ho d hdd
          have := this o ho
          rw [hdd] at this
          exact Nat.blt_eq.mp this |> fun h => h
        split at h
        · rename_i slots hc
          have hc : cutAt cuts id = some slots := by
            revert hc; cases fresh
            · exact fun h => h
            · intro h; cases h
          have h : _ = some r := h
          dsimp only at h
          first
          | (rw [h0] at h; cases h; done)
          | (obtain ⟨n', todo', e1, e2⟩ := h1 k id _ _ r slots hc h
             have e3 := p1.2.2 id (.code (.region id ops draw) :: l) (by simp [inCode])
             rw [e1] at e3; cases e3
             obtain ⟨ρ', S', hv⟩ := compact_sound (H 0).cod S (cut_vals S slots)
             exact ihk n' true _ _ _ ρ' a w ⟨p1, p2⟩ hsz hdf (S'.setEnv (envOf_rel hv)) e2)
        · let Q : Exit → Act → World → Prop := fun e a' w' => e = .normal ∧ ∃ a'' w'' todo' env' objs' ρ', Steps P (lone (b.at a' (l.map toItem)) cs w') (lone { b.at a'' todo' with mode := .returning } cs w'') ∧ a''.defers = [] ∧ a''.tmps.size = nt ∧ fin env' objs' = some r ∧ SRel C Mut Lent w0 ρ' env' objs' a''.tmps w''
          have hfin : (Code.region id ops draw).wp P Q a w → ∃ a' w' todo' env' objs' ρ', Steps P (lone (b.at a ((It.code (.region id ops draw) :: l).map toItem)) cs w) (lone { b.at a' todo' with mode := .returning } cs w') ∧ a'.defers = [] ∧ a'.tmps.size = nt ∧ fin env' objs' = some r ∧ SRel C Mut Lent w0 ρ' env' objs' a'.tmps w' := by
            intro hw
            obtain ⟨e, a', w', ⟨rfl, hQ⟩, harr⟩ := hw b (l.map toItem) cs
            exact key harr hQ
          split at h
          · exact hfin (wp_region_any hm (aopsD_sound (H _) (HQ _) hd hsz (S.drawn _) h fun env' objs' ρ' a' w' hK S' hz hdf' => ⟨rfl, ih _ _ _ _ ρ' a' w' p2 hz (hdf'.trans hdf) S' hK⟩))
          · refine hfin (wp_region ?_)
            rw [List.range_eq_range']
            have := aops_sound (Q := Q) (H _) ops.toList 0 env objs ρ a w (all := ops) (nt := nt) (fun k => by simp) hd hsz S h fun env' objs' ρ' a' w' hK S' hz hdf' => ⟨rfl, ih _ _ _ _ ρ' a' w' p2 hz (hdf'.trans hdf) S' hK⟩
            simpa using this
      · cases h

end
end Km
