/- A part of the proof: an abstract machine over the program (sound by its theorems), or definitions printed by it. There is no condition. -/
import Derived.Test.YtpedakafdiejfaaKmCall2
namespace Km
open Go
set_option linter.unusedVariables false
set_option linter.unusedSimpArgs false

variable {κ : Type} {Ty : κ → Type} {R : Type}
section
variable {P : Program} {C : Cod κ Ty} {T : TypeId → Option (TI κ Ty)}
variable {Mut : Nat → Prop} {Lent : Org κ Ty} {w0 w w' : World} {ρ ρ' ρ2 : Nat → Loc} {env : Env κ Ty} {objs objs' objs2 : Objs κ Ty} {tm : Array Value}

theorem ids1_lt {v : AV κ Ty} {u : Value} (h : VRel C w Mut ρ objs v u) : ∀ i ∈ ids1 v, i < objs.length := by
  intro i hi
  cases h <;> simp only [ids1, List.mem_singleton, List.not_mem_nil] at hi
  case ref h1 => subst hi; exact (List.getElem?_eq_some_iff.mp h1).1
  case refd => subst hi; assumption
  case eref h1 h2 => subst hi; exact (List.getElem?_eq_some_iff.mp h1).1
  case erefd => subst hi; assumption
  case own h1 h2 => subst hi; exact (List.getElem?_eq_some_iff.mp h1).1
  case ownd => subst hi; assumption
  case sub h1 _ _ _ _ _ => subst hi; exact (List.getElem?_eq_some_iff.mp h1).1
  case subd => subst hi; assumption
theorem ids2_lt {v : AV κ Ty} {u : Value} (h : VRel C w Mut ρ objs v u) : ∀ i ∈ ids2 v, i < objs.length := by
  by_cases hv : ∃ cs, v = .agg cs
  · obtain ⟨cs, rfl⟩ := hv
    intro i hi
    simp only [ids2, List.mem_flatMap] at hi
    obtain ⟨c, hc, hi⟩ := hi
    cases h with
    | agg hl hcell hrel =>
      rename_i us
      obtain ⟨j, hj⟩ := List.getElem?_of_mem hc
      have hjl := (List.getElem?_eq_some_iff.mp hj).1
      exact ids1_lt (hrel j c us[j] hj (List.getElem?_eq_getElem (by omega))) i hi
  · have e : ids2 v = ids1 v := by cases v <;> first | rfl | exact absurd ⟨_, rfl⟩ hv
    rw [e]; exact ids1_lt h
theorem idsV_lt {v : AV κ Ty} {u : Value} (h : VRel C w Mut ρ objs v u) : ∀ i ∈ idsV v, i < objs.length := by
  by_cases hv : ∃ cs, v = .tup cs
  · obtain ⟨cs, rfl⟩ := hv
    intro i hi
    simp only [idsV, List.mem_flatMap] at hi
    obtain ⟨c, hc, hi⟩ := hi
    cases h with
    | tup hl hrel =>
      rename_i us
      obtain ⟨j, hj⟩ := List.getElem?_of_mem hc
      have hjl := (List.getElem?_eq_some_iff.mp hj).1
      exact ids2_lt (hrel j c us[j] hj (List.getElem?_eq_getElem (by omega))) i hi
  · have e : idsV v = ids2 v := by cases v <;> first | rfl | exact absurd ⟨_, rfl⟩ hv
    rw [e]; exact ids2_lt h
theorem idsO_lt {i : Nat} {o : AObj κ Ty} (ho : objs[i]? = some o) (h : ORel C w Mut ρ objs i) : ∀ k ∈ idsO o, k < objs.length := by
  intro k hk
  unfold ORel at h
  rw [ho] at h
  cases o with
  | dead => simp [idsO] at hk
  | sl t xs => simp [idsO] at hk
  | box cs =>
    simp only [idsO, List.mem_flatMap] at hk
    obtain ⟨c, hc, hk⟩ := hk
    obtain ⟨j, hj⟩ := List.getElem?_of_mem hc
    obtain ⟨v, _, _, h3, _⟩ := h.2 j c hj
    exact ids1_lt h3 k hk
theorem reach_lt (S : SRel C Mut Lent w0 ρ env objs tm w) {acc : List Nat} (hn : acc.Nodup) (h : ∀ i ∈ acc, i < objs.length) : ∀ i ∈ reach objs acc, i < objs.length := by
  have step : ∀ (l : List Nat), ∀ i ∈ l.flatMap (fun i => match objs[i]? with | some o => idsO o | none => []), i < objs.length := by
    intro l i hi
    simp only [List.mem_flatMap] at hi
    obtain ⟨k, _, hi⟩ := hi
    split at hi
    · rename_i o ho; exact idsO_lt ho (S.ob k) i hi
    · simp at hi
  intro i hi
  unfold reach at hi
  rw [addN_mem (addN_nodup hn)] at hi
  rcases hi with hi | hi
  · rw [addN_mem hn] at hi
    rcases hi with hi | hi
    · exact h i hi
    · exact step _ i hi
  · exact step _ i hi

theorem disj_iff : ∀ (l m : List Nat), disj l m = true ↔ ∀ i ∈ l, i ∉ m
  | [], m => by simp [disj]
  | k :: l, m => by
    simp only [disj]
    split
    · rename_i h; have := (elemN_iff k m).mp h; simp [this]
    · rename_i h
      have : k ∉ m := fun hm => by rw [(elemN_iff k m).mpr hm] at h; cases h
      rw [disj_iff l m]; simp [this]

/-- what is borrowed -/
theorem rows_bor (HC : CodOk C) (S : SRel C Mut Lent w0 ρ env objs tm w) {l : List Nat} (hl : ∀ i ∈ l, i < objs.length) {x : AV κ Ty} {u : Value} {t : κ} {xs : List (Ty t)} (hx : VRel C w Mut ρ objs x u) (h : rowsOf objs x = some ⟨t, xs⟩)
    (hb : ∀ i ∈ bor1 x, i ∉ l) : VRel C w (lentMut Mut ρ objs l) (lentρ ρ l) (lentO objs l) (.inl true t xs) u := by
  have hX := lent_wider (Mut := Mut) (ρ := ρ) hl
  obtain ⟨A, c, blk, off, hu, hle, hA, hrow⟩ := rowsOf_rel (a := ⟨tm, []⟩) HC S hx h
  rw [hu]
  refine .inl (blk := blk) (off := off) (vals := fun i j => (w.cell? (at' blk (off + i * C.sz t + j))).getD Go.undef) (fun h => by cases h) hle (fun hne => ?_) (fun i y j cl h1 h2 => ?_) (fun i y j cl h1 h2 => ?_)
  · obtain ⟨a1, a2⟩ := hA hne
    refine ⟨a1, a2, fun hXs => ?_⟩
    rcases hXs with ⟨j, hj⟩ | ⟨hf, _⟩
    · obtain ⟨i, g1, g2⟩ := lent_foot hl hj
      cases x <;> simp only [rowsOf] at h
      case nil t' => cases h; exact hne rfl
      case inl b t' ys =>
        cases h
        cases hx with
        | inl hb' hc hA' hcell hrel =>
          obtain ⟨e1, _, e3⟩ := hA' hne
          simp only [Value.slice.injEq] at hu
          rw [hu.1, a1] at e1
          simp only [Option.some.injEq, at', Addr.mk.injEq] at e1
          exact e3 (.inl ⟨i, e1.1 ▸ g2⟩)
      case own id =>
        have hsl := slOf_some h
        cases hx with
        | own k1 k2 =>
          have ho := S.ob id
          simp only [ORel, hsl] at ho
          have hc : (ρ id).cap ≠ 0 := by have := ho.1; have := List.length_pos_iff.mpr hne; omega
          have e1 := k2 hc
          simp only [Value.slice.injEq] at hu
          rw [hu.1, a1] at e1
          simp only [Option.some.injEq, at', Addr.mk.injEq] at e1
          have := S.inj i id blk g2 (e1.1 ▸ foot_live hsl hc)
          subst this
          exact hb i (by simp [bor1]) (List.mem_of_getElem? g1)
        | ownd _ _ k1 => rw [k1] at h; cases h
      case sub id lo hi =>
        split at h
        · rename_i t' ys hsl0
          cases h
          have hsl := slOf_some hsl0
          cases hx with
          | sub k1 hlo hhi hc hcap hA' =>
            rw [hsl] at k1; cases k1
            have hlen := dcut_length ys lo hi hhi
            have hpos := List.length_pos_iff.mpr hne
            have e1 := hA' (by omega)
            simp only [Value.slice.injEq] at hu
            rw [hu.1, a1] at e1
            simp only [Option.some.injEq, at', Addr.mk.injEq] at e1
            have := S.inj i id blk g2 (e1.1 ▸ foot_live hsl (by omega))
            subst this
            exact hb i (by simp [bor1]) (List.mem_of_getElem? g1)
          | subd _ _ k1 => rw [k1] at hsl0; cases hsl0
        · cases h
      all_goals cases h
    · cases hf
  · obtain ⟨v, a1, a2⟩ := hrow i y j cl h1 h2
    rw [a1]; rfl
  · obtain ⟨v, a1, a2⟩ := hrow i y j cl h1 h2
    rw [a1]
    refine deep_ctx HC hX a2 ?_
    rcases HC.deep t y cl (enc_cell HC h2) with ⟨q, rfl⟩ | ⟨s, ys, rfl, _⟩
    · exact .inl ⟨_, rfl⟩
    · exact .inr ⟨_, _, _, rfl, fun _ => rfl⟩

theorem prep_rel (HC : CodOk C) (S : SRel C Mut Lent w0 ρ env objs tm w) {l : List Nat} (hn : l.Nodup) (hl : ∀ i ∈ l, i < objs.length) (m : Mode) {x : AV κ Ty} {u : Value} (hx : VRel C w Mut ρ objs x u) (hb : m = .bo → ∀ i ∈ bor1 x, i ∉ l) :
    VRel C w (lentMut Mut ρ objs l) (lentρ ρ l) (lentO objs l) (ren1 (posN l · 0) (prep objs m x)) u := by
  have hr : VRel C w (lentMut Mut ρ objs l) (lentρ ρ l) (lentO objs l) (ren1 (posN l · 0) x) u := ren1_rel HC (lent_ren ρ objs l) (lent_wider hl) (fun h => by cases h) hx
  cases m with
  | mv => exact hr
  | pe => exact hr
  | bo =>
    simp only [prep]
    split
    · rename_i t xs h
      exact rows_bor HC S hl hx h (hb rfl)
    · exact hr

theorem prepA_rel (HC : CodOk C) (S : SRel C Mut Lent w0 ρ env objs tm w) {l : List Nat} (hn : l.Nodup) (hl : ∀ i ∈ l, i < objs.length) (m : Mode) {x : AV κ Ty} {u : Value} (hx : VRel C w Mut ρ objs x u) (hb : ∀ i ∈ borA m x, i ∉ l) :
    VRel C w (lentMut Mut ρ objs l) (lentρ ρ l) (lentO objs l) (renV (posN l · 0) (prepA objs m x)) u := by
  by_cases hv : ∃ cs, x = .agg cs
  · obtain ⟨cs, rfl⟩ := hv
    cases hx with
    | agg hle hcell hrel =>
      refine .agg (by simpa using hle) hcell (fun j cl u hj hu => ?_)
      simp only [List.map_map, List.getElem?_map, Option.map_eq_some_iff, Function.comp] at hj
      obtain ⟨c, hc, rfl⟩ := hj
      refine prep_rel HC S hn hl m (hrel j c u hc hu) (fun hm i hi => hb i ?_)
      subst hm
      simp only [borA, List.mem_flatMap]
      exact ⟨c, List.mem_of_getElem? hc, hi⟩
  · by_cases ht : ∃ vs, x = .tup vs
    · obtain ⟨vs, rfl⟩ := ht
      have e : prepA objs m (.tup vs) = .tup vs := by cases m <;> rfl
      rw [e]
      exact renV_rel HC (lent_ren ρ objs l) (lent_wider hl) (fun h => by cases h) (fun h => by cases h) hx
    · have e : prepA objs m x = prep objs m x := by cases x <;> first | rfl | exact absurd ⟨_, rfl⟩ hv
      have e2 : renV (posN l · 0) (prep objs m x) = ren1 (posN l · 0) (prep objs m x) := by
        cases m <;> simp only [prep]
        · cases x <;> first | rfl | exact absurd ⟨_, rfl⟩ hv | exact absurd ⟨_, rfl⟩ ht
        · split
          · rfl
          · cases x <;> first | rfl | exact absurd ⟨_, rfl⟩ hv | exact absurd ⟨_, rfl⟩ ht
        · cases x <;> first | rfl | exact absurd ⟨_, rfl⟩ hv | exact absurd ⟨_, rfl⟩ ht
      rw [e, e2]
      refine prep_rel HC S hn hl m hx (fun hm i hi => hb i ?_)
      subst hm
      cases x <;> first | exact hi | exact absurd ⟨_, rfl⟩ hv


theorem borL_prepL (f : Mode) : True := trivial

/-- arguments, one by one -/
theorem args_rel (HC : CodOk C) (S : SRel C Mut Lent w0 ρ env objs tm w) {l : List Nat} (hn : l.Nodup) (hl : ∀ i ∈ l, i < objs.length) : ∀ (xs : List (AV κ Ty)) (ms : List Mode) (us : List Value), us.length = xs.length →
    (∀ (j : Nat) (x : AV κ Ty) (u : Value), xs[j]? = some x → us[j]? = some u → VRel C w Mut ρ objs x u) → (∀ i ∈ borL xs ms, i ∉ l) →
    (prepL objs xs ms).length = xs.length ∧ ∀ (j : Nat) (x : AV κ Ty) (u : Value), ((prepL objs xs ms).map (renV (posN l · 0)))[j]? = some x → us[j]? = some u → VRel C w (lentMut Mut ρ objs l) (lentρ ρ l) (lentO objs l) x u
  | [], ms, us, hlen, _, _ => by cases ms <;> exact ⟨rfl, fun j x u h => by simp [prepL] at h⟩
  | x :: xs, ms, [], hlen, _, _ => by simp at hlen
  | x :: xs, m :: ms, u :: us, hlen, h, hb => by
    obtain ⟨h1, h2⟩ := args_rel HC S hn hl xs ms us (by simpa using hlen) (fun j y v a b => h (j + 1) y v (by simpa using a) (by simpa using b)) (fun i hi => hb i (by simp [borL, hi]))
    refine ⟨by simp [prepL, h1], fun j y v a b => ?_⟩
    cases j with
    | zero =>
      simp [prepL] at a b
      subst a; subst b
      exact prepA_rel HC S hn hl m (h 0 x _ rfl rfl) (fun i hi => hb i (by simp [borL, hi]))
    | succ j => exact h2 j y v (by simpa [prepL] using a) (by simpa using b)
  | x :: xs, [], u :: us, hlen, h, hb => by
    obtain ⟨h1, h2⟩ := args_rel HC S hn hl xs [] us (by simpa using hlen) (fun j y v a b => h (j + 1) y v (by simpa using a) (by simpa using b)) (fun i hi => hb i (by simp [borL, hi]))
    refine ⟨by simp [prepL, h1], fun j y v a b => ?_⟩
    cases j with
    | zero =>
      simp [prepL] at a b
      subst a; subst b
      exact prepA_rel HC S hn hl .bo (h 0 x _ rfl rfl) (fun i hi => hb i (by simp [borL, hi]))
    | succ j => exact h2 j y v (by simpa [prepL] using a) (by simpa using b)

theorem prep_ids (S : SRel C Mut Lent w0 ρ env objs tm w) (m : Mode) {x : AV κ Ty} {u : Value} (hx : VRel C w Mut ρ objs x u) : ∀ i ∈ ids1 (prep objs m x), i < objs.length := by
  cases m with
  | mv => exact ids1_lt hx
  | pe => exact ids1_lt hx
  | bo =>
    simp only [prep]
    split
    · intro i hi; simp [ids1] at hi
    · exact ids1_lt hx
theorem prepA_ids (S : SRel C Mut Lent w0 ρ env objs tm w) (m : Mode) {x : AV κ Ty} {u : Value} (hx : VRel C w Mut ρ objs x u) : ∀ i ∈ idsV (prepA objs m x), i < objs.length := by
  by_cases hv : ∃ cs, x = .agg cs
  · obtain ⟨cs, rfl⟩ := hv
    intro i hi
    simp only [prepA, idsV, ids2, List.mem_flatMap, List.mem_map] at hi
    obtain ⟨c', ⟨c, hc, rfl⟩, hi⟩ := hi
    cases hx with
    | agg hle hcell hrel =>
      rename_i us
      obtain ⟨j, hj⟩ := List.getElem?_of_mem hc
      have hjl := (List.getElem?_eq_some_iff.mp hj).1
      exact prep_ids S m (hrel j c us[j] hj (List.getElem?_eq_getElem (by omega))) i hi
  · have e : prepA objs m x = prep objs m x := by cases x <;> first | rfl | exact absurd ⟨_, rfl⟩ hv
    rw [e]
    cases m with
    | mv => exact idsV_lt hx
    | pe => exact idsV_lt hx
    | bo =>
      simp only [prep]
      split
      · intro i hi; simp [idsV, ids2, ids1] at hi
      · exact idsV_lt hx
theorem prepL_ids (S : SRel C Mut Lent w0 ρ env objs tm w) : ∀ (xs : List (AV κ Ty)) (ms : List Mode) (us : List Value), us.length = xs.length →
    (∀ (j : Nat) (x : AV κ Ty) (u : Value), xs[j]? = some x → us[j]? = some u → VRel C w Mut ρ objs x u) → ∀ i ∈ (prepL objs xs ms).flatMap idsV, i < objs.length
  | [], ms, us, _, _ => by cases ms <;> simp [prepL]
  | x :: xs, ms, [], hlen, _ => by simp at hlen
  | x :: xs, m :: ms, u :: us, hlen, h => by
    intro i hi
    simp only [prepL, List.flatMap_cons, List.mem_append] at hi
    rcases hi with hi | hi
    · exact prepA_ids S m (h 0 x u rfl rfl) i hi
    · exact prepL_ids S xs ms us (by simpa using hlen) (fun j y v a b => h (j + 1) y v (by simpa using a) (by simpa using b)) i hi
  | x :: xs, [], u :: us, hlen, h => by
    intro i hi
    simp only [prepL, List.flatMap_cons, List.mem_append] at hi
    rcases hi with hi | hi
    · exact prepA_ids S .bo (h 0 x u rfl rfl) i hi
    · exact prepL_ids S xs [] us (by simpa using hlen) (fun j y v a b => h (j + 1) y v (by simpa using a) (by simpa using b)) i hi

/-- a call -/
theorem acall_sound (HC : CodOk C) (S : SRel C Mut Lent w0 ρ env objs tm w) {f : FuncId} {Sm : Summ κ Ty} (hS : SummOk P C f Sm) {xs : List (AV κ Ty)} {us : List Value} (hlen : us.length = xs.length)
    (hx : ∀ (j : Nat) (x : AV κ Ty) (u : Value), xs[j]? = some x → us[j]? = some u → VRel C w Mut ρ objs x u) {K : AV κ Ty → Objs κ Ty → Option R} {r : R}
    (h : acall objs Sm (borL xs Sm.modes) (prepL objs xs Sm.modes) K = some r) :
    Calls P f us.toArray w fun e w' => ∃ v u objs' ρ', e = .returned u ∧ K v objs' = some r ∧ SRel C Mut Lent w0 ρ' env objs' tm w' ∧ VRel C w' Mut ρ' objs' v u := by
  unfold acall at h
  dsimp only at h
  split at h
  · cases h
  · rename_i hd
    have hd := (disj_iff _ _).mp hd
    obtain ⟨q, hq, h⟩ := bind_some h
    have hn : (reach objs (addN [] ((prepL objs xs Sm.modes).flatMap idsV))).Nodup := reach_nodup (addN_nodup List.nodup_nil)
    have hl : ∀ i ∈ reach objs (addN [] ((prepL objs xs Sm.modes).flatMap idsV)), i < objs.length := reach_lt S (addN_nodup List.nodup_nil) (fun i hi => by
      rw [addN_mem List.nodup_nil] at hi
      rcases hi with hi | hi
      · simp at hi
      · exact prepL_ids S xs Sm.modes us hlen hx i hi)
    generalize reach objs (addN [] ((prepL objs xs Sm.modes).flatMap idsV)) = l at h hd hq hn hl
    obtain ⟨a1, a2⟩ := args_rel HC S hn hl xs Sm.modes us hlen hx hd
    refine (hS.2 _ _ q hq (lentMut Mut ρ objs l) (lentρ ρ l) us.toArray w (by simp [a1, hlen]) (fun j x u hj hu => a2 j x u hj (by simpa using hu)) (lent_start HC S hn hl)).mono ?_
    rintro e w' ⟨v, ρ', rfl, h1, h2, h3, h4, h5⟩
    obtain ⟨b1, b2⟩ := call_back HC S hn hl h2 h3
    exact ⟨_, v, _, _, rfl, h, b1, b2 _ _ h4 h5 h1⟩

end
end Km
