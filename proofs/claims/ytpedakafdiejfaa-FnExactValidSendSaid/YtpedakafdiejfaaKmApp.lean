/- A part of the proof: an abstract machine over the program (sound by its theorems), or definitions printed by it. There is no condition. -/
import Derived.Test.YtpedakafdiejfaaKmMem4
namespace Km
open Go
set_option linter.unusedVariables false
set_option linter.unusedSimpArgs false

variable {κ : Type} {Ty : κ → Type} {R : Type}
section
variable {P : Program} {C : Cod κ Ty} {T : TypeId → Option (TI κ Ty)}
variable {Mut : Nat → Prop} {Lent : Org κ Ty} {w0 w w' : World} {ρ ρ' : Nat → Loc} {env : Env κ Ty} {objs objs' objs1 : Objs κ Ty} {tm : Array Value}

theorem compat_weaker_push (hw : Weaker objs objs1) (o : AObj κ Ty) (l : Loc) (i : Nat) : Compat ρ objs (upd ρ objs1.length l) (objs1 ++ [o]) i := by
  unfold Compat
  split
  · rename_i cs e
    have hi := (List.getElem?_eq_some_iff.mp e).1
    have hi1 : i < objs1.length := by rw [hw.1]; exact hi
    rcases hw.2 i with e' | e'
    · exact .inl ⟨cs, by rw [push_old hi1, e', e], upd_other ρ _ l (by omega)⟩
    · exact .inr ⟨boxOf_dead (by rw [push_old hi1, e']), slOf_dead (by rw [push_old hi1, e'])⟩
  · rename_i t xs e
    have hi := (List.getElem?_eq_some_iff.mp e).1
    have hi1 : i < objs1.length := by rw [hw.1]; exact hi
    rcases hw.2 i with e' | e'
    · exact .inl ⟨xs, by rw [push_old hi1, e', e], rfl, upd_other ρ _ l (by omega)⟩
    · exact .inr ⟨boxOf_dead (by rw [push_old hi1, e']), slOf_dead (by rw [push_old hi1, e'])⟩
  · rename_i e
    have hi := (List.getElem?_eq_some_iff.mp e).1
    have hi1 : i < objs1.length := by rw [hw.1]; exact hi
    rcases hw.2 i with e' | e'
    · exact ⟨boxOf_dead (by rw [push_old hi1, e', e]), slOf_dead (by rw [push_old hi1, e', e])⟩
    · exact ⟨boxOf_dead (by rw [push_old hi1, e']), slOf_dead (by rw [push_old hi1, e'])⟩
  · trivial

theorem SRel.flt (S : SRel C Mut Lent w0 ρ env objs tm w) {i b : Nat} (h : FootAt ρ objs i b) : b < w.heap.size := by
  have ho := S.ob i
  unfold FootAt at h; unfold ORel at ho
  split at h
  · rename_i cs e; rw [e] at ho; have := ho.1; omega
  · rename_i t xs e; rw [e] at ho; have := ho.2.1 h.1; omega
  · exact h.elim

/-- a new object in the place of what was given up, or on a new block -/
theorem SRel.take (S : SRel C Mut Lent w0 ρ env objs tm w) (hw : Weaker objs objs1) {o : AObj κ Ty} {l : Loc}
    (hb : ∀ b, b < w.heap.size → b ≠ l.block ∨ ¬ FootB ρ objs b → w'.heap[b]? = w.heap[b]?) (hsz : w.heap.size ≤ w'.heap.size)
    (hl : (w.heap.size ≤ l.block ∨ (FootB ρ objs l.block ∧ ∀ i, ¬ FootAt ρ objs1 i l.block)) ∨ ∀ b, ¬ FootAt (upd ρ objs1.length l) (objs1 ++ [o]) objs1.length b)
    (hkeep : ∀ b, FootB ρ objs1 b → w'.heap[b]? = w.heap[b]?)
    (hnew : ∀ (_ : WStep w w' (FootB ρ objs) (FootB (upd ρ objs1.length l) (objs1 ++ [o]))), ORel C w' Mut (upd ρ objs1.length l) (objs1 ++ [o]) objs1.length)
    (hos : w'.os = w.os) (htape : w'.tape = w.tape) (hout : w'.output = w.output) :
    SRel C Mut Lent w0 (upd ρ objs1.length l) env (objs1 ++ [o]) tm w' := by
  have hlen := hw.1
  have fp : ∀ i b, FootAt (upd ρ objs1.length l) (objs1 ++ [o]) i b → (i < objs1.length ∧ FootAt ρ objs1 i b) ∨ (i = objs1.length ∧ b = l.block ∧ FootAt (upd ρ objs1.length l) (objs1 ++ [o]) objs1.length b) := fun i b h => by
    rcases foot_push h with h1 | ⟨h1, h2⟩
    · exact .inl h1
    · exact .inr ⟨h1, h2, h1 ▸ h⟩
  have W : WStep w w' (FootB ρ objs) (FootB (upd ρ objs1.length l) (objs1 ++ [o])) := ⟨fun b hlt hn => hb b hlt (.inr hn), hsz, fun b ⟨i, hi⟩ => by
    rcases fp i b hi with ⟨_, h⟩ | ⟨_, h, hh⟩
    · exact .inl ⟨i, hw.foot h⟩
    · subst h
      rcases hl with (h1 | ⟨h1, _⟩) | h1
      · exact .inr h1
      · exact .inl h1
      · exact absurd hh (h1 _)⟩
  refine S.step W (by simp; omega) (compat_weaker_push hw o l) (fun i => ?_) (fun i j b hi hj => ?_) hos htape hout
  · by_cases hi : i < objs1.length
    · rcases hw.2 i with e | e
      · refine ORel.step W (by simp; omega) (compat_weaker_push hw o l) (S.ob i) (by rw [push_old hi, e]) (upd_other ρ _ l (by omega)) (fun b hb' => hkeep b ⟨i, ?_⟩)
        unfold FootAt at hb' ⊢; rw [e]; exact hb'
      · unfold ORel; rw [push_old hi, e]; trivial
    · by_cases hn : i = objs1.length
      · subst hn; exact hnew W
      · unfold ORel
        have : (objs1 ++ [o])[i]? = none := List.getElem?_eq_none (by simp; omega)
        rw [this]; trivial
  · rcases fp i b hi with ⟨h1, h2⟩ | ⟨h1, h2, h3⟩ <;> rcases fp j b hj with ⟨g1, g2⟩ | ⟨g1, g2, g3⟩
    · exact S.inj i j b (hw.foot h2) (hw.foot g2)
    · subst g2
      rcases hl with (hh | ⟨_, hh⟩) | hh
      · have := S.flt (hw.foot h2); omega
      · exact absurd h2 (hh i)
      · exact absurd g3 (hh _)
    · subst h2
      rcases hl with (hh | ⟨_, hh⟩) | hh
      · have := S.flt (hw.foot g2); omega
      · exact absurd g2 (hh j)
      · exact absurd h3 (hh _)
    · omega

theorem growBy_le (need : Nat) : ∀ (r c : Nat), c < need → 256 ≤ c → Builtin.growBy need r c ≤ 2 * need
  | 0, c, h, _ => by simp only [Builtin.growBy]; omega
  | r + 1, c, h, h2 => by
    simp only [Builtin.growBy]
    rw [if_neg (by omega)]
    by_cases h3 : c + (c + 768) / 4 < need
    · exact growBy_le need r _ h3 (by omega)
    · cases r with
      | zero => simp only [Builtin.growBy]; omega
      | succ r => simp only [Builtin.growBy]; rw [if_pos (by omega)]; omega
theorem nextcap_le {need old : Nat} (h : old < need) : Builtin.nextslicecap need old ≤ 2 * need := by
  unfold Builtin.nextslicecap
  split
  · omega
  · split
    · omega
    · exact growBy_le need 4 old h (by omega)

/-- the cells of what a slice shows -/
theorem firstCells_sound (HC : CodOk C) {t : κ} {xs : List (Ty t)} {A : Option Addr} {c blk off : Nat} (hA : xs ≠ [] → A = some (at' blk off) ∧ blk < w.heap.size)
    (hrow : ∀ i y j cl, xs[i]? = some y → (C.enc t y)[j]? = some cl → ∃ v, w.cell? (at' blk (off + i * C.sz t + j)) = some v ∧ VRel C w Mut ρ objs cl v) :
    ∃ vs : List Value, vs.length = xs.length * C.sz t ∧ (∀ w2 : World, (∀ a, w2.cell? a = w.cell? a) → (Builtin.firstCells (C.sz t) xs.length (.slice A xs.length c)).run P w2 = .ok vs.toArray w2) ∧ (∀ (q : Nat) (v : Value), vs[q]? = some v → isCell v = true) ∧
      ∀ i y j cl, xs[i]? = some y → (C.enc t y)[j]? = some cl → ∃ v, vs[i * C.sz t + j]? = some v ∧ VRel C w Mut ρ objs cl v := by
  by_cases hx : xs = []
  · subst hx
    refine ⟨[], by simp, fun w2 _ => ?_, fun q v h => by simp at h, fun i y j cl h => by simp at h⟩
    cases A with
    | none => rfl
    | some a => simp [Builtin.firstCells, loadCells, loadCellsFrom]
  · obtain ⟨rfl, hblk⟩ := hA hx
    by_cases hs : C.sz t = 0
    · refine ⟨[], by simp [hs], fun w2 _ => by simp [Builtin.firstCells, hs, loadCells, loadCellsFrom], fun q v h => by simp at h, fun i y j cl h1 h2 => ?_⟩
      have := (List.getElem?_eq_some_iff.mp h2).1
      rw [HC.len, hs] at this; omega
    · have hcell : ∀ q, q < xs.length * C.sz t → ∃ v, w.cell? (at' blk (off + q)) = some v ∧ isCell v = true := fun q hq => by
        have h1 : q / C.sz t < xs.length := (Nat.div_lt_iff_lt_mul (by omega)).mpr hq
        have h2 : q % C.sz t < C.sz t := Nat.mod_lt _ (by omega)
        have h3 : (C.enc t xs[q / C.sz t])[q % C.sz t]? = some ((C.enc t xs[q / C.sz t])[q % C.sz t]'(by rw [HC.len]; exact h2)) := List.getElem?_eq_getElem _
        obtain ⟨v, a1, a2⟩ := hrow (q / C.sz t) _ (q % C.sz t) _ (List.getElem?_eq_getElem h1) h3
        refine ⟨v, ?_, deep_isCell HC (enc_cell HC h3) a2⟩
        rw [← a1, Nat.add_assoc, Nat.div_add_mod']
      let f : Nat → Value := fun q => (w.cell? (at' blk (off + q))).getD Go.undef
      have hf : ∀ q, q < xs.length * C.sz t → w.cell? (at' blk (off + q)) = some (f q) := fun q hq => by
        obtain ⟨v, a1, _⟩ := hcell q hq; simp [f, a1]
      refine ⟨(List.range (xs.length * C.sz t)).map f, by simp, fun w2 h2 => ?_, fun q v hq => ?_, fun i y j cl h1 h2 => ?_⟩
      · simp only [Builtin.firstCells]
        exact run_loadCells w2 (at' blk off) _ f (fun q hq => by rw [add_at, h2]; exact hf q hq)
      · simp only [List.getElem?_map, Option.map_eq_some_iff] at hq
        obtain ⟨q', e1, rfl⟩ := hq
        have hlt : q' < xs.length * C.sz t := by have := List.mem_of_getElem? e1; simpa using this
        obtain ⟨v, a1, a2⟩ := hcell q' hlt
        simp [f, a1, a2]
      · have hi := (List.getElem?_eq_some_iff.mp h1).1
        have hj : j < C.sz t := by have := (List.getElem?_eq_some_iff.mp h2).1; rwa [HC.len] at this
        obtain ⟨v, a1, a2⟩ := hrow i y j cl h1 h2
        refine ⟨v, ?_, a2⟩
        rw [List.getElem?_map, List.getElem?_range (row_lt hi hj)]
        simp only [Option.map_some, f]
        rw [← Nat.add_assoc, a1]; rfl


theorem i64max' : (IntKind.i64.max : Int) = 9223372036854775807 := by decide
theorem zeroCells_get {zero : Array Value} {n q : Nat} (h : q < n * zero.size) : ∃ v ∈ zero.toList, (Builtin.zeroCells zero n)[q]? = some v := by
  have hz : 0 < zero.size := by
    rcases Nat.eq_zero_or_pos zero.size with e | e
    · rw [e] at h; omega
    · exact e
  have hm : q % zero.size < zero.size := Nat.mod_lt _ hz
  refine ⟨zero[q % zero.size], by simp, ?_⟩
  unfold Builtin.zeroCells
  rw [Array.getElem?_map, Array.getElem?_range, if_pos h]
  simp [hm]

/-- the machine's append, in either way -/
theorem run_append (HC : CodOk C) {t1 t2 e ty : TypeId} {t : κ} {ie : TypeInfo} {te : TypeId} {z : Value} (hu : P.underlying t1 = some (.slice e)) (hu2 : P.underlying t2 = some (.slice te)) (hi : P.info? e = some ie) (hs : ie.size = C.sz t) (hby : ie.bytes = C.by' t)
    (hz : ie.zero = some z) (hzs : z.cells.size = C.sz t)
    {xs ys : List (Ty t)} {A A' : Option Addr} {c c' : Nat} {old new : List Value}
    (hold : (Builtin.firstCells (C.sz t) xs.length (.slice A xs.length c)).run P w.drew = .ok old.toArray w.drew)
    (hnew0 : (Builtin.firstCells (C.sz t) ys.length (.slice A' ys.length c')).run P w = .ok new.toArray w)
    (hnew : (Builtin.firstCells (C.sz t) ys.length (.slice A' ys.length c')).run P w.drew = .ok new.toArray w.drew)
    (hb : (xs.length + ys.length) * C.by' t ≤ 140737488355328) (hb1 : 0 < C.by' t) :
    (xs.length + ys.length ≤ c → (Builtin.append_ #[t1, t2] ty #[.slice A xs.length c, .slice A' ys.length c']).run P w =
        ((match A with | some a => storeCells (a.add (xs.length * C.sz t)) new | none => pure ()).run P w).andThen fun _ w' => .ok (.slice A (xs.length + ys.length) c) w') ∧
    (¬ xs.length + ys.length ≤ c → ∃ nc, xs.length + ys.length ≤ nc ∧ (Builtin.append_ #[t1, t2] ty #[.slice A xs.length c, .slice A' ys.length c']).run P w =
        .ok (.slice (some (at' w.heap.size 0)) (xs.length + ys.length) nc) (w.drew.alloc (.cells (old.toArray ++ new.toArray ++ Builtin.zeroCells z.cells (nc - (xs.length + ys.length))) e))) := by
  have hneed : ((xs.length + ys.length : Nat) : Int) ≤ 140737488355328 := by
    have : xs.length + ys.length ≤ (xs.length + ys.length) * C.by' t := Nat.le_mul_of_pos_right _ hb1
    omega
  refine ⟨fun hle => ?_, fun hgt => ?_⟩
  · simp only [Builtin.append_, List.getElem?_toArray, List.getElem?_cons_zero, List.getElem?_cons_succ, Sem.run_bind, run_underlying hu, run_underlying hu2, Result.andThen_ok, runSz hi, hs, Sem.run_pure, Builtin.lenOf]
    simp only [Bool.false_eq_true, if_false, Builtin.lenOf, Sem.run_pure, Result.andThen_ok, hle, if_true, Bool.not_false, Sem.run_bind, hnew0]
    cases A with
    | none => simp
    | some a => simp
  · refine ⟨(Question.appendCap (xs.length + ys.length) c e).cut (w.tape w.drawn (Question.appendCap (xs.length + ys.length) c e)), ?_, ?_⟩
    · simp only [Question.cut]; omega
    · have hcap := nextcap_le (need := xs.length + ys.length) (old := c) (by omega)
      have h1 : ¬ (((xs.length + ys.length : Nat) : Int) > IntKind.i64.max ∧ (ie.bytes = 0)) := by rw [hby]; omega
      have h2 : ¬ (Builtin.nextslicecap (xs.length + ys.length) c * ie.bytes > 2 ^ 48) := by
        rw [hby]
        have := Nat.mul_le_mul_right (C.by' t) hcap
        rw [Nat.mul_assoc] at this
        have h48 : (2 : Nat) ^ 48 = 281474976710656 := by decide
        omega
      simp only [Builtin.append_, List.getElem?_toArray, List.getElem?_cons_zero, List.getElem?_cons_succ, Sem.run_bind, run_underlying hu, run_underlying hu2, Result.andThen_ok, runSz hi, hs, Sem.run_pure, Builtin.lenOf]
      simp only [Bool.false_eq_true, if_false, Builtin.lenOf, Sem.run_pure, Result.andThen_ok, hgt, Bool.not_false, if_true, Sem.run_bind, runTI hi, false_or, h1, h2, run_choose, Question.forced, World.drew_eq, run_askRoom, hold, hnew]
      simp [zeroValue, runTI hi, hz, newRow, World.alloc_eq, at']


/-- rows behind rows behind more -/
theorem rows_append (HC : CodOk C) {t : κ} {xs ys : List (Ty t)} {old new rest : List Value} (ho : old.length = xs.length * C.sz t) (hn : new.length = ys.length * C.sz t)
    (h1 : ∀ i y j cl, xs[i]? = some y → (C.enc t y)[j]? = some cl → ∃ v, old[i * C.sz t + j]? = some v ∧ VRel C w Mut ρ objs cl v)
    (h2 : ∀ i y j cl, ys[i]? = some y → (C.enc t y)[j]? = some cl → ∃ v, new[i * C.sz t + j]? = some v ∧ VRel C w Mut ρ objs cl v) :
    ∀ i y j cl, (xs ++ ys)[i]? = some y → (C.enc t y)[j]? = some cl → ∃ v, (old ++ new ++ rest)[i * C.sz t + j]? = some v ∧ VRel C w Mut ρ objs cl v := by
  intro i y j cl hi hj
  have hjs : j < C.sz t := by have := (List.getElem?_eq_some_iff.mp hj).1; rwa [HC.len] at this
  by_cases hx : i < xs.length
  · rw [List.getElem?_append_left hx] at hi
    obtain ⟨v, a1, a2⟩ := h1 i y j cl hi hj
    have := row_lt hx hjs
    exact ⟨v, by rw [List.append_assoc, List.getElem?_append_left (by omega)]; exact a1, a2⟩
  · rw [List.getElem?_append_right (by omega)] at hi
    obtain ⟨v, a1, a2⟩ := h2 (i - xs.length) y j cl hi hj
    have hlt := (List.getElem?_eq_some_iff.mp a1).1
    refine ⟨v, ?_, a2⟩
    have e : i * C.sz t + j - old.length = (i - xs.length) * C.sz t + j := by
      rw [ho, Nat.sub_mul]
      have := Nat.mul_le_mul_right (C.sz t) (show xs.length ≤ i by omega)
      omega
    have hge : old.length ≤ i * C.sz t + j := by
      rw [ho]
      have := Nat.mul_le_mul_right (C.sz t) (show xs.length ≤ i by omega)
      omega
    rw [List.append_assoc, List.getElem?_append_right hge, e, List.getElem?_append_left hlt]; exact a1

/-- what an append begins with: nothing, or what is given up for it -/
structure Base (C : Cod κ Ty) (w : World) (Mut : Nat → Prop) (ρ : Nat → Loc) (objs objs1 : Objs κ Ty) (t : κ) (xs : List (Ty t)) (A : Option Addr) (c blk off : Nat) : Prop where
  weak : Weaker objs objs1
  le : xs.length ≤ c
  at_ : c ≠ 0 → A = some (at' blk off) ∧ blk < w.heap.size ∧ FootB ρ objs blk ∧ ∀ i, ¬ FootAt ρ objs1 i blk
  row : ∀ i y j cl, xs[i]? = some y → (C.enc t y)[j]? = some cl → ∃ v, w.cell? (at' blk (off + i * C.sz t + j)) = some v ∧ VRel C w Mut ρ objs cl v
  room : ∀ q, q < c * C.sz t → ∃ v, w.cell? (at' blk (off + q)) = some v ∧ isCell v = true ∧ w.frozen? (at' blk (off + q)) = false

theorem append_sound (HC : CodOk C) (S : SRel C Mut Lent w0 ρ env objs tm w) {t1 t2 e ty : TypeId} {t : κ} {ie : TypeInfo} {te : TypeId} {z : Value} (hu : P.underlying t1 = some (.slice e)) (hu2 : P.underlying t2 = some (.slice te)) (hi : P.info? e = some ie) (hs : ie.size = C.sz t) (hby : ie.bytes = C.by' t)
    (hz : ie.zero = some z) (hzs : z.cells.size = C.sz t) (hzc : ∀ v ∈ z.cells.toList, isCell v = true) (hb1 : 0 < C.by' t)
    {xs ys : List (Ty t)} {A A' : Option Addr} {c c' blk off blk' off' : Nat} (B : Base C w Mut ρ objs objs1 t xs A c blk off)
    (hA' : ys ≠ [] → A' = some (at' blk' off') ∧ blk' < w.heap.size)
    (hrow' : ∀ i y j cl, ys[i]? = some y → (C.enc t y)[j]? = some cl → ∃ v, w.cell? (at' blk' (off' + i * C.sz t + j)) = some v ∧ VRel C w Mut ρ objs cl v)
    (hb : (xs.length + ys.length) * C.by' t ≤ 140737488355328) :
    ∃ u w' ρ', (Builtin.append_ #[t1, t2] ty #[.slice A xs.length c, .slice A' ys.length c']).run P w = .ok u w' ∧ SRel C Mut Lent w0 ρ' env (objs1 ++ [.sl t (xs ++ ys)]) tm w' ∧
      VRel C w' Mut ρ' (objs1 ++ [.sl t (xs ++ ys)]) (.own objs1.length) u := by
  have hAx : xs ≠ [] → A = some (at' blk off) ∧ blk < w.heap.size := fun hne => by
    have := List.length_pos_iff.mpr hne
    have := B.at_ (by have := B.le; omega)
    exact ⟨this.1, this.2.1⟩
  obtain ⟨old, o1, o2, o3, o4⟩ := firstCells_sound (P := P) HC (c := c) hAx B.row
  obtain ⟨new, n1, n2, n3, n4⟩ := firstCells_sound (P := P) HC (c := c') hA' hrow'
  obtain ⟨r1, r2⟩ := run_append (P := P) (w := w) HC (ty := ty) hu hu2 hi hs hby hz hzs (o2 w.drew (fun _ => rfl)) (n2 w (fun _ => rfl)) (n2 w.drew (fun _ => rfl)) hb hb1
  have hlen1 := B.weak.1
  by_cases hle : xs.length + ys.length ≤ c
  · have r1 := r1 hle
    by_cases hc0 : c = 0
    · subst hc0
      have hx : xs = [] := List.length_eq_zero_iff.mp (by omega)
      have hy : ys = [] := List.length_eq_zero_iff.mp (by omega)
      subst hx; subst hy
      have hn0 : new = [] := List.length_eq_zero_iff.mp (by simpa using n1)
      subst hn0
      refine ⟨_, w, upd ρ objs1.length ⟨0, 0, 0⟩, ?_, ?_, .own (push_new objs1 _) (A := A) ?_⟩
      · rw [r1, upd_same]
        cases A <;> simp [storeCells]
      · refine S.take (w' := w) B.weak (o := .sl t []) (l := ⟨0, 0, 0⟩) (fun b _ _ => rfl) (Nat.le_refl _) (.inr fun b hb => ?_) (fun b _ => rfl) (fun W => ?_) rfl rfl rfl
        · unfold FootAt at hb; rw [push_new, upd_same] at hb; exact hb.1 rfl
        · unfold ORel; rw [push_new, upd_same]
          exact ⟨Nat.le_refl _, fun h => absurd rfl h, fun i x j cl hx => by simp at hx, fun q hq => by simp at hq⟩
      · rw [upd_same]; intro h; exact absurd rfl h
    · obtain ⟨rfl, hblk, hfoot, hnone⟩ := B.at_ hc0
      have hst := run_storeCells_cells (P := P) blk (off + xs.length * C.sz t) new 0 w (fun j hj => by
        obtain ⟨v, a1, _⟩ := B.room (xs.length * C.sz t + j) (by
          have := Nat.mul_le_mul_right (C.sz t) hle
          rw [Nat.add_mul] at this; omega)
        rw [show (⟨blk, off + xs.length * C.sz t + 0 + j, none⟩ : Addr) = at' blk (off + (xs.length * C.sz t + j)) by simp [at', Nat.add_assoc], a1]; rfl) (fun j hj => by
        obtain ⟨v, _, _, a3⟩ := B.room (xs.length * C.sz t + j) (by
          have := Nat.mul_le_mul_right (C.sz t) hle
          rw [Nat.add_mul] at this; omega)
        rw [show (⟨blk, off + xs.length * C.sz t + 0 + j, none⟩ : Addr) = at' blk (off + (xs.length * C.sz t + j)) by simp [at', Nat.add_assoc]]; exact a3) (fun v hv => by
        obtain ⟨q, hq⟩ := List.getElem?_of_mem hv
        exact isCell_one (n3 q v hq))
      simp only [Nat.add_zero] at hst
      have hcell := fun q => setCells_cell (w := w) (b := blk) (o := off + xs.length * C.sz t) (vs := new) (q := q) (fun j hj => by
        obtain ⟨v, a1, _⟩ := B.room (xs.length * C.sz t + j) (by
          have := Nat.mul_le_mul_right (C.sz t) hle
          rw [Nat.add_mul] at this; omega)
        exact ⟨v, by rw [Nat.add_assoc]; exact a1⟩)
      obtain ⟨s1, s2, s3⟩ := setCells_os blk new (off + xs.length * C.sz t) w
      refine ⟨.slice (some (at' blk off)) (xs.length + ys.length) c, w.setCells blk (off + xs.length * C.sz t) new, upd ρ objs1.length ⟨blk, off, c⟩, ?_, ?_, ?_⟩
      rotate_left
      · refine S.take (w' := w.setCells blk (off + xs.length * C.sz t) new) B.weak (o := .sl t (xs ++ ys)) (l := ⟨blk, off, c⟩) (fun b _ h => setCells_block _ _ _ _ _ ?_) (by rw [setCells_size]; exact Nat.le_refl _) (.inl (.inr ⟨hfoot, hnone⟩)) (fun b hb => setCells_block _ _ _ _ _ ?_) (fun W => ?_) s1 s2 s3
        · rcases h with h | h
          · exact h
          · rintro rfl; exact h hfoot
        · rintro rfl; obtain ⟨i, hi⟩ := hb; exact hnone i hi
        · unfold ORel; rw [push_new, upd_same]
          dsimp only
          refine ⟨by simpa using hle, fun _ => by rw [setCells_size]; exact hblk, ?_, fun q hq => ?_⟩
          · intro i x j cl hx hj
            have hjs : j < C.sz t := by have := (List.getElem?_eq_some_iff.mp hj).1; rwa [HC.len] at this
            have hcm := compat_weaker_push (ρ := ρ) B.weak (.sl t (xs ++ ys)) ⟨blk, off, c⟩
            by_cases hix : i < xs.length
            · rw [List.getElem?_append_left hix] at hx
              obtain ⟨v, a1, a2⟩ := B.row i x j cl hx hj
              have := row_lt hix hjs
              exact ⟨v, by rw [hcell, if_neg (by omega)]; exact a1, a2.step W (by simp; omega) hcm⟩
            · rw [List.getElem?_append_right (by omega)] at hx
              obtain ⟨v, a1, a2⟩ := n4 (i - xs.length) x j cl hx hj
              have hlt := (List.getElem?_eq_some_iff.mp a1).1
              have hm := Nat.mul_le_mul_right (C.sz t) (show xs.length ≤ i by omega)
              rw [Nat.sub_mul] at a1 hlt
              refine ⟨v, ?_, a2.step W (by simp; omega) hcm⟩
              rw [hcell, if_pos (by omega), ← a1]; congr 1; omega
          · obtain ⟨v, a1, a2, a3⟩ := B.room q hq
            by_cases hin : off + xs.length * C.sz t ≤ off + q ∧ off + q < off + xs.length * C.sz t + new.length
            · have hk : new[off + q - (off + xs.length * C.sz t)]? = some (new[off + q - (off + xs.length * C.sz t)]'(by omega)) := List.getElem?_eq_getElem _
              exact ⟨_, by rw [hcell, if_pos hin]; exact hk, n3 _ _ hk, by rw [World.frozen?_setCells]; exact a3⟩
            · exact ⟨v, by rw [hcell, if_neg hin]; exact a1, a2, by rw [World.frozen?_setCells]; exact a3⟩
      · have := VRel.own (C := C) (w := w.setCells blk (off + xs.length * C.sz t) new) (Mut := Mut) (ρ := upd ρ objs1.length ⟨blk, off, c⟩) (push_new objs1 (.sl t (xs ++ ys))) (A := some (at' blk off)) (fun _ => by rw [upd_same])
        rw [upd_same, List.length_append] at this
        exact this
      · rw [r1]; dsimp only; rw [add_at]; rw [show at' blk (off + xs.length * C.sz t) = ⟨blk, off + xs.length * C.sz t, none⟩ from rfl, hst]; rfl
  · obtain ⟨nc, h1, r2⟩ := r2 hle
    refine ⟨_, _, upd ρ objs1.length ⟨w.heap.size, 0, nc⟩, r2, ?_, ?_⟩
    · refine S.take (w' := w.drew.alloc _) B.weak (o := .sl t (xs ++ ys)) (l := ⟨w.heap.size, 0, nc⟩) (fun b hb _ => heap_alloc_old w.drew _ hb) (by simp) (.inl (.inl (Nat.le_refl _))) (fun b ⟨i, hi⟩ => heap_alloc_old w.drew _ (S.flt (B.weak.foot hi))) (fun W => ?_) rfl rfl rfl
      unfold ORel; rw [push_new, upd_same]
      have hcm := compat_weaker_push (ρ := ρ) B.weak (.sl t (xs ++ ys)) ⟨w.heap.size, 0, nc⟩
      have hcells : ∀ (q : Nat), (w.drew.alloc (.cells (old.toArray ++ new.toArray ++ Builtin.zeroCells z.cells (nc - (xs.length + ys.length))) e)).cell? (at' w.heap.size (0 + q)) = (old ++ new ++ (Builtin.zeroCells z.cells (nc - (xs.length + ys.length))).toList)[q]? := fun q => by
        rw [Nat.zero_add]
        have := World.cell?_alloc_new w.drew (old.toArray ++ new.toArray ++ Builtin.zeroCells z.cells (nc - (xs.length + ys.length))) e q
        simp only [World.size_drew] at this
        rw [at', this, ← Array.getElem?_toList]
        simp
      refine ⟨by simpa using h1, fun _ => by simp, ?_, fun q hq => ?_⟩
      · intro i x j cl hx hj
        obtain ⟨v, a1, a2⟩ := rows_append (rest := (Builtin.zeroCells z.cells (nc - (xs.length + ys.length))).toList) HC o1 n1 o4 n4 i x j cl hx hj
        have e0 : 0 + i * C.sz t + j = 0 + (i * C.sz t + j) := Nat.add_assoc _ _ _
        refine ⟨v, ?_, a2.step W (by simp; omega) hcm⟩
        dsimp only
        rw [e0, hcells]
        exact a1
      · dsimp only; rw [hcells]
        by_cases q1 : q < old.length + new.length
        · have hq' : (old ++ new)[q]? = some ((old ++ new)[q]'(by simpa using q1)) := List.getElem?_eq_getElem _
          refine ⟨_, by rw [List.getElem?_append_left (by simpa using q1)]; exact hq', ?_, by simp only [at', Nat.zero_add]; exact World.frozen?_alloc_new w.drew _ _ _⟩
          by_cases q2 : q < old.length
          · rw [List.getElem?_append_left q2] at hq'; exact o3 _ _ hq'
          · rw [List.getElem?_append_right (by omega)] at hq'; exact n3 _ _ hq'
        · obtain ⟨v, b1, b2⟩ := zeroCells_get (zero := z.cells) (n := nc - (xs.length + ys.length)) (q := q - (old.length + new.length)) (by
            dsimp only at hq
            rw [hzs, Nat.sub_mul, Nat.add_mul]; omega)
          exact ⟨v, by rw [List.getElem?_append_right (by simp; omega)]; simpa using b2, hzc v b1, by simp only [at', Nat.zero_add]; exact World.frozen?_alloc_new w.drew _ _ _⟩
    · have := VRel.own (C := C) (w := w.drew.alloc (.cells (old.toArray ++ new.toArray ++ Builtin.zeroCells z.cells (nc - (xs.length + ys.length))) e)) (Mut := Mut) (ρ := upd ρ objs1.length ⟨w.heap.size, 0, nc⟩) (push_new objs1 (.sl t (xs ++ ys))) (A := some (at' w.heap.size 0)) (fun _ => by rw [upd_same])
      rw [upd_same, List.length_append] at this
      exact this

end
end Km
