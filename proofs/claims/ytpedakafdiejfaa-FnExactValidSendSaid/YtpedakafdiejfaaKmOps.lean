/- A part of the proof: an abstract machine over the program (sound by its theorems), or definitions printed by it. There is no condition. -/
import Derived.Test.YtpedakafdiejfaaKmRel
import Derived.Laws.IdiomCopy
import Derived.ChangeKeysEq
namespace Km
open Go
set_option linter.unusedVariables false
set_option linter.unusedSimpArgs false

variable {κ : Type} {Ty : κ → Type} {R : Type}

def zval : AV κ Ty → Option Value
  | .lit v => some v
  | .nil _ => some (.slice none 0 0)
  | _ => none

/-- the table tells the program's types -/
structure TOk (P : Program) (C : Cod κ Ty) (T : TypeId → Option (TI κ Ty)) : Prop where
  info : ∀ t ti, T t = some ti → ∃ i z, P.info? t = some i ∧ i.size = ti.size ∧ i.bytes = ti.bytes ∧ i.zero = some z ∧ z.cells.toList.map some = ti.zero.map zval ∧ (∀ v ∈ z.cells.toList, isCell v = true)
  agg : ∀ t ti, T t = some ti → ∃ d, P.underlying t = some d ∧ (match d with | .struct _ => true | .array .. => true | _ => false) = ti.agg
  int : ∀ t ti k, T t = some ti → ti.shp = .int k → P.underlying t = some (.int k)
  bool : ∀ t ti, T t = some ti → ti.shp = .bool → P.underlying t = some .bool
  str : ∀ t ti, T t = some ti → ti.shp = .str → P.underlying t = some .string
  struct : ∀ t ti fs, T t = some ti → ti.shp = .struct fs → ∃ fields, P.underlying t = some (.struct fields) ∧ fields.toList.map (fun f => (f.offset, f.type)) = fs ∧ (∀ f ∈ fields.toList, ∃ i, P.info? f.type = some i ∧ i.size ≠ 0)
  arr : ∀ t ti n e s, T t = some ti → ti.shp = .arr n e s → P.underlying t = some (.array n e) ∧ (∃ i, P.info? e = some i ∧ i.size = C.sz s ∧ i.bytes = C.by' s) ∧ ∃ te, T e = some te ∧ te.zero.length = C.sz s ∧ ti.zero = (List.replicate n te.zero).flatten
  slice : ∀ t ti e s, T t = some ti → ti.shp = .slice e s → P.underlying t = some (.slice e) ∧ ∃ i, P.info? e = some i ∧ i.size = C.sz s ∧ i.bytes = C.by' s

theorem add_at (b o j : Nat) : (at' b o).add j = at' b (o + j) := by unfold Addr.add; split <;> simp_all [at']

section
variable {P : Program} {C : Cod κ Ty} {T : TypeId → Option (TI κ Ty)}
variable {Mut : Nat → Prop} {Lent : Org κ Ty} {w0 w w' : World} {ρ ρ' : Nat → Loc} {env : Env κ Ty} {objs objs' : Objs κ Ty} {a : Act}
variable {x : AV κ Ty} {next : Act → World → Prop} {Q : Exit → Act → World → Prop} {o : Oper}

theorem wp_value {u : Value} (h : (execOp a.eval o).run P w = .ok (.value u) w') (hn : next (a.put o.dst u) w') : o.wp P a w next Q := by
  simp only [Oper.wp, h, Oper.upon]; exact hn
theorem wp_skip' (h : (execOp a.eval o).run P w = .ok .skip w') (hn : next (a.put o.dst undef) w') : o.wp P a w next Q := by
  simp only [Oper.wp, h, Oper.upon]; exact hn

theorem ifB_some {b : Bool} {K : Bool → Option R} {r : R} (h : ifB b K = some r) : K b = some r := by cases b <;> exact h
theorem bind_some {α : Type} {x : Option α} {K : α → Option R} {r : R} (h : x.bind K = some r) : ∃ y, x = some y ∧ K y = some r := by
  cases x with
  | none => cases h
  | some y => exact ⟨y, rfl, h⟩

theorem look_rel (S : SRel C Mut Lent w0 ρ env objs a.tmps w) (t : Nat) : VRel C w Mut ρ objs (look env t) (a.tmps.getD t undef) := by
  rcases S.env t with h | ⟨u, h1, h2⟩
  · rw [h]; exact .undef
  · have : a.tmps.getD t undef = u := by simp [h1]
    rw [this]; exact h2
theorem opnd_rel (HT : TOk P C T) (S : SRel C Mut Lent w0 ρ env objs a.tmps w) (ty : TypeId) (x : Operand) : VRel C w Mut ρ objs (opnd T env ty x) (a.eval x) := by
  cases x with
  | tmp t => exact look_rel S t
  | const v =>
    simp only [opnd, Act.eval]
    split
    · split
      · split
        · exact .nil
        · exact .undef
      · exact .undef
    · exact .undef
    · exact .undef
    · rename_i h1 h2 h3
      refine .lit ?_
      cases v <;> simp_all [isCell]
  | global g => exact .undef
  | func f => exact .lit rfl

/-- the same world: only the variable turns -/
theorem lit_inv {v u : Value} (h : VRel C w Mut ρ objs (.lit v) u) : u = v ∧ isCell v = true := by cases h with | lit h => exact ⟨rfl, h⟩

theorem run_isAgg (HT : TOk P C T) {t : TypeId} {ti : TI κ Ty} (h : T t = some ti) (w : World) : (isAgg t).run P w = .ok ti.agg w := by
  obtain ⟨d, h1, h2⟩ := HT.agg t ti h
  simp only [isAgg, Sem.run_bind, run_underlying h1, Result.andThen_ok]
  cases d <;> simp_all
theorem runTI {t : TypeId} {i : TypeInfo} (h : P.info? t = some i) (w : World) : (typeInfo t).run P w = .ok i w := by
  simp [typeInfo, h]
theorem runSz {t : TypeId} {i : TypeInfo} (h : P.info? t = some i) (w : World) : (Go.sizeOf t).run P w = .ok i.size w := by
  simp [Go.sizeOf, runTI h]
theorem run_sizeOf' (HT : TOk P C T) {t : TypeId} {ti : TI κ Ty} (h : T t = some ti) (w : World) : (Go.sizeOf t).run P w = .ok ti.size w := by
  obtain ⟨i, z, h1, h2, _⟩ := HT.info t ti h
  rw [← h2]; exact runSz h1 w
theorem run_zeroValue' (HT : TOk P C T) {t : TypeId} {ti : TI κ Ty} (h : T t = some ti) (w : World) : ∃ z, (zeroValue t).run P w = .ok z w ∧ z.cells.toList.map some = ti.zero.map zval ∧ (∀ v ∈ z.cells.toList, isCell v = true) := by
  obtain ⟨i, z, h1, h2, _, h3, h4, h5⟩ := HT.info t ti h
  exact ⟨z, by simp [zeroValue, runTI h1, h3], h4, h5⟩

/-- reading at cells that are there -/
theorem run_loadVar (HT : TOk P C T) {t : TypeId} {ti : TI κ Ty} (ht : T t = some ti) {cs : List (AV κ Ty)} {b base off : Nat} {v : AV κ Ty}
    (hcell : ∀ j cl, cs[j]? = some cl → ∃ u, w.cell? (at' b (base + j)) = some u ∧ isCell u = true ∧ VRel C w Mut ρ objs cl u)
    (h : loadC ti cs off = some v) : ∃ u, (loadVar t (at' b (base + off))).run P w = .ok u w ∧ VRel C w Mut ρ objs v u := by
  unfold loadC at h
  split at h
  · rename_i hag
    split at h
    · rename_i hle
      have hle : off + ti.size ≤ cs.length := Nat.le_of_ble_eq_true hle
      cases h
      have hall : ∀ j, j < ti.size → ∃ u, w.cell? (at' b (base + off + j)) = some u ∧ isCell u = true ∧ ∃ cl, cs[off + j]? = some cl ∧ VRel C w Mut ρ objs cl u := by
        intro j hj
        have hlt : off + j < cs.length := by omega
        obtain ⟨u, h1, h2, h3⟩ := hcell (off + j) cs[off + j] (List.getElem?_eq_getElem hlt)
        exact ⟨u, by rw [Nat.add_assoc]; exact h1, h2, _, List.getElem?_eq_getElem hlt, h3⟩
      let f : Nat → Value := fun j => (w.cell? (at' b (base + off + j))).getD Go.undef
      have hf : ∀ j, j < ti.size → w.cell? (at' b (base + off + j)) = some (f j) := fun j hj => by
        obtain ⟨u, h1, _⟩ := hall j hj
        simp [f, h1]
      refine ⟨.agg ((List.range ti.size).map f).toArray, ?_, ?_⟩
      · have hl := run_loadCells (P := P) w (at' b (base + off)) ti.size f (fun j hj => by rw [add_at]; exact hf j hj)
        simp [loadVar, run_isAgg HT ht, hag, run_sizeOf' HT ht, hl]
      · refine .agg (by simp; omega) (fun j u hj => ?_) (fun j cl u hj1 hj2 => ?_)
        · simp only [List.getElem?_map, Option.map_eq_some_iff] at hj
          obtain ⟨j', h1, rfl⟩ := hj
          have h2 : j' < ti.size := by
            have := List.mem_of_getElem? h1; simpa using this
          obtain ⟨u, g1, g2, _⟩ := hall j' h2
          have : f j' = u := by simp [f, g1]
          rw [this]; exact g2
        · have hjs : j < ti.size := by
            have := (List.getElem?_eq_some_iff.mp hj2).1; simpa using this
          rw [List.getElem?_take_of_lt hjs, List.getElem?_drop] at hj1
          obtain ⟨u', g1, g2, cl', g3, g4⟩ := hall j hjs
          rw [hj1] at g3; cases g3
          have : u = u' := by
            simp [List.getElem?_map, List.getElem?_range hjs, f, g1] at hj2
            exact hj2.symm
          rw [this]; exact g4
    · cases h
  · rename_i hag
    obtain ⟨u, h1, h2, h3⟩ := hcell off v h
    exact ⟨u, by simp [loadVar, run_isAgg HT ht, hag, run_load, h1], h3⟩


theorem deep_isCell (HC : CodOk C) {t : κ} {x : Ty t} {cl : AV κ Ty} {u : Value} (hm : cl ∈ C.enc t x) (h : VRel C w Mut ρ objs cl u) : isCell u = true := by
  rcases HC.deep t x cl hm with ⟨v, rfl⟩ | ⟨s, xs, rfl, _⟩
  · exact (lit_inv h).1 ▸ (lit_inv h).2
  · cases h with | inl => rfl

theorem addr_cases (h : isAddr objs x = true) {u : Value} (hr : VRel C w Mut ρ objs x u) :
    (∃ id off cs, x = .ref id off ∧ objs[id]? = some (.box cs) ∧ u = .pointer (some (at' (ρ id).block ((ρ id).off + off)))) ∨
    (∃ id i off t xs, x = .eref id i off ∧ objs[id]? = some (.sl t xs) ∧ i < xs.length ∧ u = .pointer (some (at' (ρ id).block ((ρ id).off + i * C.sz t + off)))) ∨
    (∃ b cs off blk base, x = .cadr b cs off ∧ u = .pointer (some (at' blk (base + off))) ∧ ¬ Xs Mut ρ objs b blk ∧ blk < w.heap.size ∧ ∀ j cl, cs[j]? = some cl → ∃ v, w.cell? (at' blk (base + j)) = some v ∧ VRel C w Mut ρ objs cl v) := by
  cases hr with
  | ref h1 => exact .inl ⟨_, _, _, rfl, h1, rfl⟩
  | refd hcl hin h1 => simp [isAddr, h1] at h
  | eref h1 hi => exact .inr (.inl ⟨_, _, _, _, _, rfl, h1, hi, rfl⟩)
  | erefd hcl hin h1 => simp [isAddr, h1] at h
  | cadr hX hlt hcell hisc hrel => exact .inr (.inr ⟨_, _, _, _, _, rfl, rfl, hX, hlt, fun j cl hj => ⟨_, hcell j cl hj, hrel j cl hj⟩⟩)
  | _ => simp [isAddr] at h

theorem addr_pointer (h : isAddr objs x = true) {u : Value} (hr : VRel C w Mut ρ objs x u) : ∃ b o, u = .pointer (some (at' b o)) := by
  rcases addr_cases h hr with ⟨_, _, _, _, _, rfl⟩ | ⟨_, _, _, _, _, _, _, _, rfl⟩ | ⟨_, _, _, _, _, _, rfl, _⟩ <;> exact ⟨_, _, rfl⟩

theorem afield_rel {fs : List (Nat × TypeId)} {f d : Nat} {t : TypeId} {x v : AV κ Ty} {b k : Nat} (hd : fs[f]? = some (d, t)) (ha : isAddr objs x = true) (h : afield fs f x = some v)
    (hr : VRel C w Mut ρ objs x (.pointer (some (at' b k)))) : VRel C w Mut ρ objs v (.pointer (some (at' b (k + d)))) := by
  simp only [afield, hd] at h
  cases hr with
  | ref h1 => cases h; rw [Nat.add_assoc]; exact .ref h1
  | refd hcl hin h1 => simp [isAddr, h1] at ha
  | eref h1 hi => cases h; rw [Nat.add_assoc]; exact .eref h1 hi
  | erefd hcl hin h1 => simp [isAddr, h1] at ha
  | cadr hX hlt hcell hisc hrel => cases h; rw [Nat.add_assoc]; exact .cadr hX hlt hcell hisc hrel
  | _ => simp [isAddr] at ha

/-- 'aload' -/
theorem aload_sound (HT : TOk P C T) (HC : CodOk C) (S : SRel C Mut Lent w0 ρ env objs a.tmps w) {t : TypeId} {ti : TI κ Ty} (ht : T t = some ti) {x : AV κ Ty} {u : Value} (hx : VRel C w Mut ρ objs x u)
    {K : AV κ Ty → Option R} {r : R} (h : aload C objs ti x K = some r) : ∃ v u', K v = some r ∧ (Instr.loadAt t u).run P w = .ok u' w ∧ VRel C w Mut ρ objs v u' := by
  unfold aload at h
  split at h
  · rename_i id off
    split at h
    · rename_i cs hb
      split at h
      · rename_i v hv
        have hb' := boxOf_some hb
        have ho := S.ob id
        simp only [ORel, hb'] at ho
        cases hx with
        | ref h1 =>
          obtain ⟨u', h2, h3⟩ := run_loadVar (P := P) HT ht (b := (ρ id).block) (base := (ρ id).off) (fun j cl hj => by
            obtain ⟨q, g1, g2, g3, _⟩ := ho.2 j cl hj
            exact ⟨q, g1, g2, g3⟩) hv
          exact ⟨v, u', h, by simp [Instr.loadAt, Instr.sureAddr, h2], h3⟩
        | refd hcl hin h1 => rw [h1] at hb; cases hb
      · cases h
    · cases h
  · rename_i id i off
    split at h
    · rename_i s xs hs
      obtain ⟨x1, hx1, h⟩ := bind_some h
      split at h
      · rename_i v hv
        have hs' := slOf_some hs
        have ho := S.ob id
        simp only [ORel, hs'] at ho
        cases hx with
        | eref h1 hi =>
          rw [hs'] at h1
          cases h1
          obtain ⟨u', h2, h3⟩ := run_loadVar (P := P) HT ht (b := (ρ id).block) (base := (ρ id).off + i * C.sz s) (fun j cl hj => by
            obtain ⟨q, g1, g2⟩ := ho.2.2.1 i x1 j cl hx1 hj
            exact ⟨q, g1, deep_isCell HC (List.mem_of_getElem? hj) g2, g2⟩) hv
          exact ⟨v, u', h, by simp [Instr.loadAt, Instr.sureAddr, h2], h3⟩
        | erefd hcl hin h1 => rw [h1] at hs; cases hs
      · cases h
    · cases h
  · rename_i b cs off
    split at h
    · rename_i v hv
      cases hx with
      | cadr hX hlt hcell hisc hrel =>
        rename_i blk base vals
        obtain ⟨u', h2, h3⟩ := run_loadVar (P := P) HT ht (b := blk) (base := base) (fun j cl hj => ⟨_, hcell j cl hj, hisc j cl hj, hrel j cl hj⟩) hv
        exact ⟨v, u', h, by simp [Instr.loadAt, Instr.sureAddr, h2], h3⟩
    · cases h
  · cases h


theorem ibin_sound {op : BinOp} {k : IntKind} {p q : Int} {K : Value → Option R} {r : R} (t : TypeId) (hs : op ≠ .shl ∧ op ≠ .shr) (h : ibin op k p q K = some r) :
    ∃ v, K v = some r ∧ isCell v = true ∧ (binOp op t (.int k p) (.int k q)).run P w = .ok v w := by
  cases op <;> simp only [ibin] at h <;> first
    | (exact ⟨_, h, rfl, by simp [binOp, Op.intArith, Op.intCmp, Op.intBits]⟩)
    | (obtain ⟨y, hy, h⟩ := bind_some h
       unfold qdiv at hy
       split at hy
       · cases hy
       · rename_i hne; cases hy
         exact ⟨_, h, rfl, by simp [binOp, Op.intDiv, hne]⟩)
    | (obtain ⟨y, hy, h⟩ := bind_some h
       unfold qrem at hy
       split at hy
       · cases hy
       · rename_i hne; cases hy
         exact ⟨_, h, rfl, by simp [binOp, Op.intDiv, hne]⟩)
    | (cases h; done)
    | (exact absurd rfl hs.1)
    | (exact absurd rfl hs.2)


theorem i64max : IntKind.i64.max = 9223372036854775807 := by decide
theorem sbin_sound {op : BinOp} {p q : ByteArray} {K : Value → Option R} {r : R} (t : TypeId) (h : sbin op p q K = some r) :
    ∃ v, K v = some r ∧ isCell v = true ∧ (binOp op t (.string p) (.string q)).run P w = .ok v w := by
  cases op <;> simp only [sbin] at h <;> first
    | (cases h; done)
    | (exact ⟨_, h, rfl, by simp [binOp, Op.stringOp]⟩)
    | (obtain ⟨y, hy, h⟩ := bind_some h
       unfold sadd at hy
       split at hy
       · cases hy
         refine ⟨_, h, rfl, ?_⟩
         have hle : ¬ (((p.size + q.size : Nat) : Int) > IntKind.i64.max) := by rw [i64max]; omega
         simp only [binOp, Op.stringOp, hle, if_false, Sem.run_pure]
       · cases hy)
theorem shift_sound {op : BinOp} {k k' : IntKind} {p q : Int} {v : Int} (t : TypeId) (h : shift op k p q = some v) : isCell (.int k v) = true ∧ (binOp op t (.int k p) (.int k' q)).run P w = .ok (.int k v) w := by
  cases op <;> simp only [shift] at h <;> first
    | (cases h; done)
    | (split at h
       · cases h
       · rename_i hn; cases h; exact ⟨rfl, by simp [binOp, Op.shift, hn]⟩)
theorem boolEq' {t : TypeId} (HB : P.underlying t = some .bool) (p q : Bool) (d : Nat) : (Op.equalIn (d + 1) t (.bool p) (.bool q)).run P w = .ok (p == q) w := by
  simp only [Op.equalIn, Sem.run_bind, run_underlying HB, Result.andThen_ok]
  rfl
theorem boolEq {t : TypeId} (HB : P.underlying t = some .bool) (p q : Bool) : (Op.equal t (.bool p) (.bool q)).run P w = .ok (p == q) w := boolEq' HB p q 9999
theorem guard_lit {op : BinOp} {t : TypeId} {x y : Operand} {u v : Value} (h : ∀ cs, u ≠ .agg cs) (h' : u ≠ .nilIface) : (eqGuard op t x y u v).run P w = .ok () w := by
  unfold eqGuard
  cases u <;> cases op <;> simp at h h' ⊢
theorem vbin_sound (HT : TOk P C T) {t : TypeId} {ti : TI κ Ty} (ht : T t = some ti) {op : BinOp} {p q : AV κ Ty} {up uq : Value} (x y : Operand) (hp : VRel C w Mut ρ objs p up) (hq : VRel C w Mut ρ objs q uq)
    {K : AV κ Ty → Option R} {r : R} (h : vbin ti op p q K = some r) : ∃ v u, K v = some r ∧ (do eqGuard op t x y up uq; binOp op t up uq : Sem Value).run P w = .ok u w ∧ VRel C w Mut ρ objs v u := by
  unfold vbin at h
  split at h
  · split at h
    · obtain ⟨v, hv, h⟩ := bind_some h
      obtain ⟨rfl, _⟩ := lit_inv hp
      obtain ⟨rfl, _⟩ := lit_inv hq
      obtain ⟨h1, h2⟩ := shift_sound (P := P) (w := w) t hv
      exact ⟨_, _, h, by rw [Sem.run_bind, guard_lit (by simp) (by simp)]; exact h2, .lit h1⟩
    · cases h
  · split at h
    · obtain ⟨v, hv, h⟩ := bind_some h
      obtain ⟨rfl, _⟩ := lit_inv hp
      obtain ⟨rfl, _⟩ := lit_inv hq
      obtain ⟨h1, h2⟩ := shift_sound (P := P) (w := w) t hv
      exact ⟨_, _, h, by rw [Sem.run_bind, guard_lit (by simp) (by simp)]; exact h2, .lit h1⟩
    · cases h
  · rename_i n1 n2
    split at h
    · split at h
      · rename_i hk
        have hk := of_decide_eq_true hk
        subst hk
        obtain ⟨rfl, _⟩ := lit_inv hp
        obtain ⟨rfl, _⟩ := lit_inv hq
        obtain ⟨v, h0, h1, h2⟩ := ibin_sound (P := P) (w := w) t ⟨n1, n2⟩ h
        exact ⟨_, _, h0, by rw [Sem.run_bind, guard_lit (by simp) (by simp)]; exact h2, .lit h1⟩
      · cases h
    · obtain ⟨rfl, _⟩ := lit_inv hp
      obtain ⟨rfl, _⟩ := lit_inv hq
      obtain ⟨v, h0, h1, h2⟩ := sbin_sound (P := P) (w := w) t h
      exact ⟨_, _, h0, by rw [Sem.run_bind, guard_lit (by simp) (by simp)]; exact h2, .lit h1⟩
    · obtain ⟨rfl, _⟩ := lit_inv hp
      obtain ⟨rfl, _⟩ := lit_inv hq
      split at h
      · rename_i hs
        have HB := HT.bool t ti ht hs
        split at h
        · exact ⟨_, _, h, by rw [Sem.run_bind, guard_lit (by simp) (by simp)]; simp [binOp, boolEq HB], .lit rfl⟩
        · exact ⟨_, _, h, by rw [Sem.run_bind, guard_lit (by simp) (by simp)]; simp [binOp, boolEq HB], .lit rfl⟩
        · cases h
      · cases h
    · cases h

end
end Km
