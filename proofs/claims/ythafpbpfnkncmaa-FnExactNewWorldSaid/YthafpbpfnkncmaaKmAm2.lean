/- A part of the proof of FnExactNewWorld: an abstract machine over the program, sound by its theorems. There is no condition. -/
import Derived.Test.YthafpbpfnkncmaaKmAm1
import Derived.Laws.StructEq
import Derived.Laws.IdiomStrings
import Derived.WideKeyRuns
import Derived.MapKept
namespace Km
open Go
set_option linter.unusedVariables false
set_option linter.unusedSimpArgs false

variable {κ : Type} {Ty : κ → Type} {R : Type}
section
variable {P : Program} {C : Cod κ Ty} {T : TypeId → Option (TI κ Ty)}
variable {Mut : Nat → Prop} {Lent : Org κ Ty} {w0 w w' : World} {ρ ρ' : Nat → Loc} {env : Env κ Ty} {objs objs' : Objs κ Ty} {a : Act} {tm : Array Value}

/-! ### structs compared -/
theorem aeqFs_sound (HT : TOk P C T) {d m : Nat} {xs ys : List (AV κ Ty)} {us qs : List Value} (hx : Cells C w Mut ρ objs xs us) (hy : Cells C w Mut ρ objs ys qs)
    (hE : ∀ (t : TypeId) (x y : AV κ Ty) (u q : Value) (b : Bool), aeq T d t x y = some b → VRel C w Mut ρ objs x u → VRel C w Mut ρ objs y q → (Op.equalIn (d + m) t u q).run P w = .ok b w) :
    ∀ (fs : List Field) (b : Bool), (∀ f ∈ fs, f.name ≠ "_") → aeqFs T (aeq T d) (fs.map fun f => (f.offset, f.type)) xs ys = some b → (Op.eqFields (d + m) us.toArray qs.toArray fs).run P w = .ok b w
  | [], b, _, h => by cases h; rfl
  | f :: fs, b, hn, h => by
    simp only [List.map_cons, aeqFs] at h
    split at h
    · rename_i ti ht
      split at h
      · rename_i p q hp hq
        split at h
        · rename_i r hr
          split at h
          · rename_i r' hr'
            cases h
            obtain ⟨u, u1, u2⟩ := part_sound (P := P) HT ht hx hp
            obtain ⟨v, v1, v2⟩ := part_sound (P := P) HT ht hy hq
            have he := hE _ _ _ _ _ _ hr u2 v2
            have hrest := aeqFs_sound HT hx hy hE fs r' (fun g hg => hn g (List.mem_cons_of_mem _ hg)) hr'
            simp only [Op.eqFields]
            rw [if_pos (hn f (List.mem_cons_self ..))]
            simp only [Sem.run_bind, u1, v1, he, Result.andThen_ok]
            cases r
            · simp
            · simpa using hrest
          · cases h
        · cases h
      · cases h
    · cases h
theorem aeq_sound (HT : TOk P C T) : ∀ (d m : Nat) (t : TypeId) (x y : AV κ Ty) (u q : Value) (b : Bool), aeq T d t x y = some b → VRel C w Mut ρ objs x u → VRel C w Mut ρ objs y q → (Op.equalIn (d + m) t u q).run P w = .ok b w
  | 0, m, t, x, y, u, q, b, h, _, _ => by cases h
  | d + 1, m, t, x, y, u, q, b, h, hx, hy => by
    rw [show d + 1 + m = d + m + 1 by omega]
    unfold aeq at h
    split at h
    · cases h
    · rename_i ti ht
      split at h
      · rename_i k0 hs
        split at h
        · split at h
          · rename_i k p k' q' hk
            have hk := of_decide_eq_true hk
            subst hk
            obtain ⟨rfl, _⟩ := lit_inv hx
            obtain ⟨rfl, _⟩ := lit_inv hy
            cases h
            exact run_equalIn_int w _ t _ _ _ _ (HT.int t ti _ ht hs)
          · cases h
        · cases h
      · rename_i hs
        split at h
        · obtain ⟨rfl, _⟩ := lit_inv hx
          obtain ⟨rfl, _⟩ := lit_inv hy
          cases h
          exact boolEq' (HT.bool t ti ht hs) _ _ _
        · cases h
      · rename_i hs
        split at h
        · obtain ⟨rfl, _⟩ := lit_inv hx
          obtain ⟨rfl, _⟩ := lit_inv hy
          cases h
          exact run_equalIn_string w _ t _ _ (HT.str t ti ht hs)
        · cases h
      · rename_i fs hs
        split at h
        · rename_i xs ys
          obtain ⟨fields, hu, hfs, _⟩ := HT.struct t ti fs ht hs
          obtain ⟨hst, _, hnm⟩ := HT.seq t ti fs ht hs
          have hxc := cellsOf_rel (C := C) (w := w) (Mut := Mut) (ρ := ρ) (objs := objs) (x := .agg xs) rfl hx
          have hyc := cellsOf_rel (C := C) (w := w) (Mut := Mut) (ρ := ρ) (objs := objs) (x := .agg ys) rfl hy
          have hfd : P.fieldsOf t = fields := by simp [Program.fieldsOf, hu]
          cases hx with
          | agg l1 c1 r1 =>
            cases hy with
            | agg l2 c2 r2 =>
              rename_i us qs
              rw [run_equalIn_struct w _ t _ _ (by rw [hfd]; exact hu) hst, hfd]
              refine aeqFs_sound HT ⟨l1, c1, r1⟩ ⟨l2, c2, r2⟩ (fun t x y u q b h1 h2 h3 => aeq_sound HT d m t x y u q b h1 h2 h3) fields.toList b (fun f hf => hnm fields hu f hf) (by rw [hfs]; exact h)
        · cases h
      · cases h

theorem ebin_sound (HT : TOk P C T) {t : TypeId} {ti : TI κ Ty} (ht : T t = some ti) (ha : ti.agg = true) {x y : AV κ Ty} {u q : Value} (ox oy : Operand) (hx : VRel C w Mut ρ objs x u) (hy : VRel C w Mut ρ objs y q) {b : Bool} (h : aeq T 8 t x y = some b) :
    (do eqGuard .eql t ox oy u q; binOp .eql t u q : Sem Value).run P w = .ok (.bool b) w ∧ (do eqGuard .neq t ox oy u q; binOp .neq t u q : Sem Value).run P w = .ok (.bool (!b)) w := by
  have he := aeq_sound (P := P) HT 8 9992 t x y u q b h hx hy
  have hs : ∃ fs, ti.shp = .struct fs := by
    unfold aeq at h
    rw [ht] at h
    simp only [TI.agg] at ha
    split at ha <;> rename_i hs
    · exact ⟨_, hs⟩
    · dsimp only at h; rw [hs] at h; cases h
    · cases ha
  obtain ⟨fs, hs⟩ := hs
  obtain ⟨_, hg, _⟩ := HT.seq t ti fs ht hs
  have hxa : (∃ xs, x = .agg xs) ∧ ∃ ys, y = .agg ys := by
    unfold aeq at h
    rw [ht] at h; dsimp only at h
    rw [hs] at h; dsimp only at h
    split at h
    · exact ⟨⟨_, rfl⟩, _, rfl⟩
    · cases h
  obtain ⟨⟨xs, rfl⟩, ys, rfl⟩ := hxa
  cases hx with
  | agg l1 c1 r1 =>
    cases hy with
    | agg l2 c2 r2 =>
      rename_i us qs
      constructor
      · rw [Sem.run_bind, run_eqGuard_agg (P := P) w _ t ox oy _ _ hg, Result.andThen_ok, run_eql_struct]
        rw [show (10000 : Nat) = 8 + 9992 from rfl, he]; rfl
      · rw [Sem.run_bind, run_eqGuard_agg (P := P) w _ t ox oy _ _ hg, Result.andThen_ok, run_neq_struct]
        rw [show (10000 : Nat) = 8 + 9992 from rfl, he]; rfl

/-! ### a text's bytes -/
theorem SRel.newSlF (S : SRel C Mut Lent w0 ρ env objs tm w) {t : κ} {xs : List (Ty t)} {cap : Nat} {us : Array Value} (e : TypeId) {f1 f2 : Nat} (hf : cap * C.sz t ≤ f1) (hr : RowsAt C w Mut ρ objs t xs cap (fun q => us[q]?)) :
    SRel C Mut Lent w0 (upd ρ objs.length ⟨w.heap.size, 0, cap, noSub⟩) env (objs ++ [.sl t xs]) tm (w.alloc (.cells us e (f1, f2))) := by
  refine (S.fresh (o := .sl t xs) (l := ⟨w.heap.size, 0, cap, noSub⟩) (w' := w.alloc (.cells us e (f1, f2))) (fun b h => heap_alloc_old w _ h) (by simp) (Nat.le_refl _) (fun W => ?_) rfl rfl rfl).2
  have hnew : (w.alloc (.cells us e (f1, f2))).heap[w.heap.size]? = some (.cells us e (f1, f2)) := by
    show (w.heap.push (.cells us e (f1, f2)))[w.heap.size]? = _
    simp
  have hcell : ∀ q, (w.alloc (.cells us e (f1, f2))).cell? (at' w.heap.size q) = us[q]? := fun q => by
    simp only [World.cell?, at', hnew]; rfl
  unfold ORel
  rw [push_new, upd_same]
  refine ⟨hr.le, fun _ => by simp, fun i x j cl hx hj => ?_, fun q hq => ?_⟩
  · obtain ⟨v, h1, h2⟩ := hr.row i x j cl hx hj
    exact ⟨v, by simp only [Nat.zero_add]; rw [hcell]; exact h1, h2.step W (by simp) (compat_push _ _)⟩
  · obtain ⟨v, h1, h2⟩ := hr.room q hq
    refine ⟨v, by simp only [Nat.zero_add]; rw [hcell]; exact h1, h2, ?_⟩
    simp only [World.frozen?, at', hnew, Nat.zero_add]
    have hq' : q < cap * C.sz t := hq
    simp; omega

theorem strBytes_sound (HT : TOk P C T) (HC : CodOk C) (S : SRel C Mut Lent w0 ρ env objs tm w) {src dst e : TypeId} {ti td te : TI κ Ty} {s : κ} (h1 : T src = some ti) (hs1 : ti.shp = .str) (h2 : T dst = some td) (hs2 : td.shp = .slice e s)
    (h3 : T e = some te) (hs3 : te.shp = .int .u8) {b : ByteArray} {ys : List (Ty s)} (hb : C.ofb s b = some ys) :
    ∃ u' w' ρ', (convert src dst (.string b)).run P w = .ok u' w' ∧ SRel C Mut Lent w0 ρ' env (objs ++ [.sl s ys]) tm w' ∧ VRel C w' Mut ρ' (objs ++ [.sl s ys]) (.own objs.length) u' := by
  obtain ⟨hsl, ie, i1, i2, i3⟩ := HT.slice dst td e s h2 hs2
  have hu8 := HT.int e te _ h3 hs3
  have hstr := HT.str src ti h1 hs1
  obtain ⟨hlen, hrow, hsz⟩ := HC.ofb s b ys hb
  have hrun := run_bytes_of_string w src dst e b hstr hsl hu8
  have hcap : b.size ≤ grownCap w b.size 0 e := (grownCap_ge w b.size 0 e)
  have S' := S.drew
  have hR : RowsAt C w.drew Mut ρ objs s ys (grownCap w b.size 0 e) (fun q => (bytesRow b (grownCap w b.size 0 e))[q]?) := by
    refine ⟨by rw [hlen]; exact hcap, fun i x j cl hx hj => ?_, fun q hq => ?_⟩
    · obtain ⟨c, c1, c2⟩ := hrow i x hx
      have hjl := (List.getElem?_eq_some_iff.mp hj).1
      rw [HC.len, hsz] at hjl
      obtain rfl : j = 0 := by omega
      rw [c2] at hj; cases hj
      refine ⟨_, ?_, .lit rfl⟩
      have hlt := (Array.getElem?_eq_some_iff.mp c1).1
      simp only [bytesRow, hsz, Nat.mul_one, Nat.add_zero]
      rw [Array.getElem?_append_left (by simpa using hlt), Array.getElem?_map, c1]; rfl
    · rw [hsz, Nat.mul_one] at hq
      have hsize : (bytesRow b (grownCap w b.size 0 e)).size = grownCap w b.size 0 e := by
        simp only [bytesRow, Array.size_append, Array.size_map, Array.size_replicate]
        show b.size + _ = _
        omega
      refine ⟨(bytesRow b (grownCap w b.size 0 e))[q]'(by omega), Array.getElem?_eq_getElem _, ?_⟩
      have : ∀ v ∈ bytesRow b (grownCap w b.size 0 e), isCell v = true := fun v hv => by
        simp only [bytesRow, Array.mem_append, Array.mem_map, Array.mem_replicate] at hv
        rcases hv with ⟨c, _, rfl⟩ | ⟨_, rfl⟩ <;> rfl
      exact this _ (Array.getElem_mem _)
  have hsize : (bytesRow b (grownCap w b.size 0 e)).size = grownCap w b.size 0 e := by
    simp only [bytesRow, Array.size_append, Array.size_map, Array.size_replicate]
    show b.size + _ = _
    omega
  refine ⟨_, _, _, hrun, S'.newSlF e (by rw [hsz, hsize]; omega) hR, ?_⟩
  have := VRel.own (C := C) (w := w.drew.alloc (.cells (bytesRow b (grownCap w b.size 0 e)) e ((bytesRow b (grownCap w b.size 0 e)).size, (bytesRow b (grownCap w b.size 0 e)).size + 1))) (Mut := Mut) (ρ := upd ρ objs.length ⟨w.heap.size, 0, grownCap w b.size 0 e, noSub⟩) (push_new objs (.sl s ys)) (A := some (at' w.heap.size 0)) (fun _ => by rw [upd_same])
  rw [upd_same, hlen] at this
  exact this

/-! ### xs[:h:h] -/
theorem aslice3_sound (HT : TOk P C T) (HC : CodOk C) (S : SRel C Mut Lent w0 ρ env objs tm w) {t : TypeId} {ti : TI κ Ty} (ht : T t = some ti) {x : AV κ Ty} {u : Value} {k k' : IntKind} {h m : Int} (hx : VRel C w Mut ρ objs x u)
    {K : AV κ Ty → Option R} {r : R} (hr : aslice3 C objs ti.shp x h m K = some r) : ∃ v u', K v = some r ∧ (Instr.sliceAt t u none (some (.int k h)) (some (.int k' m))).run P w = .ok u' w ∧ VRel C w Mut ρ objs v u' := by
  unfold aslice3 at hr
  split at hr
  · rename_i e s hs
    split at hr
    · rename_i id
      split at hr
      · rename_i t' xs hsl
        split at hr
        · rename_i hsame
          have hst := HC.same _ _ hsame
          subst hst
          obtain ⟨p, hp, hr⟩ := bind_some hr
          split at hp
          · rename_i e0
            subst e0
            unfold wnd at hp
            split at hp
            · rename_i hw
              cases hp
              obtain ⟨u1, ie, i1, i2, i3⟩ := HT.slice t ti e s ht hs
              have hsl' := slOf_some hsl
              have ho := S.ob id
              simp only [ORel, hsl'] at ho
              cases hx with
              | own h1 hA =>
                rw [hsl'] at h1; cases h1
                rename_i A
                refine ⟨_, .slice (if h.toNat = 0 then A else A.map (·.add (0 * C.sz s))) (h.toNat - 0) (h.toNat - 0), hr, ?_, .sub hsl' (by omega) (by omega) (Nat.le_refl _) (by have := ho.1; simp; omega) (fun hc => ?_)⟩
                · have hb1 : (Instr.sliceBound (.int k' h) (ρ id).cap .slice3Acap).run P w = .ok h.toNat w := by
                    simp only [Instr.sliceBound, asIntOf, Sem.run_bind, Sem.run_pure, Result.andThen_ok]
                    rw [if_pos ⟨by omega, by have := ho.1; omega⟩]; rfl
                  have hb2 : (Instr.sliceBound (.int k h) h.toNat .slice3B).run P w = .ok h.toNat w := by
                    simp only [Instr.sliceBound, asIntOf, Sem.run_bind, Sem.run_pure, Result.andThen_ok]
                    rw [if_pos ⟨by omega, by omega⟩]; rfl
                  simp only [Instr.sliceAt, Instr.sureAddr, Sem.run_bind, Sem.run_pure, Result.andThen_ok, Instr.slice, run_underlying u1, Instr.sliceBounds, if_true, hb1, hb2, runSz i1, i2]
                · have hne : h.toNat ≠ 0 := by omega
                  have hc' : (ρ id).cap ≠ 0 := by have := ho.1; omega
                  rw [if_neg hne, hA hc']
                  simp [add_at]
              | ownd hcl hin h1 => rw [h1] at hsl; cases hsl
            · cases hp
          · cases hp
        · cases hr
      · cases hr
    · cases hr
  · cases hr

/-! ### copy -/
theorem SRel.storeRows (HC : CodOk C) (S : SRel C Mut Lent w0 ρ env objs tm w) {id p : Nat} {t : κ} {xs zs : List (Ty t)} {us : List Value} (hid : objs[id]? = some (.sl t xs)) (hne : zs ≠ []) (hp : p + zs.length ≤ xs.length) (hus : us.length = zs.length * C.sz t)
    (hisc : ∀ (q : Nat) (v : Value), us[q]? = some v → isCell v = true) (hrel : ∀ i z j cl, zs[i]? = some z → (C.enc t z)[j]? = some cl → ∃ v, us[i * C.sz t + j]? = some v ∧ VRel C w Mut ρ objs cl v) :
    SRel C Mut Lent w0 ρ env (objs.set id (.sl t (xs.take p ++ (zs ++ xs.drop (p + zs.length))))) tm (w.setCells (ρ id).block ((ρ id).off + p * C.sz t) us) := by
  have hlt := (List.getElem?_eq_some_iff.mp hid).1
  have hzl := List.length_pos_iff.mpr hne
  have ho := S.ob id
  simp only [ORel, hid] at ho
  obtain ⟨ho1, ho2, ho3, ho4⟩ := ho
  have hcap : (ρ id).cap ≠ 0 := by omega
  have hfoot : FootAt ρ objs id (ρ id).block := foot_live hid hcap
  generalize hxs' : xs.take p ++ (zs ++ xs.drop (p + zs.length)) = xs'
  have hlen' : xs'.length = xs.length := by subst hxs'; simp; omega
  have hget : ∀ i, xs'[i]? = if p ≤ i ∧ i < p + zs.length then zs[i - p]? else xs[i]? := fun i => by
    subst hxs'
    by_cases h1 : i < p
    · rw [List.getElem?_append_left (by simp; omega), List.getElem?_take_of_lt h1, if_neg (by omega)]
    · rw [List.getElem?_append_right (by simp; omega)]
      have e : i - (xs.take p).length = i - p := by simp; omega
      rw [e]
      by_cases h2 : i < p + zs.length
      · rw [List.getElem?_append_left (by omega), if_pos (by omega)]
      · rw [List.getElem?_append_right (by omega), List.getElem?_drop, if_neg (by omega)]
        congr 1; omega
  have hset : (objs.set id (AObj.sl t xs'))[id]? = some (.sl t xs') := by simp [hlt]
  have hnek : ∀ k, k ≠ id → (objs.set id (AObj.sl t xs'))[k]? = objs[k]? := fun k h => List.getElem?_set_ne (Ne.symm h)
  have hft : ∀ k b, FootAt ρ (objs.set id (AObj.sl t xs')) k b → FootAt ρ objs k b := fun k b h => by
    by_cases e : k = id
    · subst e; unfold FootAt at h ⊢; rw [hset] at h; rw [hid]; exact h
    · unfold FootAt at h ⊢; rw [hnek k e] at h; exact h
  have hpz : (p + zs.length) * C.sz t ≤ (ρ id).cap * C.sz t := Nat.mul_le_mul_right _ (by omega)
  rw [Nat.add_mul] at hpz
  have hroom : ∀ k, k < us.length → ∃ u, w.cell? (at' (ρ id).block ((ρ id).off + p * C.sz t + k)) = some u := fun k hk => by
    obtain ⟨v, a1, _⟩ := ho4 (p * C.sz t + k) (by omega)
    exact ⟨v, by rw [← a1]; congr 2; omega⟩
  have hcell := fun q => setCells_cell (w := w) (b := (ρ id).block) (o := (ρ id).off + p * C.sz t) (vs := us) (q := q) hroom
  have W : WStep w (w.setCells (ρ id).block ((ρ id).off + p * C.sz t) us) (FootB ρ objs) (FootB ρ (objs.set id (AObj.sl t xs'))) :=
    ⟨fun b _ hb => setCells_block _ _ _ _ _ (fun e => hb ⟨id, e ▸ hfoot⟩), by rw [setCells_size]; exact Nat.le_refl _, fun b ⟨k, hk⟩ => .inl ⟨k, hft k b hk⟩⟩
  have hcm : ∀ k, Compat ρ objs ρ (objs.set id (AObj.sl t xs')) k := fun k => by
    by_cases e : k = id
    · subst e; unfold Compat; rw [hid]; exact .inl ⟨_, hset, hlen', rfl⟩
    · exact Compat.of_eq (fun _ => hnek k e) (fun _ => rfl)
  obtain ⟨o1, o2, o3⟩ := setCells_os (ρ id).block us ((ρ id).off + p * C.sz t) w
  refine S.step W (by simp) hcm (fun k => ?_) (fun k j b hi hj => S.inj k j b (hft k b hi) (hft j b hj)) o1 o2 o3
  by_cases e : k = id
  · subst e
    unfold ORel
    rw [hset]
    refine ⟨by rw [hlen']; exact ho1, fun h => by rw [setCells_size]; exact ho2 h, fun i x j cl hx hj => ?_, fun q hq => ?_⟩
    · have hjs : j < C.sz t := by have := (List.getElem?_eq_some_iff.mp hj).1; rwa [HC.len] at this
      rw [hget] at hx
      split at hx
      · rename_i hin
        obtain ⟨v, a1, a2⟩ := hrel _ _ _ _ hx hj
        refine ⟨v, ?_, a2.step W (by simp) hcm⟩
        have hul := (List.getElem?_eq_some_iff.mp a1).1
        have hei : i * C.sz t = p * C.sz t + (i - p) * C.sz t := by rw [← Nat.add_mul]; congr 1; omega
        rw [hcell, if_pos (by omega), ← a1]; congr 1; omega
      · rename_i hin
        obtain ⟨v, a1, a2⟩ := ho3 i x j cl hx hj
        refine ⟨v, ?_, a2.step W (by simp) hcm⟩
        rw [hcell, if_neg]
        · exact a1
        · rintro ⟨b1, b2⟩
          rw [hus] at b2
          by_cases hip : i < p
          · have := row_lt (n := p) (s := C.sz t) hip hjs; omega
          · have : (p + zs.length) * C.sz t ≤ i * C.sz t := Nat.mul_le_mul_right _ (by omega)
            rw [Nat.add_mul] at this; omega
    · obtain ⟨v, a1, a2, a3⟩ := ho4 q hq
      by_cases hin : (ρ k).off + p * C.sz t ≤ (ρ k).off + q ∧ (ρ k).off + q < (ρ k).off + p * C.sz t + us.length
      · have hk : us[(ρ k).off + q - ((ρ k).off + p * C.sz t)]? = some (us[(ρ k).off + q - ((ρ k).off + p * C.sz t)]'(by omega)) := List.getElem?_eq_getElem _
        exact ⟨_, by rw [hcell, if_pos hin]; exact hk, hisc _ _ hk, by rw [World.frozen?_setCells]; exact a3⟩
      · exact ⟨v, by rw [hcell, if_neg hin]; exact a1, a2, by rw [World.frozen?_setCells]; exact a3⟩
  · exact ORel.step W (by simp) hcm (S.ob k) (hnek k e) rfl (fun b hb => setCells_block _ _ _ _ _ (fun e' => e (S.inj k id b hb (e' ▸ hfoot))))

theorem firstCells_any {size n : Nat} {A : Option Addr} {l l' c c' : Nat} : Builtin.firstCells size n (.slice A l c) = Builtin.firstCells size n (.slice A l' c') := by cases A <;> rfl

theorem copy_sound (HC : CodOk C) (S : SRel C Mut Lent w0 ρ env objs tm w) {t1 t2 e ty : TypeId} {t : κ} {ie : TypeInfo} (hu : P.underlying t1 = some (.slice e)) (hi : P.info? e = some ie) (hsz : ie.size = C.sz t)
    {id lo hi' c : Nat} {xs ys : List (Ty t)} {A : Option Addr} (hid : objs[id]? = some (.sl t xs)) (hlo : lo ≤ hi') (hhi : hi' ≤ xs.length) (hA : hi' - lo ≠ 0 → A = some (at' (ρ id).block ((ρ id).off + lo * C.sz t)))
    {B : Option Addr} {cb blk off : Nat} (hB : ys ≠ [] → B = some (at' blk off) ∧ blk < w.heap.size) (hrow : ∀ i y j cl, ys[i]? = some y → (C.enc t y)[j]? = some cl → ∃ v, w.cell? (at' blk (off + i * C.sz t + j)) = some v ∧ VRel C w Mut ρ objs cl v) :
    ∃ w', (Builtin.copy_ #[t1, t2] ty #[.slice A (hi' - lo) c, .slice B ys.length cb]).run P w = .ok (.int .i64 (min ys.length (hi' - lo) : Nat)) w' ∧ SRel C Mut Lent w0 ρ env (objs.set id (.sl t (cpy xs lo hi' ys))) tm w' := by
  have hlt := (List.getElem?_eq_some_iff.mp hid).1
  have hzl : (ys.take (hi' - lo)).length = min (hi' - lo) ys.length := by simp
  obtain ⟨vs, v1, v2, v3, v4⟩ := firstCells_sound (P := P) (C := C) (w := w) (Mut := Mut) (ρ := ρ) (objs := objs) HC (xs := ys.take (hi' - lo)) (A := B) (c := cb) (blk := blk) (off := off) (fun hne => hB (fun e => hne (by rw [e]; simp))) (fun i y j cl h1 h2 => hrow i y j cl (by
    have hl := (List.getElem?_eq_some_iff.mp h1).1
    rw [List.getElem?_take_of_lt (by rw [hzl] at hl; omega)] at h1; exact h1) h2)
  have hfc : (Builtin.firstCells (C.sz t) (Nat.min ys.length (hi' - lo)) (.slice B ys.length cb)).run P w = .ok vs.toArray w := by
    have := v2 w (fun _ => rfl)
    rw [hzl] at this
    rw [firstCells_any (l' := min (hi' - lo) ys.length) (c' := cb), show Nat.min ys.length (hi' - lo) = min (hi' - lo) ys.length from Nat.min_comm _ _]
    exact this
  have hcp : ∀ (w' : World) (cs : List Value), (∀ a, A = some a → (storeCells a cs).run P w = .ok () w') → (A = none → w' = w) → vs = cs →
      (Builtin.copy_ #[t1, t2] ty #[.slice A (hi' - lo) c, .slice B ys.length cb]).run P w = .ok (.int .i64 (min ys.length (hi' - lo) : Nat)) w' := fun w' cs h h0 e => by
    subst e
    have : ((min ys.length (hi' - lo) : Nat) : Int) = ((Nat.min ys.length (hi' - lo) : Nat) : Int) := rfl
    rw [this]
    simp only [Builtin.copy_, Sem.run_bind, run_underlying hu, Result.andThen_ok, Builtin.lenOf, Sem.run_pure, runSz hi, hsz]
    simp only [List.getElem?_toArray, List.getElem?_cons_zero, List.getElem?_cons_succ]
    simp only [Sem.run_bind, run_underlying hu, Result.andThen_ok, Builtin.lenOf, Sem.run_pure, runSz hi, hsz, hfc]
    cases A with
    | none => rw [h0 rfl]; rfl
    | some a => simp only [Sem.run_bind, h a rfl, Result.andThen_ok, Sem.run_pure]; rfl
  by_cases hne : ys.take (hi' - lo) = []
  · -- nothing is copied
    have hvs : vs = [] := List.length_eq_zero_iff.mp (by rw [v1, hne]; simp)
    subst hvs
    have hc0 : cpy xs lo hi' ys = xs := by
      have hm : min (hi' - lo) ys.length = 0 := by rw [← hzl, hne]; rfl
      unfold cpy
      rw [hne, hm]; simp
    refine ⟨w, ?_, ?_⟩
    · exact hcp w [] (fun a _ => rfl) (fun _ => rfl) rfl
    · rw [hc0]
      have : objs.set id (.sl t xs) = objs := by
        apply List.ext_getElem?
        intro k
        by_cases hk : k = id
        · subst hk; rw [List.getElem?_set_self hlt, hid]
        · rw [List.getElem?_set_ne (Ne.symm hk)]
      rw [this]; exact S
  · have hpos := List.length_pos_iff.mpr hne
    rw [hzl] at hpos
    obtain rfl := hA (by omega)
    have hst := S.storeRows HC (id := id) (p := lo) (zs := ys.take (hi' - lo)) (us := vs) hid hne (by rw [hzl]; omega) v1 v3 v4
    have ho := S.ob id
    simp only [ORel, hid] at ho
    have hpz : (lo + min (hi' - lo) ys.length) * C.sz t ≤ (ρ id).cap * C.sz t := Nat.mul_le_mul_right _ (by have := ho.1; omega)
    rw [Nat.add_mul] at hpz
    rw [hzl] at v1
    have hsc := run_storeCells_cells (P := P) (ρ id).block ((ρ id).off + lo * C.sz t) vs 0 w (fun j hj => by
      obtain ⟨v, g1, _⟩ := ho.2.2.2 (lo * C.sz t + j) (by omega)
      simp only [Nat.add_zero]; rw [show (⟨(ρ id).block, (ρ id).off + lo * C.sz t + j, none⟩ : Addr) = at' (ρ id).block ((ρ id).off + (lo * C.sz t + j)) by simp [at', Nat.add_assoc], g1]; rfl) (fun j hj => by
      obtain ⟨v, _, _, g2⟩ := ho.2.2.2 (lo * C.sz t + j) (by omega)
      simp only [Nat.add_zero]; rw [show (⟨(ρ id).block, (ρ id).off + lo * C.sz t + j, none⟩ : Addr) = at' (ρ id).block ((ρ id).off + (lo * C.sz t + j)) by simp [at', Nat.add_assoc]]; exact g2) (fun v hv => by
      obtain ⟨q, hq⟩ := List.getElem?_of_mem hv
      exact isCell_one (v3 q v hq))
    simp only [Nat.add_zero] at hsc
    refine ⟨w.setCells (ρ id).block ((ρ id).off + lo * C.sz t) vs, ?_, ?_⟩
    · exact hcp _ vs (fun a ha => by cases ha; exact hsc) (fun h => by cases h) rfl
    · have : cpy xs lo hi' ys = xs.take lo ++ (ys.take (hi' - lo) ++ xs.drop (lo + (ys.take (hi' - lo)).length)) := by unfold cpy; rw [hzl]
      rw [this]; exact hst

theorem acopy_sound (HT : TOk P C T) (HC : CodOk C) (S : SRel C Mut Lent w0 ρ env objs a.tmps w) {t1 t2 e1 ty : TypeId} {i1 : TI κ Ty} {s1 : κ} (h1 : T t1 = some i1) (hs1 : i1.shp = .slice e1 s1) {x y : AV κ Ty} {u q : Value} (hx : VRel C w Mut ρ objs x u) (hy : VRel C w Mut ρ objs y q)
    {K : AV κ Ty → Objs κ Ty → Option R} {r : R} (h : acopy C objs s1 x y K = some r) : ∃ n objs' w', K (.lit (.int .i64 n)) objs' = some r ∧ (Builtin.copy_ #[t1, t2] ty #[u, q]).run P w = .ok (.int .i64 n) w' ∧ SRel C Mut Lent w0 ρ env objs' a.tmps w' := by
  obtain ⟨hu, ie, i2, i3, _⟩ := HT.slice t1 i1 e1 s1 h1 hs1
  unfold acopy at h
  split at h
  · cases h
  · rename_i s ys hr
    obtain ⟨B, cb, blk, off, rfl, hcb, hB, hrow⟩ := rowsOf_rel HC S hy hr
    split at h
    · rename_i id
      split at h
      · rename_i t xs hsl
        split at h
        · rename_i hsame
          have := HC.same _ _ hsame
          subst this
          obtain ⟨e, h⟩ := cast_case HC h
          subst e
          have hsl' := slOf_some hsl
          have ho := S.ob id
          simp only [ORel, hsl'] at ho
          cases hx with
          | own g1 hA =>
            rename_i A
            rw [hsl'] at g1; cases g1
            have hA' : xs.length - 0 ≠ 0 → A = some (at' (ρ id).block ((ρ id).off + 0 * C.sz s)) := fun hne => by
              rw [Nat.zero_mul, Nat.add_zero]; exact hA (by have := ho.1; omega)
            obtain ⟨w', k1, k2⟩ := copy_sound (P := P) (ty := ty) (t2 := t2) HC S hu i2 i3 hsl' (lo := 0) (hi' := xs.length) (c := (ρ id).cap) (A := A) (by omega) (Nat.le_refl _) hA' (cb := cb) hB hrow
            rw [Nat.sub_zero] at k1
            exact ⟨_, _, w', h, k1, k2⟩
          | ownd hcl hin g1 => rw [g1] at hsl; cases hsl
        · cases h
      · cases h
    · rename_i id lo hi
      split at h
      · rename_i t xs hsl
        split at h
        · rename_i hsame
          have := HC.same _ _ hsame
          subst this
          obtain ⟨e, h⟩ := cast_case HC h
          subst e
          have hsl' := slOf_some hsl
          cases hx with
          | sub g1 hlo hhi hc hcap hA =>
            rw [hsl'] at g1; cases g1
            obtain ⟨w', k1, k2⟩ := copy_sound (P := P) (ty := ty) (t2 := t2) HC S hu i2 i3 hsl' hlo hhi (fun hne => hA (by omega)) (cb := cb) hB hrow
            exact ⟨_, _, w', h, k1, k2⟩
          | subd hcl hin g1 => rw [g1] at hsl; cases hsl
        · cases h
      · cases h
    · cases h

end
end Km
namespace Km
open Go
set_option linter.unusedVariables false
set_option linter.unusedSimpArgs false

variable {κ : Type} {Ty : κ → Type} {R : Type}
section
variable {P : Program} {C : Cod κ Ty} {T : TypeId → Option (TI κ Ty)}
variable {Mut Mut2 : Nat → Prop} {Lent : Org κ Ty} {w0 w w' : World} {ρ ρ2 : Nat → Loc} {env : Env κ Ty} {objs objs2 : Objs κ Ty} {tm : Array Value} {g : Nat → Option Nat}

/-- objects under new numbers -/
def Ren (g : Nat → Option Nat) (ρ : Nat → Loc) (objs : Objs κ Ty) (ρ2 : Nat → Loc) (objs2 : Objs κ Ty) : Prop :=
  ∀ i j o, g i = some j → objs[i]? = some o → objs2[j]? = some (renO g o) ∧ ρ2 j = ρ i

/-- what is out of bounds there is out of bounds here -/
def Wider (fl : Bool) (Mut : Nat → Prop) (ρ : Nat → Loc) (objs : Objs κ Ty) (Mut2 : Nat → Prop) (ρ2 : Nat → Loc) (objs2 : Objs κ Ty) : Prop :=
  ∀ b k, (b = true → fl = true) → ¬ Xs Mut ρ objs b k → ¬ Xs Mut2 ρ2 objs2 b k

theorem deep_ctx (HC : CodOk C) {fl : Bool} (hX : Wider fl Mut ρ objs Mut2 ρ2 objs2) {v : AV κ Ty} {u : Value} (h : VRel C w Mut ρ objs v u) :
    ((∃ x, v = .lit x) ∨ (∃ b t xs, v = .inl b t xs ∧ (b = true → fl = true))) → VRel C w Mut2 ρ2 objs2 v u := by
  induction h with
  | lit h => intro _; exact .lit h
  | @inl b t xs A c blk off vals hb hc hA hcell hrel ih =>
    rintro (⟨x, h⟩ | ⟨b', t', xs', h, hfl⟩)
    · cases h
    · cases h
      refine .inl (blk := blk) (off := off) hb hc (fun hne => ?_) hcell (fun i x j cl hx hj => ih i x j cl hx hj ?_)
      · obtain ⟨a1, a2, a3⟩ := hA hne
        exact ⟨a1, a2, hX _ _ hfl a3⟩
      · rcases HC.deep t x cl (enc_cell HC hj) with ⟨q, rfl⟩ | ⟨s, ys, rfl, hs⟩
        · exact .inl ⟨_, rfl⟩
        · refine .inr ⟨_, _, _, rfl, fun h => ?_⟩
          cases hbb : b with
          | true => exact hfl hbb
          | false => rw [hb hbb] at h; cases h
  | nil => rintro (⟨x, h⟩ | ⟨b', t', xs', h, hfl⟩) <;> cases h
  | cadr => rintro (⟨x, h⟩ | ⟨b', t', xs', h, hfl⟩) <;> cases h
  | ref => rintro (⟨x, h⟩ | ⟨b', t', xs', h, hfl⟩) <;> cases h
  | refd => rintro (⟨x, h⟩ | ⟨b', t', xs', h, hfl⟩) <;> cases h
  | eref => rintro (⟨x, h⟩ | ⟨b', t', xs', h, hfl⟩) <;> cases h
  | erefd => rintro (⟨x, h⟩ | ⟨b', t', xs', h, hfl⟩) <;> cases h
  | own => rintro (⟨x, h⟩ | ⟨b', t', xs', h, hfl⟩) <;> cases h
  | ownd => rintro (⟨x, h⟩ | ⟨b', t', xs', h, hfl⟩) <;> cases h
  | sub => rintro (⟨x, h⟩ | ⟨b', t', xs', h, hfl⟩) <;> cases h
  | subd => rintro (⟨x, h⟩ | ⟨b', t', xs', h, hfl⟩) <;> cases h
  | mapv => rintro (⟨x, h⟩ | ⟨b', t', xs', h, hfl⟩) <;> cases h
  | mapd => rintro (⟨x, h⟩ | ⟨b', t', xs', h, hfl⟩) <;> cases h
  | agg => rintro (⟨x, h⟩ | ⟨b', t', xs', h, hfl⟩) <;> cases h
  | tup => rintro (⟨x, h⟩ | ⟨b', t', xs', h, hfl⟩) <;> cases h
  | void => rintro (⟨x, h⟩ | ⟨b', t', xs', h, hfl⟩) <;> cases h
  | undef => rintro (⟨x, h⟩ | ⟨b', t', xs', h, hfl⟩) <;> cases h

theorem renO_sl {o : AObj κ Ty} {t : κ} {xs : List (Ty t)} (h : o = .sl t xs) : renO g o = .sl t xs := by subst h; rfl

theorem Ren.lt (G : Ren g ρ objs ρ2 objs2) {i j : Nat} (h : g i = some j) (hi : i < objs.length) : j < objs2.length :=
  (List.getElem?_eq_some_iff.mp (G i j _ h (List.getElem?_eq_getElem hi)).1).1

theorem Ren.box_none (G : Ren g ρ objs ρ2 objs2) {i j : Nat} (h : g i = some j) (hi : i < objs.length) (hb : boxOf objs i = none) : boxOf objs2 j = none := by
  have h1 := (G i j _ h (List.getElem?_eq_getElem hi)).1
  have h2 := boxOf_none hb
  rw [List.getElem?_eq_getElem hi] at h2
  unfold boxOf; rw [h1]
  cases ho : objs[i] with
  | dead => rfl
  | box cs => exact absurd (by rw [ho]) (h2 cs)
  | sl t xs => rfl
  | mp k v es h => rfl
theorem Ren.sl_none (G : Ren g ρ objs ρ2 objs2) {i j : Nat} (h : g i = some j) (hi : i < objs.length) (hb : slOf objs i = none) : slOf objs2 j = none := by
  have h1 := (G i j _ h (List.getElem?_eq_getElem hi)).1
  have h2 := slOf_none hb
  rw [List.getElem?_eq_getElem hi] at h2
  unfold slOf; rw [h1]
  cases ho : objs[i] with
  | dead => rfl
  | box cs => rfl
  | sl t xs => exact absurd (by rw [ho]) (h2 t xs)
  | mp k v es h => rfl
theorem Ren.mp_none (G : Ren g ρ objs ρ2 objs2) {i j : Nat} (h : g i = some j) (hi : i < objs.length) (hb : isMp objs i = false) : isMp objs2 j = false := by
  have h1 := (G i j _ h (List.getElem?_eq_getElem hi)).1
  have h2 := isMp_none hb
  rw [List.getElem?_eq_getElem hi] at h2
  unfold isMp; rw [h1]
  cases ho : objs[i] with
  | dead => rfl
  | box cs => rfl
  | sl t xs => rfl
  | mp k v es h => exact absurd (by rw [ho]) (h2 k v es h)
/-- the hole under its new number -/
def renH (g : Nat → Option Nat) (h : Option (Nat × Option Nat)) : Option (Nat × Option Nat) := match h with
  | some (i, some j) => some (i, g j)
  | h => h
theorem renH_ne {g : Nat → Option Nat} {h : Option (Nat × Option Nat)} {i : Nat} : (∀ o, renH g h ≠ some (i, o)) ↔ ∀ o, h ≠ some (i, o) := by
  unfold renH
  split
  · simp
  · exact Iff.rfl
theorem renO_mp (g : Nat → Option Nat) (k v : κ) (es : List (Ty k × Ty v)) (h : Option (Nat × Option Nat)) : renO g (.mp k v es h) = .mp k v es (renH g h) := rfl

theorem ren1_rel (HC : CodOk C) {fl : Bool} (G : Ren g ρ objs ρ2 objs2) (hX : Wider fl Mut ρ objs Mut2 ρ2 objs2) {v : AV κ Ty} {u : Value} (hs : fl = false → safe1 v = true) (h : VRel C w Mut ρ objs v u) :
    VRel C w Mut2 ρ2 objs2 (ren1 g v) u := by
  cases h with
  | lit h => exact .lit h
  | nil => exact .nil
  | inl hb hc hA hcell hrel =>
    refine deep_ctx HC hX (.inl hb hc hA hcell hrel) (.inr ⟨_, _, _, rfl, fun h => ?_⟩)
    cases hf : fl with
    | true => rfl
    | false => have := hs hf; simp [safe1, h] at this
  | cadr => exact .undef
  | ref h1 =>
    simp only [ren1]
    split
    · rename_i j hj
      obtain ⟨e1, e2⟩ := G _ _ _ hj h1
      rw [← e2]; exact .ref e1
    · exact .undef
  | refd hc hin h1 =>
    simp only [ren1]
    split
    · rename_i j hj; exact .refd hc (G.lt hj hin) (G.box_none hj hin h1)
    · exact .undef
  | eref h1 hi =>
    simp only [ren1]
    split
    · rename_i j hj
      obtain ⟨e1, e2⟩ := G _ _ _ hj h1
      rw [← e2]; exact .eref (by rw [e1, renO_sl rfl]) hi
    · exact .undef
  | erefd hc hin h1 =>
    simp only [ren1]
    split
    · rename_i j hj; exact .erefd hc (G.lt hj hin) (G.sl_none hj hin h1)
    · exact .undef
  | own h1 hA =>
    simp only [ren1]
    split
    · rename_i j hj
      obtain ⟨e1, e2⟩ := G _ _ _ hj h1
      rw [← e2]; exact .own (by rw [e1, renO_sl rfl]) (by rw [e2]; exact hA)
    · exact .undef
  | ownd hc hin h1 =>
    simp only [ren1]
    split
    · rename_i j hj; exact .ownd hc (G.lt hj hin) (G.sl_none hj hin h1)
    · exact .undef
  | sub h1 hlo hhi hc hcap hA =>
    simp only [ren1]
    split
    · rename_i j hj
      obtain ⟨e1, e2⟩ := G _ _ _ hj h1
      exact .sub (by rw [e1, renO_sl rfl]) hlo hhi hc (by rw [e2]; exact hcap) (by rw [e2]; exact hA)
    · exact .undef
  | subd hc hin h1 =>
    simp only [ren1]
    split
    · rename_i j hj; exact .subd hc (G.lt hj hin) (G.sl_none hj hin h1)
    · exact .undef
  | mapv h1 =>
    simp only [ren1]
    split
    · rename_i j hj
      obtain ⟨e1, e2⟩ := G _ _ _ hj h1
      rw [← e2]; exact .mapv (by rw [e1, renO_mp])
    · exact .undef
  | mapd hc hin h1 =>
    simp only [ren1]
    split
    · rename_i j hj; exact .mapd hc (G.lt hj hin) (G.mp_none hj hin h1)
    · exact .undef
  | agg => exact .undef
  | tup => exact .undef
  | void => exact .void
  | undef => exact .undef

theorem ren2_rel (HC : CodOk C) {fl : Bool} (G : Ren g ρ objs ρ2 objs2) (hX : Wider fl Mut ρ objs Mut2 ρ2 objs2) {v : AV κ Ty} {u : Value} (hs : fl = false → safe2 v = true) (h : VRel C w Mut ρ objs v u) :
    VRel C w Mut2 ρ2 objs2 (ren2 g v) u := by
  by_cases hv : ∃ cs, v = .agg cs
  · obtain ⟨cs, rfl⟩ := hv
    cases h with
    | agg hl hcell hrel =>
      refine .agg (by simpa using hl) hcell (fun j cl u hj hu => ?_)
      simp only [List.getElem?_map, Option.map_eq_some_iff] at hj
      obtain ⟨c, hc, rfl⟩ := hj
      refine ren1_rel HC G hX (fun hf => ?_) (hrel j c u hc hu)
      have := hs hf
      simp only [safe2, List.all_eq_true] at this
      exact this c (List.mem_of_getElem? hc)
  · have e : ren2 g v = ren1 g v := by cases v <;> first | rfl | exact absurd ⟨_, rfl⟩ hv
    rw [e]
    refine ren1_rel HC G hX (fun hf => ?_) h
    have := hs hf
    cases v <;> first | exact this | exact absurd ⟨_, rfl⟩ hv | (simp [safe2] at this)

theorem renV_rel (HC : CodOk C) {fl : Bool} (G : Ren g ρ objs ρ2 objs2) (hX : Wider fl Mut ρ objs Mut2 ρ2 objs2) {v : AV κ Ty} {u : Value} (hs : fl = false → ∀ vs, v = .tup vs → vs.all safe2 = true) (hs2 : fl = false → (∀ vs, v ≠ .tup vs) → safe2 v = true) (h : VRel C w Mut ρ objs v u) :
    VRel C w Mut2 ρ2 objs2 (renV g v) u := by
  by_cases hv : ∃ cs, v = .tup cs
  · obtain ⟨cs, rfl⟩ := hv
    cases h with
    | tup hl hrel =>
      refine .tup (by simpa using hl) (fun j cl u hj hu => ?_)
      simp only [List.getElem?_map, Option.map_eq_some_iff] at hj
      obtain ⟨c, hc, rfl⟩ := hj
      refine ren2_rel HC G hX (fun hf => ?_) (hrel j c u hc hu)
      have := hs hf cs rfl
      simp only [List.all_eq_true] at this
      exact this c (List.mem_of_getElem? hc)
  · have e : renV g v = ren2 g v := by cases v <;> first | rfl | exact absurd ⟨_, rfl⟩ hv
    rw [e]
    exact ren2_rel HC G hX (fun hf => hs2 hf fun vs e => hv ⟨vs, e⟩) h

/-- an object under its new number -/
theorem ORel.ren (HC : CodOk C) {fl : Bool} (G : Ren g ρ objs ρ2 objs2) (hX : Wider fl Mut ρ objs Mut2 ρ2 objs2) {i j : Nat} {o : AObj κ Ty} (hg : g i = some j) (ho : objs[i]? = some o) (hs : fl = false → safeO C o = true) (h : ORel C w Mut ρ objs i) : ORel C w Mut2 ρ2 objs2 j := by
  obtain ⟨e1, e2⟩ := G i j o hg ho
  unfold ORel at h ⊢
  rw [ho] at h
  rw [e1, e2]
  cases o with
  | dead => trivial
  | box cs =>
    obtain ⟨h1, h2⟩ := h
    refine ⟨h1, fun k cl hk => ?_⟩
    simp only [List.getElem?_map, Option.map_eq_some_iff] at hk
    obtain ⟨c, hc, rfl⟩ := hk
    obtain ⟨v, a1, a2, a3, a4⟩ := h2 k c hc
    refine ⟨v, a1, a2, ren1_rel HC G hX (fun hf => ?_) a3, a4⟩
    have := hs hf
    simp only [safeO, List.all_eq_true] at this
    exact this c (List.mem_of_getElem? hc)
  | sl t xs =>
    obtain ⟨h1, h2, h3, h4⟩ := h
    refine ⟨h1, h2, fun k x q cl hx hq => ?_, h4⟩
    obtain ⟨v, a1, a2⟩ := h3 k x q cl hx hq
    refine ⟨v, a1, deep_ctx HC hX a2 ?_⟩
    rcases HC.deep t x cl (enc_cell HC hq) with ⟨y, rfl⟩ | ⟨s, ys, rfl, hb⟩
    · exact .inl ⟨_, rfl⟩
    · refine .inr ⟨_, _, _, rfl, fun h => ?_⟩
      cases hf : fl with
      | true => rfl
      | false =>
        have := hs hf
        simp [safeO, h] at this
  | mp k v es hh =>
    have hfl : fl = true := by
      cases hf : fl with
      | true => rfl
      | false => have := hs hf; simp [safeO] at this
    obtain ⟨mes, h⟩ := h
    refine ⟨mes, h.size, h.at_, fun q e he => ?_, fun q e me he hm hn => ?_, fun q o me hq hm => ?_, fun q o hq => ?_, fun q hq hn => h.own q hq (renH_ne.mp hn), fun p q hp hq hnp hnq => h.disj p q hp hq (renH_ne.mp hnp) (renH_ne.mp hnq)⟩
    · obtain ⟨h1, me, h2, h3, h4⟩ := h.key q e he
      refine ⟨h1, me, h2, h3, ?_⟩
      generalize hkv : me.key = kv at h4
      cases h4 with
      | agg hl hcell hrel =>
        refine .agg hl hcell fun j cl u hj hu => deep_ctx HC hX (hrel j cl u hj hu) (.inl (h1 cl (List.mem_of_getElem? hj)))
    · have hv := h.val q e me he hm (renH_ne.mp hn)
      generalize C.enc v e.2 = ce at hv ⊢
      generalize me.val = mv at hv ⊢
      unfold EntR at hv ⊢
      split at hv
      · exact hv
      · obtain ⟨A, h1, h2, g1, g2, g3, g4⟩ := hv
        refine ⟨A, h1, h2, g1, g2, fun i x j cl hx hj => ?_, g4⟩
        obtain ⟨u, a1, a2⟩ := g3 i x j cl hx hj
        refine ⟨u, a1, deep_ctx HC hX a2 ?_⟩
        rcases HC.deep _ x cl (enc_cell HC hj) with ⟨y, rfl⟩ | ⟨s, ys, rfl, hb⟩
        · exact .inl ⟨_, rfl⟩
        · exact .inr ⟨_, _, _, rfl, fun _ => hfl⟩
      · exact hv.elim
    · unfold renH at hq
      split at hq
      · rename_i q' j'
        cases hq
        obtain ⟨h1, h2⟩ := h.hole q (some j') me rfl hm
        refine ⟨h1, fun j2 hj2 => ?_⟩
        have := ren1_rel HC G hX (fun hf => by rw [hfl] at hf; cases hf) (h2 j' rfl)
        simp only [ren1, hj2] at this
        exact this
      · rename_i hnot
        obtain ⟨h1, h2⟩ := h.hole q o me hq hm
        refine ⟨h1, fun j2 hj2 => ?_⟩
        subst hj2
        exact absurd hq (hnot q j2)
    · unfold renH at hq
      split at hq
      · cases hq; exact h.hlt _ _ rfl
      · exact h.hlt _ _ hq

end
end Km
namespace Km
open Go
set_option linter.unusedVariables false
set_option linter.unusedSimpArgs false

variable {κ : Type} {Ty : κ → Type} {R : Type}

/-! ### numbers -/
theorem elemN_iff (i : Nat) : ∀ (l : List Nat), elemN i l = true ↔ i ∈ l
  | [] => by simp [elemN]
  | j :: l => by
    simp only [elemN]
    split
    · rename_i h; have := Nat.eq_of_beq_eq_true h; simp [this]
    · rename_i h
      have hne : i ≠ j := fun e => by rw [e] at h; simp at h
      rw [elemN_iff i l]; simp [hne]
theorem addN_spec : ∀ (l acc : List Nat), acc.Nodup → (addN acc l).Nodup ∧ (∀ i, i ∈ addN acc l ↔ i ∈ acc ∨ i ∈ l)
  | [], acc, h => ⟨h, fun i => by simp [addN]⟩
  | i :: l, acc, h => by
    simp only [addN]
    split
    · rename_i hi
      have hi := (elemN_iff i acc).mp hi
      obtain ⟨h1, h2⟩ := addN_spec l acc h
      refine ⟨h1, fun j => ?_⟩
      rw [h2 j]; simp only [List.mem_cons]
      constructor
      · rintro (h | h)
        · exact .inl h
        · exact .inr (.inr h)
      · rintro (h | rfl | h)
        · exact .inl h
        · exact .inl hi
        · exact .inr h
    · rename_i hi
      have hi : i ∉ acc := fun h => by rw [(elemN_iff i acc).mpr h] at hi; cases hi
      obtain ⟨h1, h2⟩ := addN_spec l (acc ++ [i]) (by
        rw [List.nodup_append]
        exact ⟨h, by simp, fun a ha b hb => by simp at hb; subst hb; rintro rfl; exact hi ha⟩)
      refine ⟨h1, fun j => ?_⟩
      rw [h2 j]; simp only [List.mem_append, List.mem_cons, List.mem_singleton, List.not_mem_nil, or_false, or_assoc]
theorem addN_nodup {l acc : List Nat} (h : acc.Nodup) : (addN acc l).Nodup := (addN_spec l acc h).1
theorem addN_mem {l acc : List Nat} (h : acc.Nodup) (i : Nat) : i ∈ addN acc l ↔ i ∈ acc ∨ i ∈ l := (addN_spec l acc h).2 i
theorem reach_nodup {objs : Objs κ Ty} {acc : List Nat} (h : acc.Nodup) : (reach objs acc).Nodup := addN_nodup (addN_nodup h)
theorem addN_prefix : ∀ (l acc : List Nat), ∃ m, addN acc l = acc ++ m
  | [], acc => ⟨[], by simp [addN]⟩
  | i :: l, acc => by
    simp only [addN]
    split
    · exact addN_prefix l acc
    · obtain ⟨m, h⟩ := addN_prefix l (acc ++ [i])
      exact ⟨i :: m, by rw [h]; simp⟩

theorem posN_some : ∀ {l : List Nat} {i n j : Nat}, posN l i n = some j → n ≤ j ∧ l[j - n]? = some i
  | [], _, _, _, h => by simp [posN] at h
  | k :: l, i, n, j, h => by
    simp only [posN] at h
    split at h
    · rename_i hk
      have := Nat.eq_of_beq_eq_true hk
      cases h; subst this; simp
    · obtain ⟨h1, h2⟩ := posN_some h
      refine ⟨by omega, ?_⟩
      obtain ⟨d, rfl⟩ : ∃ d, j = n + 1 + d := ⟨j - (n + 1), by omega⟩
      rw [show n + 1 + d - (n + 1) = d by omega] at h2
      rw [show n + 1 + d - n = d + 1 by omega]; simpa using h2
theorem posN_none : ∀ {l : List Nat} {i n : Nat}, posN l i n = none → i ∉ l
  | [], _, _, _ => by simp
  | k :: l, i, n, h => by
    simp only [posN] at h
    split at h
    · cases h
    · rename_i hk
      have hne : i ≠ k := fun e => by subst e; simp at hk
      have := posN_none h
      simp [hne, this]
theorem posN_at {l : List Nat} (hn : l.Nodup) {j i : Nat} (h : l[j]? = some i) : posN l i 0 = some j := by
  cases hp : posN l i 0 with
  | none => exact absurd (List.mem_of_getElem? h) (posN_none hp)
  | some k =>
    obtain ⟨_, h2⟩ := posN_some hp
    simp only [Nat.sub_zero] at h2
    have hk := (List.getElem?_eq_some_iff.mp h2).1
    have hj := (List.getElem?_eq_some_iff.mp h).1
    have := (List.getElem?_inj hk hn).mp (h2.trans h.symm)
    rw [this]

section
variable {P : Program} {C : Cod κ Ty} {T : TypeId → Option (TI κ Ty)}
variable {Mut : Nat → Prop} {Lent : Org κ Ty} {w0 w w' : World} {ρ ρ' ρ2 : Nat → Loc} {env : Env κ Ty} {objs objs' objs2 : Objs κ Ty} {tm : Array Value}

/-- a function does what its summary says -/
def SummOk (P : Program) (C : Cod κ Ty) (f : FuncId) (S : Summ κ Ty) : Prop :=
  (∃ fn, P.funcs[f]? = some fn ∧ (fn.name == "runtime.NumGoroutine") = false ∧ fn.body.isSome = true) ∧
  ∀ (args : List (AV κ Ty)) (objs : Objs κ Ty) (r : S.R), S.run args objs = some r → ∀ (Mut : Nat → Prop) (ρ : Nat → Loc) (vals : Array Value) (w : World),
    vals.size = args.length → (∀ (j : Nat) (x : AV κ Ty) (u : Value), args[j]? = some x → vals[j]? = some u → VRel C w Mut ρ objs x u) →
    SRel C Mut ⟨ρ, objs⟩ w ρ [] objs #[] w →
    Calls P f vals w fun e w' => ∃ v ρ', e = .returned v ∧ VRel C w' Mut ρ' (S.ret r).2 (S.ret r).1 v ∧ SRel C Mut ⟨ρ, objs⟩ w ρ' [] (S.ret r).2 #[] w' ∧
      (∀ o ∈ (S.ret r).2, safeO C o = true) ∧ (∀ vs, (S.ret r).1 = .tup vs → vs.all safe2 = true) ∧ ((∀ vs, (S.ret r).1 ≠ .tup vs) → safe2 (S.ret r).1 = true)

/-- a state as it begins -/
theorem SRel.start (hob : ∀ id, ORel C w Mut ρ objs id) (hinj : ∀ i j b, FootAt ρ objs i b → FootAt ρ objs j b → i = j) (hlive : ∀ b, FootB ρ objs b → ¬ Mut b) (hmlt : ∀ b, Mut b → b < w.heap.size) :
    SRel C Mut ⟨ρ, objs⟩ w ρ [] objs #[] w where
  env i := .inl rfl
  ob := hob
  inj := hinj
  live b hb := ⟨hlive b hb, .inl hb⟩
  comp id := .refl id
  len := Nat.le_refl _
  mlt := hmlt
  frame _ _ _ := rfl
  size := Nat.le_refl _
  os := rfl
  tape := rfl
  output := rfl

/-- the callee's objects -/
def lentO (objs : Objs κ Ty) (l : List Nat) : Objs κ Ty := l.map fun i => match objs[i]? with | some o => renO (posN l · 0) o | none => .dead
def lentρ (ρ : Nat → Loc) (l : List Nat) : Nat → Loc := fun j => ρ (l.getD j 0)
def lentMut (Mut : Nat → Prop) (ρ : Nat → Loc) (objs : Objs κ Ty) (l : List Nat) : Nat → Prop := fun b => Mut b ∨ ∃ i, i ∉ l ∧ FootAt ρ objs i b

theorem lent_ren (ρ : Nat → Loc) (objs : Objs κ Ty) (l : List Nat) : Ren (posN l · 0) ρ objs (lentρ ρ l) (lentO objs l) := by
  intro i j o h ho
  obtain ⟨_, h2⟩ := posN_some h
  simp only [Nat.sub_zero] at h2
  refine ⟨?_, ?_⟩
  · simp only [lentO, List.getElem?_map, h2, Option.map_some, ho]
  · simp only [lentρ, List.getD, h2, Option.getD_some]

theorem footAt_ren {g : Nat → Option Nat} {o : AObj κ Ty} {i j b : Nat} (h1 : objs[i]? = some o) (h2 : objs2[j]? = some (renO g o)) (h3 : ρ2 j = ρ i) : FootAt ρ2 objs2 j b ↔ FootAt ρ objs i b := by
  unfold FootAt
  rw [h1, h2, h3]
  cases o with
  | mp k v es h => simp only [renO_mp, renH_ne]
  | _ => rfl

theorem lent_foot {l : List Nat} (hl : ∀ i ∈ l, i < objs.length) {j b : Nat} (h : FootAt (lentρ ρ l) (lentO objs l) j b) : ∃ i, l[j]? = some i ∧ FootAt ρ objs i b := by
  have hj : j < l.length := by
    rcases Nat.lt_or_ge j l.length with h' | h'
    · exact h'
    · unfold FootAt at h
      have : (lentO objs l)[j]? = none := List.getElem?_eq_none (by simp [lentO]; exact h')
      rw [this] at h; exact h.elim
  have hi := hl _ (List.getElem_mem hj)
  refine ⟨l[j], List.getElem?_eq_getElem hj, ?_⟩
  refine (footAt_ren (g := (posN l · 0)) (List.getElem?_eq_getElem hi) ?_ ?_).mp h
  · simp only [lentO, List.getElem?_map, List.getElem?_eq_getElem hj, Option.map_some, List.getElem?_eq_getElem hi]
  · simp [lentρ, List.getD, List.getElem?_eq_getElem hj]

theorem lent_wider {l : List Nat} (hl : ∀ i ∈ l, i < objs.length) : Wider true Mut ρ objs (lentMut Mut ρ objs l) (lentρ ρ l) (lentO objs l) := by
  intro b k _ h h'
  rcases h' with ⟨j, hj⟩ | ⟨hb, hm⟩
  · obtain ⟨i, _, hi⟩ := lent_foot hl hj
    exact h (.inl ⟨i, hi⟩)
  · rcases hm with hm | ⟨i, _, hi⟩
    · exact h (.inr ⟨hb, hm⟩)
    · exact h (.inl ⟨i, hi⟩)

theorem lent_start (HC : CodOk C) (S : SRel C Mut Lent w0 ρ env objs tm w) {l : List Nat} (hn : l.Nodup) (hl : ∀ i ∈ l, i < objs.length) :
    SRel C (lentMut Mut ρ objs l) ⟨lentρ ρ l, lentO objs l⟩ w (lentρ ρ l) [] (lentO objs l) #[] w := by
  refine SRel.start (fun j => ?_) (fun i j b hi hj => ?_) (fun b ⟨j, hj⟩ hm => ?_) (fun b hb => ?_)
  · by_cases hj : j < l.length
    · have hi := hl _ (List.getElem_mem hj)
      exact ORel.ren HC (lent_ren ρ objs l) (lent_wider hl) (posN_at hn (List.getElem?_eq_getElem hj)) (List.getElem?_eq_getElem hi) (fun h => by cases h) (S.ob _)
    · unfold ORel
      have : (lentO objs l)[j]? = none := List.getElem?_eq_none (by simp [lentO]; omega)
      rw [this]; trivial
  · obtain ⟨p, h1, h2⟩ := lent_foot hl hi
    obtain ⟨q, g1, g2⟩ := lent_foot hl hj
    have := S.inj p q b h2 g2
    subst this
    have hk := (List.getElem?_eq_some_iff.mp h1).1
    exact (List.getElem?_inj hk hn).mp (h1.trans g1.symm)
  · obtain ⟨i, h1, h2⟩ := lent_foot hl hj
    rcases hm with hm | ⟨q, hq, hf⟩
    · exact (S.live b ⟨i, h2⟩).1 hm
    · exact hq (S.inj q i b hf h2 ▸ List.mem_of_getElem? h1)
  · rcases hb with hb | ⟨i, _, hi⟩
    · have := S.mlt b hb; have := S.size; omega
    · exact S.flt hi

end
end Km
namespace Km
open Go
set_option linter.unusedVariables false
set_option linter.unusedSimpArgs false

variable {κ : Type} {Ty : κ → Type} {R : Type}

theorem backO_length (g : Nat → Option Nat) : ∀ (l : List Nat) (os objs : Objs κ Ty), (backO g objs l os).length = objs.length
  | [], _, _ => by simp [backO]
  | i :: l, [], _ => by simp [backO]
  | i :: l, o :: os, objs => by simp [backO, backO_length g l os]
theorem backO_out (g : Nat → Option Nat) : ∀ (l : List Nat) (os objs : Objs κ Ty) (i : Nat), i ∉ l → (backO g objs l os)[i]? = objs[i]?
  | [], _, _, _, _ => by simp [backO]
  | k :: l, [], _, _, _ => by simp [backO]
  | k :: l, o :: os, objs, i, h => by
    simp only [List.mem_cons, not_or] at h
    simp only [backO]
    rw [backO_out g l os _ i h.2, List.getElem?_set_ne (Ne.symm h.1)]
theorem backO_in (g : Nat → Option Nat) : ∀ (l : List Nat) (os objs : Objs κ Ty) (j i : Nat) (o : AObj κ Ty), l.Nodup → (∀ i ∈ l, i < objs.length) → l[j]? = some i → os[j]? = some o → (backO g objs l os)[i]? = some (renO g o)
  | [], _, _, _, _, _, _, _, h, _ => by simp at h
  | k :: l, [], _, _, _, _, _, _, _, h => by simp at h
  | k :: l, o :: os, objs, 0, i, o', hn, hl, h, ho => by
    simp at h ho; subst h; subst ho
    simp only [backO]
    have hk : k ∉ l := (List.nodup_cons.mp hn).1
    rw [backO_out g l os _ k hk]
    have := hl k (by simp)
    simp [this]
  | k :: l, o :: os, objs, j + 1, i, o', hn, hl, h, ho => by
    simp only [backO]
    exact backO_in g l os _ j i o' (List.nodup_cons.mp hn).2 (fun i hi => by simp; exact hl i (by simp [hi])) (by simpa using h) (by simpa using ho)

section
variable {P : Program} {C : Cod κ Ty} {T : TypeId → Option (TI κ Ty)}
variable {Mut : Nat → Prop} {Lent : Org κ Ty} {w0 w w' : World} {ρ ρ' ρ2 : Nat → Loc} {env : Env κ Ty} {objs objs' objs2 : Objs κ Ty} {tm : Array Value}

/-- where things lie behind the call -/
def backρ (ρ ρ' : Nat → Loc) (n : Nat) (l : List Nat) : Nat → Loc := fun i => match posN l i 0 with
  | some j => ρ' j
  | none => if i < n then ρ i else ρ' (l.length + (i - n))
def backOs (objs : Objs κ Ty) (l : List Nat) (o' : Objs κ Ty) : Objs κ Ty := backO (backN objs.length l) objs l o' ++ (o'.drop l.length).map (renO (backN objs.length l))

theorem backOs_cases {l : List Nat} {o' : Objs κ Ty} (hn : l.Nodup) (hl : ∀ i ∈ l, i < objs.length) (hlen : l.length ≤ o'.length) (i : Nat) :
    (i < objs.length ∧ i ∉ l ∧ (backOs objs l o')[i]? = objs[i]? ∧ backρ ρ ρ' objs.length l i = ρ i) ∨
    (∃ j o, o'[j]? = some o ∧ backN objs.length l j = some i ∧ (backOs objs l o')[i]? = some (renO (backN objs.length l) o) ∧ backρ ρ ρ' objs.length l i = ρ' j) ∨
    (backOs objs l o')[i]? = none := by
  by_cases hi : i < objs.length
  · cases hp : posN l i 0 with
    | none =>
      refine .inl ⟨hi, posN_none hp, ?_, by simp [backρ, hp, hi]⟩
      unfold backOs
      rw [List.getElem?_append_left (by rw [backO_length]; exact hi), backO_out _ _ _ _ _ (posN_none hp)]
    | some j =>
      obtain ⟨_, h2⟩ := posN_some hp
      simp only [Nat.sub_zero] at h2
      have hj := (List.getElem?_eq_some_iff.mp h2).1
      have ho : o'[j]? = some (o'[j]'(by omega)) := List.getElem?_eq_getElem _
      refine .inr (.inl ⟨j, _, ho, by simp [backN, h2], ?_, by simp [backρ, hp]⟩)
      unfold backOs
      rw [List.getElem?_append_left (by rw [backO_length]; exact hi)]
      exact backO_in _ l o' objs j i _ hn hl h2 ho
  · have hp : posN l i 0 = none := by
      cases hp : posN l i 0 with
      | none => rfl
      | some j =>
        obtain ⟨_, h2⟩ := posN_some hp
        simp only [Nat.sub_zero] at h2
        exact absurd (hl i (List.mem_of_getElem? h2)) hi
    by_cases hk : l.length + (i - objs.length) < o'.length
    · have ho : o'[l.length + (i - objs.length)]? = some (o'[l.length + (i - objs.length)]'hk) := List.getElem?_eq_getElem _
      refine .inr (.inl ⟨_, _, ho, ?_, ?_, by simp [backρ, hp, hi]⟩)
      · have : l[l.length + (i - objs.length)]? = none := List.getElem?_eq_none (by omega)
        simp only [backN, this]; congr 1; omega
      · unfold backOs
        rw [List.getElem?_append_right (by rw [backO_length]; omega), backO_length, List.getElem?_map, List.getElem?_drop, ho]; rfl
    · refine .inr (.inr ?_)
      refine List.getElem?_eq_none ?_
      simp [backOs, backO_length]; omega

theorem back_ren {l : List Nat} {o' : Objs κ Ty} (hn : l.Nodup) (hl : ∀ i ∈ l, i < objs.length) (hlen : l.length ≤ o'.length) : Ren (backN objs.length l) ρ' o' (backρ ρ ρ' objs.length l) (backOs objs l o') := by
  intro j i o hg ho
  have hjo := (List.getElem?_eq_some_iff.mp ho).1
  unfold backN at hg
  split at hg
  · rename_i i' hj
    cases hg
    refine ⟨?_, by simp [backρ, posN_at hn hj]⟩
    unfold backOs
    rw [List.getElem?_append_left (by rw [backO_length]; exact hl _ (List.mem_of_getElem? hj))]
    exact backO_in _ l o' objs j i _ hn hl hj ho
  · rename_i hj
    have hj' : l.length ≤ j := by
      rcases Nat.lt_or_ge j l.length with h | h
      · rw [List.getElem?_eq_getElem h] at hj; cases hj
      · exact h
    cases hg
    have hp : posN l (objs.length + (j - l.length)) 0 = none := by
      cases hp : posN l (objs.length + (j - l.length)) 0 with
      | none => rfl
      | some q =>
        obtain ⟨_, h2⟩ := posN_some hp
        simp only [Nat.sub_zero] at h2
        have := hl _ (List.mem_of_getElem? h2); omega
    refine ⟨?_, ?_⟩
    · unfold backOs
      rw [List.getElem?_append_right (by rw [backO_length]; omega), backO_length, List.getElem?_map, List.getElem?_drop]
      rw [show l.length + (objs.length + (j - l.length) - objs.length) = j by omega, ho]; rfl
    · simp only [backρ, hp]
      rw [if_neg (by omega)]
      congr 1; omega

/-- behind a call: the caller's state -/
theorem call_back (HC : CodOk C) (S : SRel C Mut Lent w0 ρ env objs tm w) {l : List Nat} (hn : l.Nodup) (hl : ∀ i ∈ l, i < objs.length) {o' : Objs κ Ty}
    (S' : SRel C (lentMut Mut ρ objs l) ⟨lentρ ρ l, lentO objs l⟩ w ρ' [] o' #[] w') (hs : ∀ o ∈ o', safeO C o = true) :
    SRel C Mut Lent w0 (backρ ρ ρ' objs.length l) env (backOs objs l o') tm w' ∧
      ∀ (v : AV κ Ty) (u : Value), (∀ vs, v = .tup vs → vs.all safe2 = true) → ((∀ vs, v ≠ .tup vs) → safe2 v = true) → VRel C w' (lentMut Mut ρ objs l) ρ' o' v u → VRel C w' Mut (backρ ρ ρ' objs.length l) (backOs objs l o') (renV (backN objs.length l) v) u := by
  have hlen : l.length ≤ o'.length := by have := S'.len; simpa [lentO] using this
  have G := back_ren (ρ := ρ) (ρ' := ρ') hn hl hlen
  have cs := backOs_cases (ρ := ρ) (ρ' := ρ') hn hl hlen
  have foot : ∀ i b, FootAt (backρ ρ ρ' objs.length l) (backOs objs l o') i b → (i < objs.length ∧ i ∉ l ∧ FootAt ρ objs i b) ∨ (∃ j, backN objs.length l j = some i ∧ FootAt ρ' o' j b) := by
    intro i b h
    rcases cs i with ⟨h1, h2, h3, h4⟩ | ⟨j, o, h1, h2, h3, h4⟩ | h1
    · refine .inl ⟨h1, h2, ?_⟩
      unfold FootAt at h ⊢; rw [h3, h4] at h; exact h
    · exact .inr ⟨j, h2, (footAt_ren h1 h3 h4).mp h⟩
    · unfold FootAt at h; rw [h1] at h; exact h.elim
  have hX : Wider false (lentMut Mut ρ objs l) ρ' o' Mut (backρ ρ ρ' objs.length l) (backOs objs l o') := by
    intro b k hb h h'
    have hb : b = false := by cases b <;> simp_all
    subst hb
    rcases h' with ⟨i, hi⟩ | ⟨_, hm⟩
    · rcases foot i k hi with ⟨_, h2, h3⟩ | ⟨j, _, h3⟩
      · exact h (.inr ⟨rfl, .inr ⟨i, h2, h3⟩⟩)
      · exact h (.inl ⟨j, h3⟩)
    · exact h (.inr ⟨rfl, .inl hm⟩)
  have lfoot : ∀ b, FootB (lentρ ρ l) (lentO objs l) b → FootB ρ objs b := fun b ⟨j, hj⟩ => by
    obtain ⟨i, _, h⟩ := lent_foot hl hj; exact ⟨i, h⟩
  have W : WStep w w' (FootB ρ objs) (FootB (backρ ρ ρ' objs.length l) (backOs objs l o')) := by
    refine ⟨fun b hb hf => S'.frame b hb (fun h => hf (lfoot b h)), S'.size, fun b ⟨i, hi⟩ => ?_⟩
    rcases foot i b hi with ⟨_, _, h⟩ | ⟨j, _, h⟩
    · exact .inl ⟨i, h⟩
    · rcases (S'.live b ⟨j, h⟩).2 with h | h
      · exact .inl (lfoot b h)
      · exact .inr h
  have hcm : ∀ i, Compat ρ objs (backρ ρ ρ' objs.length l) (backOs objs l o') i := by
    intro i
    by_cases hi : i < objs.length
    · rcases cs i with ⟨h1, h2, h3, h4⟩ | ⟨j, o, h1, h2, h3, h4⟩ | h1
      · exact Compat.of_eq (fun _ => h3) (fun _ => h4)
      · -- lent
        have hj : l[j]? = some i := by
          unfold backN at h2
          split at h2
          · rename_i i' hj; cases h2; exact hj
          · cases h2; omega
        have hc := S'.comp j
        have hjl := (List.getElem?_eq_some_iff.mp hj).1
        have hlo : (lentO objs l)[j]? = some (renO (posN l · 0) objs[i]) := by
          simp only [lentO, List.getElem?_map, hj, Option.map_some, List.getElem?_eq_getElem hi]
        have hlρ : lentρ ρ l j = ρ i := by simp [lentρ, List.getD, hj]
        have gone : Gone o' j → Gone (backOs objs l o') i := fun ⟨e1, e2, e3⟩ => by
          refine ⟨?_, ?_, ?_⟩
          · unfold boxOf at e1 ⊢; rw [h1] at e1; rw [h3]; cases o <;> simp_all [renO]
          · unfold slOf at e2 ⊢; rw [h1] at e2; rw [h3]; cases o <;> simp_all [renO]
          · unfold isMp at e3 ⊢; rw [h1] at e3; rw [h3]; cases o <;> simp_all [renO]
        unfold Compat at hc ⊢
        rw [List.getElem?_eq_getElem hi]
        simp only [hlo] at hc
        cases ho : objs[i] with
        | dead =>
          simp only [ho, renO] at hc ⊢
          exact gone hc
        | box cs' =>
          simp only [ho, renO] at hc ⊢
          rcases hc with ⟨cs2, e1, e2⟩ | hc
          · rw [h1] at e1; cases e1
            exact .inl ⟨_, h3, by rw [h4, e2, hlρ]⟩
          · exact .inr (gone hc)
        | sl t xs =>
          simp only [ho, renO] at hc ⊢
          rcases hc with ⟨ys, e1, e2, e3⟩ | hc
          · rw [h1] at e1; cases e1
            exact .inl ⟨_, h3, e2, by rw [h4, e3, hlρ]⟩
          · exact .inr (gone hc)
        | mp k v es hh =>
          simp only [ho, renO] at hc ⊢
          rcases hc with ⟨es', hh', e1, e2⟩ | hc
          · rw [h1] at e1; cases e1
            exact .inl ⟨es', _, h3, by rw [h4, e2, hlρ]⟩
          · exact .inr (gone hc)
      · have : (backOs objs l o').length = objs.length + (o'.length - l.length) := by simp [backOs, backO_length]
        rw [List.getElem?_eq_none_iff] at h1; omega
    · unfold Compat
      rw [List.getElem?_eq_none (by omega)]; trivial
  have hlen2 : objs.length ≤ (backOs objs l o').length := by simp [backOs, backO_length]
  refine ⟨S.step W hlen2 hcm (fun i => ?_) (fun i j b hi hj => ?_) S'.os S'.tape S'.output, fun v u h1 h2 h => renV_rel HC G hX (fun _ => h1) (fun _ => h2) h⟩
  · rcases cs i with ⟨h1, h2, h3, h4⟩ | ⟨j, o, h1, h2, h3, h4⟩ | h1
    · refine ORel.step W hlen2 hcm (S.ob i) h3 h4 (fun b hb => S'.frame b (S.flt hb) (fun ⟨j, hj⟩ => ?_))
      obtain ⟨p, g1, g2⟩ := lent_foot hl hj
      exact h2 (S.inj i p b hb g2 ▸ List.mem_of_getElem? g1)
    · exact ORel.ren HC G hX h2 h1 (fun _ => hs o (List.mem_of_getElem? h1)) (S'.ob j)
    · unfold ORel; rw [h1]; trivial
  · rcases foot i b hi with ⟨h1, h2, h3⟩ | ⟨p, h2, h3⟩ <;> rcases foot j b hj with ⟨g1, g2, g3⟩ | ⟨q, g2, g3⟩
    · exact S.inj i j b h3 g3
    · exact absurd (.inr ⟨i, h2, h3⟩) (S'.live b ⟨q, g3⟩).1
    · exact absurd (.inr ⟨j, g2, g3⟩) (S'.live b ⟨p, h3⟩).1
    · have := S'.inj p q b h3 g3
      subst this
      rw [h2] at g2; cases g2; rfl

end
end Km
namespace Km
open Go
set_option linter.unusedVariables false
set_option linter.unusedSimpArgs false

variable {κ : Type} {Ty : κ → Type} {R : Type}
section
variable {P : Program} {C : Cod κ Ty} {T : TypeId → Option (TI κ Ty)}
variable {Mut : Nat → Prop} {Lent : Org κ Ty} {w0 w w' : World} {ρ ρ' ρ2 : Nat → Loc} {env : Env κ Ty} {objs objs' objs2 : Objs κ Ty} {tm : Array Value}

theorem ids1_lt {v : AV κ Ty} {u : Value} (h : VRel C w Mut ρ objs v u) : ∀ i ∈ ids1 v, i < objs.length := by
  intro i hi
  cases h <;> simp only [ids1, List.mem_singleton, List.not_mem_nil] at hi
  case ref h1 => subst hi; exact (List.getElem?_eq_some_iff.mp h1).1
  case refd => subst hi; assumption
  case eref h1 h2 => subst hi; exact (List.getElem?_eq_some_iff.mp h1).1
  case erefd => subst hi; assumption
  case own h1 h2 => subst hi; exact (List.getElem?_eq_some_iff.mp h1).1
  case ownd => subst hi; assumption
  case sub h1 _ _ _ _ _ => subst hi; exact (List.getElem?_eq_some_iff.mp h1).1
  case subd => subst hi; assumption
  case mapv h1 => subst hi; exact (List.getElem?_eq_some_iff.mp h1).1
  case mapd => subst hi; assumption
theorem ids2_lt {v : AV κ Ty} {u : Value} (h : VRel C w Mut ρ objs v u) : ∀ i ∈ ids2 v, i < objs.length := by
  by_cases hv : ∃ cs, v = .agg cs
  · obtain ⟨cs, rfl⟩ := hv
    intro i hi
    simp only [ids2, List.mem_flatMap] at hi
    obtain ⟨c, hc, hi⟩ := hi
    cases h with
    | agg hl hcell hrel =>
      rename_i us
      obtain ⟨j, hj⟩ := List.getElem?_of_mem hc
      have hjl := (List.getElem?_eq_some_iff.mp hj).1
      exact ids1_lt (hrel j c us[j] hj (List.getElem?_eq_getElem (by omega))) i hi
  · have e : ids2 v = ids1 v := by cases v <;> first | rfl | exact absurd ⟨_, rfl⟩ hv
    rw [e]; exact ids1_lt h
theorem idsV_lt {v : AV κ Ty} {u : Value} (h : VRel C w Mut ρ objs v u) : ∀ i ∈ idsV v, i < objs.length := by
  by_cases hv : ∃ cs, v = .tup cs
  · obtain ⟨cs, rfl⟩ := hv
    intro i hi
    simp only [idsV, List.mem_flatMap] at hi
    obtain ⟨c, hc, hi⟩ := hi
    cases h with
    | tup hl hrel =>
      rename_i us
      obtain ⟨j, hj⟩ := List.getElem?_of_mem hc
      have hjl := (List.getElem?_eq_some_iff.mp hj).1
      exact ids2_lt (hrel j c us[j] hj (List.getElem?_eq_getElem (by omega))) i hi
  · have e : idsV v = ids2 v := by cases v <;> first | rfl | exact absurd ⟨_, rfl⟩ hv
    rw [e]; exact ids2_lt h
theorem idsO_lt {i : Nat} {o : AObj κ Ty} (ho : objs[i]? = some o) (h : ORel C w Mut ρ objs i) : ∀ k ∈ idsO o, k < objs.length := by
  intro k hk
  unfold ORel at h
  rw [ho] at h
  cases o with
  | dead => simp [idsO] at hk
  | sl t xs => simp [idsO] at hk
  | mp k' v es hh =>
    obtain ⟨mes, h⟩ := h
    simp only [idsO] at hk
    split at hk
    · rename_i i' j
      simp only [List.mem_singleton] at hk
      subst hk
      have hi := h.hlt _ _ rfl
      have hm : mes[i']? = some (mes[i']'(by rw [h.size]; exact hi)) := Array.getElem?_eq_getElem _
      exact ids1_lt ((h.hole _ _ _ rfl hm).2 _ rfl) _ (by simp [ids1])
    · simp at hk
  | box cs =>
    simp only [idsO, List.mem_flatMap] at hk
    obtain ⟨c, hc, hk⟩ := hk
    obtain ⟨j, hj⟩ := List.getElem?_of_mem hc
    obtain ⟨v, _, _, h3, _⟩ := h.2 j c hj
    exact ids1_lt h3 k hk
theorem reach_lt (S : SRel C Mut Lent w0 ρ env objs tm w) {acc : List Nat} (hn : acc.Nodup) (h : ∀ i ∈ acc, i < objs.length) : ∀ i ∈ reach objs acc, i < objs.length := by
  have step : ∀ (l : List Nat), ∀ i ∈ l.flatMap (fun i => match objs[i]? with | some o => idsO o | none => []), i < objs.length := by
    intro l i hi
    simp only [List.mem_flatMap] at hi
    obtain ⟨k, _, hi⟩ := hi
    split at hi
    · rename_i o ho; exact idsO_lt ho (S.ob k) i hi
    · simp at hi
  intro i hi
  unfold reach at hi
  rw [addN_mem (addN_nodup hn)] at hi
  rcases hi with hi | hi
  · rw [addN_mem hn] at hi
    rcases hi with hi | hi
    · exact h i hi
    · exact step _ i hi
  · exact step _ i hi

theorem disj_iff : ∀ (l m : List Nat), disj l m = true ↔ ∀ i ∈ l, i ∉ m
  | [], m => by simp [disj]
  | k :: l, m => by
    simp only [disj]
    split
    · rename_i h; have := (elemN_iff k m).mp h; simp [this]
    · rename_i h
      have : k ∉ m := fun hm => by rw [(elemN_iff k m).mpr hm] at h; cases h
      rw [disj_iff l m]; simp [this]

/-- what is borrowed -/
theorem rows_bor (HC : CodOk C) (S : SRel C Mut Lent w0 ρ env objs tm w) {l : List Nat} (hl : ∀ i ∈ l, i < objs.length) {x : AV κ Ty} {u : Value} {t : κ} {xs : List (Ty t)} (hx : VRel C w Mut ρ objs x u) (h : rowsOf objs x = some ⟨t, xs⟩)
    (hb : ∀ i ∈ bor1 x, i ∉ l) : VRel C w (lentMut Mut ρ objs l) (lentρ ρ l) (lentO objs l) (.inl true t xs) u := by
  have hX := lent_wider (Mut := Mut) (ρ := ρ) hl
  obtain ⟨A, c, blk, off, hu, hle, hA, hrow⟩ := rowsOf_rel (a := ⟨tm, []⟩) HC S hx h
  rw [hu]
  refine .inl (blk := blk) (off := off) (vals := fun i j => (w.cell? (at' blk (off + i * C.sz t + j))).getD Go.undef) (fun h => by cases h) hle (fun hne => ?_) (fun i y j cl h1 h2 => ?_) (fun i y j cl h1 h2 => ?_)
  · obtain ⟨a1, a2⟩ := hA hne
    refine ⟨a1, a2, fun hXs => ?_⟩
    rcases hXs with ⟨j, hj⟩ | ⟨hf, _⟩
    · obtain ⟨i, g1, g2⟩ := lent_foot hl hj
      cases x <;> simp only [rowsOf] at h
      case nil t' => cases h; exact hne rfl
      case inl b t' ys =>
        cases h
        cases hx with
        | inl hb' hc hA' hcell hrel =>
          obtain ⟨e1, _, e3⟩ := hA' hne
          simp only [Value.slice.injEq] at hu
          rw [hu.1, a1] at e1
          simp only [Option.some.injEq, at', Addr.mk.injEq] at e1
          exact e3 (.inl ⟨i, e1.1 ▸ g2⟩)
      case own id =>
        have hsl := slOf_some h
        cases hx with
        | own k1 k2 =>
          have ho := S.ob id
          simp only [ORel, hsl] at ho
          have hc : (ρ id).cap ≠ 0 := by have := ho.1; have := List.length_pos_iff.mpr hne; omega
          have e1 := k2 hc
          simp only [Value.slice.injEq] at hu
          rw [hu.1, a1] at e1
          simp only [Option.some.injEq, at', Addr.mk.injEq] at e1
          have := S.inj i id blk g2 (e1.1 ▸ foot_live hsl hc)
          subst this
          exact hb i (by simp [bor1]) (List.mem_of_getElem? g1)
        | ownd _ _ k1 => rw [k1] at h; cases h
      case sub id lo hi =>
        split at h
        · rename_i t' ys hsl0
          cases h
          have hsl := slOf_some hsl0
          cases hx with
          | sub k1 hlo hhi hc hcap hA' =>
            rw [hsl] at k1; cases k1
            have hlen := dcut_length ys lo hi hhi
            have hpos := List.length_pos_iff.mpr hne
            have e1 := hA' (by omega)
            simp only [Value.slice.injEq] at hu
            rw [hu.1, a1] at e1
            simp only [Option.some.injEq, at', Addr.mk.injEq] at e1
            have := S.inj i id blk g2 (e1.1 ▸ foot_live hsl (by omega))
            subst this
            exact hb i (by simp [bor1]) (List.mem_of_getElem? g1)
          | subd _ _ k1 => rw [k1] at hsl0; cases hsl0
        · cases h
      all_goals cases h
    · cases hf
  · obtain ⟨v, a1, a2⟩ := hrow i y j cl h1 h2
    rw [a1]; rfl
  · obtain ⟨v, a1, a2⟩ := hrow i y j cl h1 h2
    rw [a1]
    refine deep_ctx HC hX a2 ?_
    rcases HC.deep t y cl (enc_cell HC h2) with ⟨q, rfl⟩ | ⟨s, ys, rfl, _⟩
    · exact .inl ⟨_, rfl⟩
    · exact .inr ⟨_, _, _, rfl, fun _ => rfl⟩

theorem prep_rel (HC : CodOk C) (S : SRel C Mut Lent w0 ρ env objs tm w) {l : List Nat} (hn : l.Nodup) (hl : ∀ i ∈ l, i < objs.length) (m : Mode) {x : AV κ Ty} {u : Value} (hx : VRel C w Mut ρ objs x u) (hb : m = .bo → ∀ i ∈ bor1 x, i ∉ l) :
    VRel C w (lentMut Mut ρ objs l) (lentρ ρ l) (lentO objs l) (ren1 (posN l · 0) (prep objs m x)) u := by
  have hr : VRel C w (lentMut Mut ρ objs l) (lentρ ρ l) (lentO objs l) (ren1 (posN l · 0) x) u := ren1_rel HC (lent_ren ρ objs l) (lent_wider hl) (fun h => by cases h) hx
  cases m with
  | mv => exact hr
  | pe => exact hr
  | bo =>
    simp only [prep]
    split
    · rename_i t xs h
      exact rows_bor HC S hl hx h (hb rfl)
    · exact hr

theorem prepA_rel (HC : CodOk C) (S : SRel C Mut Lent w0 ρ env objs tm w) {l : List Nat} (hn : l.Nodup) (hl : ∀ i ∈ l, i < objs.length) (m : Mode) {x : AV κ Ty} {u : Value} (hx : VRel C w Mut ρ objs x u) (hb : ∀ i ∈ borA m x, i ∉ l) :
    VRel C w (lentMut Mut ρ objs l) (lentρ ρ l) (lentO objs l) (renV (posN l · 0) (prepA objs m x)) u := by
  by_cases hv : ∃ cs, x = .agg cs
  · obtain ⟨cs, rfl⟩ := hv
    cases hx with
    | agg hle hcell hrel =>
      refine .agg (by simpa using hle) hcell (fun j cl u hj hu => ?_)
      simp only [List.map_map, List.getElem?_map, Option.map_eq_some_iff, Function.comp] at hj
      obtain ⟨c, hc, rfl⟩ := hj
      refine prep_rel HC S hn hl m (hrel j c u hc hu) (fun hm i hi => hb i ?_)
      subst hm
      simp only [borA, List.mem_flatMap]
      exact ⟨c, List.mem_of_getElem? hc, hi⟩
  · by_cases ht : ∃ vs, x = .tup vs
    · obtain ⟨vs, rfl⟩ := ht
      have e : prepA objs m (.tup vs) = .tup vs := by cases m <;> rfl
      rw [e]
      exact renV_rel HC (lent_ren ρ objs l) (lent_wider hl) (fun h => by cases h) (fun h => by cases h) hx
    · have e : prepA objs m x = prep objs m x := by cases x <;> first | rfl | exact absurd ⟨_, rfl⟩ hv
      have e2 : renV (posN l · 0) (prep objs m x) = ren1 (posN l · 0) (prep objs m x) := by
        cases m <;> simp only [prep]
        · cases x <;> first | rfl | exact absurd ⟨_, rfl⟩ hv | exact absurd ⟨_, rfl⟩ ht
        · split
          · rfl
          · cases x <;> first | rfl | exact absurd ⟨_, rfl⟩ hv | exact absurd ⟨_, rfl⟩ ht
        · cases x <;> first | rfl | exact absurd ⟨_, rfl⟩ hv | exact absurd ⟨_, rfl⟩ ht
      rw [e, e2]
      refine prep_rel HC S hn hl m hx (fun hm i hi => hb i ?_)
      subst hm
      cases x <;> first | exact hi | exact absurd ⟨_, rfl⟩ hv


/-- arguments, one by one -/
theorem args_rel (HC : CodOk C) (S : SRel C Mut Lent w0 ρ env objs tm w) {l : List Nat} (hn : l.Nodup) (hl : ∀ i ∈ l, i < objs.length) : ∀ (xs : List (AV κ Ty)) (ms : List Mode) (us : List Value), us.length = xs.length →
    (∀ (j : Nat) (x : AV κ Ty) (u : Value), xs[j]? = some x → us[j]? = some u → VRel C w Mut ρ objs x u) → (∀ i ∈ borL xs ms, i ∉ l) →
    (prepL objs xs ms).length = xs.length ∧ ∀ (j : Nat) (x : AV κ Ty) (u : Value), ((prepL objs xs ms).map (renV (posN l · 0)))[j]? = some x → us[j]? = some u → VRel C w (lentMut Mut ρ objs l) (lentρ ρ l) (lentO objs l) x u
  | [], ms, us, hlen, _, _ => by cases ms <;> exact ⟨rfl, fun j x u h => by simp [prepL] at h⟩
  | x :: xs, ms, [], hlen, _, _ => by simp at hlen
  | x :: xs, m :: ms, u :: us, hlen, h, hb => by
    obtain ⟨h1, h2⟩ := args_rel HC S hn hl xs ms us (by simpa using hlen) (fun j y v a b => h (j + 1) y v (by simpa using a) (by simpa using b)) (fun i hi => hb i (by simp [borL, hi]))
    refine ⟨by simp [prepL, h1], fun j y v a b => ?_⟩
    cases j with
    | zero =>
      simp [prepL] at a b
      subst a; subst b
      exact prepA_rel HC S hn hl m (h 0 x _ rfl rfl) (fun i hi => hb i (by simp [borL, hi]))
    | succ j => exact h2 j y v (by simpa [prepL] using a) (by simpa using b)
  | x :: xs, [], u :: us, hlen, h, hb => by
    obtain ⟨h1, h2⟩ := args_rel HC S hn hl xs [] us (by simpa using hlen) (fun j y v a b => h (j + 1) y v (by simpa using a) (by simpa using b)) (fun i hi => hb i (by simp [borL, hi]))
    refine ⟨by simp [prepL, h1], fun j y v a b => ?_⟩
    cases j with
    | zero =>
      simp [prepL] at a b
      subst a; subst b
      exact prepA_rel HC S hn hl .bo (h 0 x _ rfl rfl) (fun i hi => hb i (by simp [borL, hi]))
    | succ j => exact h2 j y v (by simpa [prepL] using a) (by simpa using b)

theorem prep_ids (S : SRel C Mut Lent w0 ρ env objs tm w) (m : Mode) {x : AV κ Ty} {u : Value} (hx : VRel C w Mut ρ objs x u) : ∀ i ∈ ids1 (prep objs m x), i < objs.length := by
  cases m with
  | mv => exact ids1_lt hx
  | pe => exact ids1_lt hx
  | bo =>
    simp only [prep]
    split
    · intro i hi; simp [ids1] at hi
    · exact ids1_lt hx
theorem prepA_ids (S : SRel C Mut Lent w0 ρ env objs tm w) (m : Mode) {x : AV κ Ty} {u : Value} (hx : VRel C w Mut ρ objs x u) : ∀ i ∈ idsV (prepA objs m x), i < objs.length := by
  by_cases hv : ∃ cs, x = .agg cs
  · obtain ⟨cs, rfl⟩ := hv
    intro i hi
    simp only [prepA, idsV, ids2, List.mem_flatMap, List.mem_map] at hi
    obtain ⟨c', ⟨c, hc, rfl⟩, hi⟩ := hi
    cases hx with
    | agg hle hcell hrel =>
      rename_i us
      obtain ⟨j, hj⟩ := List.getElem?_of_mem hc
      have hjl := (List.getElem?_eq_some_iff.mp hj).1
      exact prep_ids S m (hrel j c us[j] hj (List.getElem?_eq_getElem (by omega))) i hi
  · have e : prepA objs m x = prep objs m x := by cases x <;> first | rfl | exact absurd ⟨_, rfl⟩ hv
    rw [e]
    cases m with
    | mv => exact idsV_lt hx
    | pe => exact idsV_lt hx
    | bo =>
      simp only [prep]
      split
      · intro i hi; simp [idsV, ids2, ids1] at hi
      · exact idsV_lt hx
theorem prepL_ids (S : SRel C Mut Lent w0 ρ env objs tm w) : ∀ (xs : List (AV κ Ty)) (ms : List Mode) (us : List Value), us.length = xs.length →
    (∀ (j : Nat) (x : AV κ Ty) (u : Value), xs[j]? = some x → us[j]? = some u → VRel C w Mut ρ objs x u) → ∀ i ∈ (prepL objs xs ms).flatMap idsV, i < objs.length
  | [], ms, us, _, _ => by cases ms <;> simp [prepL]
  | x :: xs, ms, [], hlen, _ => by simp at hlen
  | x :: xs, m :: ms, u :: us, hlen, h => by
    intro i hi
    simp only [prepL, List.flatMap_cons, List.mem_append] at hi
    rcases hi with hi | hi
    · exact prepA_ids S m (h 0 x u rfl rfl) i hi
    · exact prepL_ids S xs ms us (by simpa using hlen) (fun j y v a b => h (j + 1) y v (by simpa using a) (by simpa using b)) i hi
  | x :: xs, [], u :: us, hlen, h => by
    intro i hi
    simp only [prepL, List.flatMap_cons, List.mem_append] at hi
    rcases hi with hi | hi
    · exact prepA_ids S .bo (h 0 x u rfl rfl) i hi
    · exact prepL_ids S xs [] us (by simpa using hlen) (fun j y v a b => h (j + 1) y v (by simpa using a) (by simpa using b)) i hi

/-- a call -/
theorem acall_sound (HC : CodOk C) (S : SRel C Mut Lent w0 ρ env objs tm w) {f : FuncId} {Sm : Summ κ Ty} (hS : SummOk P C f Sm) {xs : List (AV κ Ty)} {us : List Value} (hlen : us.length = xs.length)
    (hx : ∀ (j : Nat) (x : AV κ Ty) (u : Value), xs[j]? = some x → us[j]? = some u → VRel C w Mut ρ objs x u) {K : AV κ Ty → Objs κ Ty → Option R} {r : R}
    (h : acall objs Sm (borL xs Sm.modes) (prepL objs xs Sm.modes) K = some r) :
    Calls P f us.toArray w fun e w' => ∃ v u objs' ρ', e = .returned u ∧ K v objs' = some r ∧ SRel C Mut Lent w0 ρ' env objs' tm w' ∧ VRel C w' Mut ρ' objs' v u := by
  unfold acall at h
  dsimp only at h
  split at h
  · cases h
  · rename_i hd
    have hd := (disj_iff _ _).mp hd
    obtain ⟨q, hq, h⟩ := bind_some h
    have hn : (reach objs (addN [] ((prepL objs xs Sm.modes).flatMap idsV))).Nodup := reach_nodup (addN_nodup List.nodup_nil)
    have hl : ∀ i ∈ reach objs (addN [] ((prepL objs xs Sm.modes).flatMap idsV)), i < objs.length := reach_lt S (addN_nodup List.nodup_nil) (fun i hi => by
      rw [addN_mem List.nodup_nil] at hi
      rcases hi with hi | hi
      · simp at hi
      · exact prepL_ids S xs Sm.modes us hlen hx i hi)
    generalize reach objs (addN [] ((prepL objs xs Sm.modes).flatMap idsV)) = l at h hd hq hn hl
    obtain ⟨a1, a2⟩ := args_rel HC S hn hl xs Sm.modes us hlen hx hd
    refine (hS.2 _ _ q hq (lentMut Mut ρ objs l) (lentρ ρ l) us.toArray w (by simp [a1, hlen]) (fun j x u hj hu => a2 j x u hj (by simpa using hu)) (lent_start HC S hn hl)).mono ?_
    rintro e w' ⟨v, ρ', rfl, h1, h2, h3, h4, h5⟩
    obtain ⟨b1, b2⟩ := call_back HC S hn hl h2 h3
    exact ⟨_, v, _, _, rfl, h, b1, b2 _ _ h4 h5 h1⟩

end
end Km
namespace Km
open Go
set_option linter.unusedVariables false
set_option linter.unusedSimpArgs false

variable {κ : Type} {Ty : κ → Type} {R : Type}
section
variable {P : Program} {C : Cod κ Ty} {T : TypeId → Option (TI κ Ty)}
variable {Mut : Nat → Prop} {Lent : Org κ Ty} {w0 w w' : World} {ρ ρ' : Nat → Loc} {env : Env κ Ty} {objs objs' objs1 : Objs κ Ty} {tm : Array Value}

/-- a map's object, told anew -/
theorem SRel.mpset (S : SRel C Mut Lent w0 ρ env objs tm w) {id : Nat} {k v : κ} {es es' : List (Ty k × Ty v)} {h h' : Option (Nat × Option Nat)} (hid : objs[id]? = some (.mp k v es h))
    (hw : Weaker objs objs1) (hid1 : objs1[id]? = objs[id]?) {sub' : Nat → Nat × Nat × Nat}
    (hheap : ∀ b, b ≠ (ρ id).block → w'.heap[b]? = w.heap[b]?) (hsz : w'.heap.size = w.heap.size) (hos : w'.os = w.os) (htape : w'.tape = w.tape) (hout : w'.output = w.output)
    (hfoot : ∀ i, i < es'.length → (∀ o, h' ≠ some (i, o)) → (sub' i).2.2 ≠ 0 → FootAt ρ objs id (sub' i).1 ∨ ∃ j, objs1[j]? = some .dead ∧ FootAt ρ objs j (sub' i).1)
    (hrel : ∀ (W : WStep w w' (FootB ρ objs) (FootB (upd ρ id { ρ id with sub := sub' }) (objs1.set id (.mp k v es' h')))) (hl : objs.length ≤ (objs1.set id (.mp k v es' h')).length)
      (hc : ∀ q, Compat ρ objs (upd ρ id { ρ id with sub := sub' }) (objs1.set id (.mp k v es' h')) q), ∃ mes, MpRel C w' Mut (upd ρ id { ρ id with sub := sub' }) (objs1.set id (.mp k v es' h')) { ρ id with sub := sub' } k v es' h' mes) :
    SRel C Mut Lent w0 (upd ρ id { ρ id with sub := sub' }) env (objs1.set id (.mp k v es' h')) tm w' ∧
      ∀ (x : AV κ Ty) (u : Value), VRel C w Mut ρ objs x u → VRel C w' Mut (upd ρ id { ρ id with sub := sub' }) (objs1.set id (.mp k v es' h')) x u := by
  have hlt : id < objs1.length := by rw [hw.1]; exact (List.getElem?_eq_some_iff.mp hid).1
  have hset : (objs1.set id (.mp k v es' h'))[id]? = some (.mp k v es' h') := by simp [hlt]
  have hne : ∀ q, q ≠ id → (objs1.set id (.mp k v es' h'))[q]? = objs1[q]? := fun q h => List.getElem?_set_ne (Ne.symm h)
  have hft : ∀ p b, FootAt (upd ρ id { ρ id with sub := sub' }) (objs1.set id (.mp k v es' h')) p b → (p ≠ id ∧ FootAt ρ objs p b ∧ objs1[p]? = objs[p]?) ∨ (p = id ∧ (FootAt ρ objs id b ∨ ∃ j, objs1[j]? = some .dead ∧ FootAt ρ objs j b)) := fun p b hp => by
    by_cases e : p = id
    · subst e
      refine .inr ⟨rfl, ?_⟩
      unfold FootAt at hp
      rw [hset, upd_same] at hp
      rcases hp with hp | ⟨i, h1, h2, h3, h4⟩
      · refine .inl ?_
        unfold FootAt; rw [hid]; exact .inl hp
      · rw [← h4]; exact hfoot i h1 h2 h3
    · refine .inl ⟨e, ?_⟩
      unfold FootAt at hp
      rw [hne p e, upd_other _ _ _ e] at hp
      rcases hw.2 p with e' | e'
      · rw [e'] at hp; exact ⟨hp, e'⟩
      · rw [e'] at hp; exact hp.elim
  have hback : ∀ p b, FootAt (upd ρ id { ρ id with sub := sub' }) (objs1.set id (.mp k v es' h')) p b → FootB ρ objs b := fun p b hp => by
    rcases hft p b hp with ⟨_, h, _⟩ | ⟨_, h | ⟨j, _, h⟩⟩
    · exact ⟨p, h⟩
    · exact ⟨_, h⟩
    · exact ⟨j, h⟩
  have hmap : FootAt ρ objs id (ρ id).block := by unfold FootAt; rw [hid]; exact .inl rfl
  have W : WStep w w' (FootB ρ objs) (FootB (upd ρ id { ρ id with sub := sub' }) (objs1.set id (.mp k v es' h'))) :=
    ⟨fun b _ hn => hheap b (fun e => hn ⟨id, by rw [e]; exact hmap⟩), by omega, fun b ⟨p, hp⟩ => .inl (hback p b hp)⟩
  have hl : objs.length ≤ (objs1.set id (.mp k v es' h')).length := by simp [hw.1]
  have hc : ∀ q, Compat ρ objs (upd ρ id { ρ id with sub := sub' }) (objs1.set id (.mp k v es' h')) q := fun q => by
    by_cases e : q = id
    · subst e; unfold Compat; rw [hid]; exact .inl ⟨_, _, hset, by rw [upd_same]⟩
    · have hcw := hw.compat (ρ := ρ) q
      unfold Compat at hcw ⊢
      have e1 : (objs1.set id (.mp k v es' h'))[q]? = objs1[q]? := hne q e
      have gone : Gone objs1 q → Gone (objs1.set id (.mp k v es' h')) q := fun ⟨g1, g2, g3⟩ => by
        refine ⟨?_, ?_, ?_⟩
        · unfold boxOf at g1 ⊢; rw [e1]; exact g1
        · unfold slOf at g2 ⊢; rw [e1]; exact g2
        · unfold isMp at g3 ⊢; rw [e1]; exact g3
      rw [upd_other _ _ _ e, e1]
      split
      · rename_i cs eo; rw [eo] at hcw; exact hcw.imp (fun h => h) gone
      · rename_i t xs eo; rw [eo] at hcw; exact hcw.imp (fun h => h) gone
      · rename_i k' v' es2 ho2 eo; rw [eo] at hcw; exact hcw.imp (fun h => h) gone
      · rename_i eo; rw [eo] at hcw; exact gone hcw
      · trivial
  refine ⟨S.step W hl hc (fun q => ?_) (fun p q b hp hq => ?_) hos htape hout, fun x u hx => hx.step W hl hc⟩
  · by_cases e : q = id
    · subst e
      obtain ⟨mes, hm⟩ := hrel W hl hc
      unfold ORel
      rw [hset, upd_same]
      exact ⟨mes, hm⟩
    · rcases hw.2 q with e' | e'
      · refine ORel.step W hl hc (S.ob q) (by rw [hne q e, e']) (upd_other _ _ _ e) (fun b hb => hheap b fun eb => ?_)
        rw [eb] at hb
        exact e (S.inj _ _ _ hb hmap)
      · unfold ORel; rw [hne q e, e']; trivial
  · have dead : ∀ j b, objs1[j]? = some .dead → ∀ p, objs1[p]? = objs[p]? → FootAt ρ objs p b → FootAt ρ objs j b → False := fun j b hj p hp1 hp hjb => by
      have := S.inj _ _ _ hp hjb
      subst this
      unfold FootAt at hp; rw [← hp1, hj] at hp; exact hp
    rcases hft p b hp with ⟨a1, a2, a3⟩ | ⟨a1, a2⟩ <;> rcases hft q b hq with ⟨b1, b2, b3⟩ | ⟨b1, b2⟩
    · exact S.inj _ _ _ a2 b2
    · rcases b2 with b2 | ⟨j, j1, j2⟩
      · exact absurd (S.inj _ _ _ a2 b2) a1
      · exact (dead j b j1 p a3 a2 j2).elim
    · rcases a2 with a2 | ⟨j, j1, j2⟩
      · exact absurd (S.inj _ _ _ b2 a2) b1
      · exact (dead j b j1 q b3 b2 j2).elim
    · rw [a1, b1]

/-- an entry's value is another one -/
theorem MpRel.put {L : Loc} {k v : κ} {es : List (Ty k × Ty v)} {h : Option (Nat × Option Nat)} {mes mes' : Array MapEntry} (H : MpRel C w Mut ρ objs L k v es h mes) {n : Nat} {e : Ty k × Ty v} (he : es[n]? = some e)
    (hh : ∀ i o, h = some (i, o) → i = n) {y : Ty v} {L' : Nat × Nat × Nat} {val : Value}
    (W : WStep w w' (FootB ρ objs) (FootB ρ' objs')) (hl : objs.length ≤ objs'.length) (hc : ∀ q, Compat ρ objs ρ' objs' q) (hheap : ∀ b, b ≠ L.block → w'.heap[b]? = w.heap[b]?)
    (hat : w'.heap[L.block]? = some (.map mes' mes'.size)) (hs : mes'.size = mes.size) (ho : ∀ q, q ≠ n → mes'[q]? = mes[q]?) (hn : ∀ me, mes[n]? = some me → ∃ me', mes'[n]? = some me' ∧ me'.key = me.key ∧ me'.born = me.born ∧ me'.val = val)
    (hv : EntR C w' Mut ρ' objs' L' (C.enc v y) val) (hd : ∀ i, i < es.length → i ≠ n → (∀ o, h ≠ some (i, o)) → (L.sub i).2.2 ≠ 0 → L'.2.2 ≠ 0 → (L.sub i).1 ≠ L'.1) (hb : L'.2.2 ≠ 0 → L'.1 ≠ L.block) :
    MpRel C w' Mut ρ' objs' { L with sub := fun q => if q = n then L' else L.sub q } k v (es.set n (e.1, y)) none mes' := by
  have hlt := (List.getElem?_eq_some_iff.mp he).1
  have hset : ∀ q e', (es.set n (e.1, y))[q]? = some e' → (q = n ∧ e' = (e.1, y)) ∨ (q ≠ n ∧ es[q]? = some e') := fun q e' hq => by
    by_cases eq : q = n
    · subst eq; simp [hlt] at hq; exact .inl ⟨rfl, hq.symm⟩
    · rw [List.getElem?_set_ne (Ne.symm eq)] at hq; exact .inr ⟨eq, hq⟩
  have hno : ∀ q, q ≠ n → ∀ o, h ≠ some (q, o) := fun q hq o ho => hq (hh q o ho)
  refine ⟨by simp [hs, H.size], hat, fun q e' hq => ?_, fun q e' me hq hm _ => ?_, fun q o me hq => (by cases hq), fun q o hq => (by cases hq), fun q hq _ hcap => ?_, fun p q hp hq _ _ hcp hcq hpq => ?_⟩
  · rcases hset q e' hq with ⟨rfl, rfl⟩ | ⟨hqn, hq⟩
    · obtain ⟨h1, me, h2, h3, h4⟩ := H.key q e he
      obtain ⟨me', g1, g2, g3, _⟩ := hn me h2
      exact ⟨h1, me', g1, by rw [g3, h3], by rw [g2]; exact h4.step W hl hc⟩
    · obtain ⟨h1, me, h2, h3, h4⟩ := H.key q e' hq
      exact ⟨h1, me, by rw [ho q hqn]; exact h2, h3, h4.step W hl hc⟩
  · rcases hset q e' hq with ⟨rfl, rfl⟩ | ⟨hqn, hq⟩
    · obtain ⟨_, me0, h2, _⟩ := H.key q e he
      obtain ⟨me', g1, _, _, g4⟩ := hn me0 h2
      rw [g1] at hm; cases hm
      simp only [if_true]
      rw [g4]; exact hv
    · rw [ho q hqn] at hm
      simp only [if_neg hqn]
      refine (H.val q e' me hq hm (hno q hqn)).step W hl hc fun b hb1 hb2 => hheap b fun eb => ?_
      exact H.own q (List.getElem?_eq_some_iff.mp hq).1 (hno q hqn) hb1 (by rw [hb2, eb])
  · simp only [List.length_set] at hq
    by_cases eq : q = n
    · subst eq; simp only [if_true] at hcap ⊢; exact hb hcap
    · simp only [if_neg eq] at hcap ⊢; exact H.own q hq (hno q eq) hcap
  · simp only [List.length_set] at hp hq
    by_cases ep : p = n <;> by_cases eq : q = n
    · rw [ep, eq]
    · subst ep; simp only [if_true, if_neg eq] at hcp hcq hpq
      exact absurd hpq.symm (hd q hq eq (hno q eq) hcq hcp)
    · subst eq; simp only [if_true, if_neg ep] at hcp hcq hpq
      exact absurd hpq (hd p hp ep (hno p ep) hcp hcq)
    · simp only [if_neg ep, if_neg eq] at hcp hcq hpq
      exact H.disj p q hp hq (hno p ep) (hno q eq) hcp hcq hpq

theorem own_slice {j : Nat} {s : κ} {xs : List (Ty s)} (h : objs[j]? = some (.sl s xs)) {u : Value} (hv : VRel C w Mut ρ objs (.own j) u) : ∃ A, u = .slice A xs.length (ρ j).cap ∧ ((ρ j).cap ≠ 0 → A = some (at' (ρ j).block (ρ j).off)) := by
  cases hv with
  | own h1 hA => rw [h] at h1; cases h1; exact ⟨_, rfl, hA⟩
  | ownd hc hin h1 => rw [slOf_of h] at h1; cases h1

/-- a slice that was taken out goes back -/
theorem settle_sound (HC : CodOk C) (S : SRel C Mut Lent w0 ρ env objs tm w) (id : Nat) :
    ∃ ρ', SRel C Mut Lent w0 ρ' env (settle C id objs) tm w ∧ ∀ (x : AV κ Ty) (u : Value), VRel C w Mut ρ objs x u → VRel C w Mut ρ' (settle C id objs) x u := by
  unfold settle
  split
  · rename_i k v es i j hid
    split
    · rename_i s xs hsl
      split
      · exact ⟨ρ, S, fun _ _ h => h⟩
      · rename_i hne
        split
        · rename_i y hdec
          have hne : id ≠ j := fun e => by subst e; simp at hne
          have hso := S.ob id
          simp only [ORel, hid] at hso
          obtain ⟨mes, H⟩ := hso
          have hi := H.hlt i _ rfl
          have he : es[i]? = some es[i] := List.getElem?_eq_getElem hi
          have hm : mes[i]? = some (mes[i]'(by rw [H.size]; exact hi)) := Array.getElem?_eq_getElem _
          have hv := (H.hole i (some j) _ rfl hm).2 j rfl
          have hsl' := slOf_some hsl
          have hjo := S.ob j
          simp only [ORel, hsl'] at hjo
          have hjo : SlAt C w Mut ρ objs (ρ j).block (ρ j).off (ρ j).cap s xs := hjo
          have hmod : es.modify i (fun e => (e.1, y)) = es.set i (es[i].1, y) := by
            apply List.ext_getElem?
            intro q
            rw [List.getElem?_modify, List.getElem?_set]
            by_cases e : i = q
            · subst e; simp [hi]
            · simp [e]
          rw [hmod]
          have hfj : (ρ j).cap ≠ 0 → FootAt ρ objs j (ρ j).block := fun hcap => foot_live hsl' hcap
          have hfi : ∀ q, q < es.length → (∀ o, some (i, some j) ≠ some (q, o)) → ((ρ id).sub q).2.2 ≠ 0 → FootAt ρ objs id ((ρ id).sub q).1 := fun q h1 h2 h3 => by
            unfold FootAt; rw [hid]; exact .inr ⟨q, h1, h2, h3, rfl⟩
          have hfb : FootAt ρ objs id (ρ id).block := by unfold FootAt; rw [hid]; exact .inl rfl
          refine ⟨_, SRel.mpset S hid (objs1 := objs.set j .dead) (.kill objs j) (List.getElem?_set_ne (Ne.symm hne)) (sub' := fun q => if q = i then ((ρ j).block, (ρ j).off, (ρ j).cap) else (ρ id).sub q) (fun _ _ => rfl) rfl rfl rfl rfl
            (fun q hq _ hcap => ?_) (fun W hl hc => ⟨mes, H.put he (fun i' o ho => by cases ho; rfl) (val := (mes[i]'(by rw [H.size]; exact hi)).val) W hl hc (fun _ _ => rfl) H.at_ rfl (fun _ _ => rfl) (fun me hme => ⟨me, hme, rfl, rfl, ?_⟩) ?_ (fun q hq hqi hn hcq hcj e => ?_) (fun hcj e => ?_)⟩)⟩
          · by_cases e : q = i
            · subst e
              simp only [if_true] at hcap ⊢
              have hj := (List.getElem?_eq_some_iff.mp hsl').1
              exact .inr ⟨j, by simp [hj], hfj hcap⟩
            · simp only [if_neg e] at hcap ⊢
              simp only [List.length_set] at hq
              exact .inl (hfi q hq (fun o ho => by cases ho; exact e rfl) hcap)
          · rw [hm] at hme; cases hme; rfl
          · rw [HC.dec _ _ _ hdec]
            obtain ⟨A, h1, h2⟩ := own_slice hsl' hv
            exact ⟨A, h1, h2, hjo.step W hl hc (fun _ => rfl)⟩
          · have h1 := hfi q hq hn hcq
            have h2 := hfj hcj
            dsimp only at e
            rw [e] at h1
            exact hne (S.inj _ _ _ h1 h2)
          · have h2 := hfj hcj
            dsimp only at e
            rw [e] at h2
            exact hne (S.inj _ _ _ hfb h2)
        · exact ⟨ρ, S, fun _ _ h => h⟩
    · exact ⟨ρ, S, fun _ _ h => h⟩
  · exact ⟨ρ, S, fun _ _ h => h⟩
theorem settleB_sound (HC : CodOk C) : ∀ (n : Nat) (objs : Objs κ Ty) (ρ : Nat → Loc), SRel C Mut Lent w0 ρ env objs tm w →
    ∃ ρ', SRel C Mut Lent w0 ρ' env (settleB C n objs) tm w ∧ ∀ (x : AV κ Ty) (u : Value), VRel C w Mut ρ objs x u → VRel C w Mut ρ' (settleB C n objs) x u
  | 0, objs, ρ, S => ⟨ρ, S, fun _ _ h => h⟩
  | n + 1, objs, ρ, S => by
    obtain ⟨ρ1, a1, a2⟩ := settle_sound HC S n
    obtain ⟨ρ2, b1, b2⟩ := settleB_sound HC n _ ρ1 a1
    exact ⟨ρ2, b1, fun x u h => b2 x u (a2 x u h)⟩

/-- a slice is taken out of a map -/
theorem SRel.mpout (S : SRel C Mut Lent w0 ρ env objs tm w) {id : Nat} {k v : κ} {es : List (Ty k × Ty v)} (hid : objs[id]? = some (.mp k v es none)) {mes : Array MapEntry} (H : MpRel C w Mut ρ objs (ρ id) k v es none mes)
    {i : Nat} {e : Ty k × Ty v} (he : es[i]? = some e) {b : Bool} {s : κ} {xs : List (Ty s)} (henc : C.enc v e.2 = [.inl b s xs]) {me : MapEntry} (hm : mes[i]? = some me) :
    ∃ ρ', SRel C Mut Lent w0 ρ' env (objs.set id (.mp k v es (some (i, some objs.length))) ++ [.sl s xs]) tm w ∧ VRel C w Mut ρ' (objs.set id (.mp k v es (some (i, some objs.length))) ++ [.sl s xs]) (.own objs.length) me.val ∧
      ∀ (x : AV κ Ty) (u : Value), VRel C w Mut ρ objs x u → VRel C w Mut ρ' (objs.set id (.mp k v es (some (i, some objs.length))) ++ [.sl s xs]) x u := by
  have hlt := (List.getElem?_eq_some_iff.mp hid).1
  have hil := (List.getElem?_eq_some_iff.mp he).1
  have hv := H.val i e me he hm (fun o h => by cases h)
  rw [henc] at hv
  obtain ⟨A, hv1, hv2, hv3⟩ := hv
  generalize hO : objs.set id (.mp k v es (some (i, some objs.length))) ++ [AObj.sl s xs] = O
  generalize hρ : upd ρ objs.length ⟨((ρ id).sub i).1, ((ρ id).sub i).2.1, ((ρ id).sub i).2.2, noSub⟩ = ρ'
  have hlen : (objs.set id (AObj.mp k v es (some (i, some objs.length)))).length = objs.length := by simp
  have o_new : O[objs.length]? = some (.sl s xs) := by
    rw [← hO, List.getElem?_append_right (by simp)]; simp
  have o_id : O[id]? = some (.mp k v es (some (i, some objs.length))) := by
    rw [← hO, push_old (by rw [hlen]; exact hlt)]; simp [hlt]
  have o_else : ∀ q, q ≠ id → q < objs.length → O[q]? = objs[q]? := fun q h1 h2 => by
    rw [← hO, push_old (by rw [hlen]; exact h2), List.getElem?_set_ne (Ne.symm h1)]
  have o_out : ∀ q, objs.length < q → O[q]? = none := fun q h => by
    rw [← hO]; exact List.getElem?_eq_none (by simp; omega)
  have r_new : ρ' objs.length = ⟨((ρ id).sub i).1, ((ρ id).sub i).2.1, ((ρ id).sub i).2.2, noSub⟩ := by rw [← hρ, upd_same]
  have r_else : ∀ q, q < objs.length → ρ' q = ρ q := fun q h => by rw [← hρ]; exact upd_other _ _ _ (by omega)
  have hblk : FootAt ρ objs id (ρ id).block := by unfold FootAt; rw [hid]; exact .inl rfl
  have hent : ∀ q, q < es.length → ((ρ id).sub q).2.2 ≠ 0 → FootAt ρ objs id ((ρ id).sub q).1 := fun q h1 h3 => by
    unfold FootAt; rw [hid]; exact .inr ⟨q, h1, fun o h => (by cases h), h3, rfl⟩
  have hft : ∀ p b, FootAt ρ' O p b → (p < objs.length ∧ p ≠ id ∧ FootAt ρ objs p b) ∨ (p = id ∧ FootAt ρ objs id b ∧ (((ρ id).sub i).2.2 ≠ 0 → b ≠ ((ρ id).sub i).1)) ∨ (p = objs.length ∧ ((ρ id).sub i).2.2 ≠ 0 ∧ b = ((ρ id).sub i).1 ∧ FootAt ρ objs id b) := fun p b hp => by
    unfold FootAt at hp
    by_cases e1 : p = id
    · subst e1
      rw [o_id, r_else p hlt] at hp
      refine .inr (.inl ⟨rfl, ?_⟩)
      rcases hp with hp | ⟨q, h1, h2, h3, h4⟩
      · rw [← hp]; exact ⟨hblk, fun hc => Ne.symm (H.own i hil (fun o h => (by cases h)) hc)⟩
      · have hqi : q ≠ i := fun e => h2 _ (by rw [e])
        rw [← h4]
        exact ⟨hent q h1 h3, fun hc e => hqi (H.disj q i h1 hil (fun o h => (by cases h)) (fun o h => (by cases h)) h3 hc e)⟩
    · by_cases e2 : p < objs.length
      · rw [o_else p e1 e2, r_else p e2] at hp
        exact .inl ⟨e2, e1, hp⟩
      · by_cases e3 : p = objs.length
        · subst e3
          rw [o_new, r_new] at hp
          exact .inr (.inr ⟨rfl, hp.1, hp.2.symm, by rw [← hp.2]; exact hent i hil hp.1⟩)
        · rw [o_out p (by omega)] at hp; exact hp.elim
  have W : WStep w w (FootB ρ objs) (FootB ρ' O) := WStep.same fun b ⟨p, hp⟩ => by
    rcases hft p b hp with ⟨_, _, h⟩ | ⟨_, h, _⟩ | ⟨_, _, _, h⟩
    · exact ⟨p, h⟩
    · exact ⟨id, h⟩
    · exact ⟨id, h⟩
  have hl : objs.length ≤ O.length := by rw [← hO]; simp
  have hc : ∀ q, Compat ρ objs ρ' O q := fun q => by
    by_cases e1 : q = id
    · subst e1; unfold Compat; rw [hid]; exact .inl ⟨_, _, o_id, by rw [r_else _ hlt]⟩
    · exact Compat.of_eq (fun h => o_else q e1 h) (fun h => r_else q h)
  have hown : VRel C w Mut ρ' O (.own objs.length) me.val := by
    have := VRel.own (C := C) (w := w) (Mut := Mut) (ρ := ρ') (A := A) o_new (fun h => by rw [r_new] at h ⊢; exact hv2 h)
    rw [r_new] at this
    rw [hv1]; exact this
  refine ⟨ρ', S.step W hl hc (fun q => ?_) (fun p q b hp hq => ?_) rfl rfl rfl, hown, fun x u hx => hx.step W hl hc⟩
  · by_cases e1 : q = id
    · subst e1
      unfold ORel
      rw [o_id, r_else _ hlt]
      refine ⟨mes, H.size, H.at_, fun q' e' he' => ?_, fun q' e' me' he' hm' hn => ?_, fun q' o me' ho hm' => ?_, fun q' o ho => ?_, fun q' hq' _ => H.own q' hq' (fun o h => by cases h), fun p' q' hp' hq' _ _ => H.disj p' q' hp' hq' (fun o h => by cases h) (fun o h => by cases h)⟩
      · obtain ⟨h1, me', h2, h3, h4⟩ := H.key q' e' he'
        exact ⟨h1, me', h2, h3, h4.step W hl hc⟩
      · exact (H.val q' e' me' he' hm' (fun o h => by cases h)).step W hl hc (fun _ _ _ => rfl)
      · cases ho
        rw [hm] at hm'; cases hm'
        exact ⟨by rw [hv1]; rfl, fun j hj => by cases hj; exact hown⟩
      · cases ho; exact hil
    · by_cases e2 : q < objs.length
      · exact ORel.step W hl hc (S.ob q) (o_else q e1 e2) (r_else q e2) (fun _ _ => rfl)
      · by_cases e3 : q = objs.length
        · subst e3
          unfold ORel
          rw [o_new, r_new]
          exact hv3.step W hl hc (fun _ => rfl)
        · unfold ORel; rw [o_out q (by omega)]; trivial
  · rcases hft p b hp with ⟨a1, a2, a3⟩ | ⟨a1, a2, a3⟩ | ⟨a1, a2, a3, a4⟩ <;> rcases hft q b hq with ⟨b1, b2, b3⟩ | ⟨b1, b2, b3⟩ | ⟨b1, b2, b3, b4⟩
    · exact S.inj _ _ _ a3 b3
    · exact absurd (S.inj _ _ _ a3 b2) a2
    · exact absurd (S.inj _ _ _ a3 b4) a2
    · exact absurd (S.inj _ _ _ b3 a2) b2
    · rw [a1, b1]
    · exact absurd b3 (a3 b2)
    · exact absurd (S.inj _ _ _ b3 a4) b2
    · exact absurd a3 (b3 a2)
    · rw [a1, b1]

/-! ### the key -/
theorem mfind_spec {α β : Type} {q : α → Bool} : ∀ {es : List (α × β)} {n : Nat} {p : Nat × β}, mfind q es n = some p → n ≤ p.1 ∧ ∃ a, es[p.1 - n]? = some (a, p.2) ∧ q a = true
  | [], n, p, h => by cases h
  | (a, b) :: es, n, p, h => by
    simp only [mfind] at h
    split at h
    · rename_i hq; cases h; exact ⟨Nat.le_refl _, a, by simp, hq⟩
    · obtain ⟨h1, a', h2, h3⟩ := mfind_spec h
      refine ⟨by omega, a', ?_, h3⟩
      rw [show p.1 - n = (p.1 - (n + 1)) + 1 by omega]; simpa using h2

theorem checkKey_flat {em : Bool} {n : Nat} {t : TypeId} {u : Value} (h : P.underlying t = some .string ∨ ∃ q, P.underlying t = some (.int q)) : (Instr.checkKey em (n + 1) t u).run P w = .ok () w := by
  rcases h with h | ⟨q, h⟩ <;> unfold Instr.checkKey <;> simp only [Sem.run_bind, run_underlying h, Result.andThen_ok] <;> cases u <;> rfl

theorem checkKey_run (HT : TOk P C T) {t kt et : TypeId} {ti : TI κ Ty} {k v : κ} (ht : T t = some ti) (hs : ti.shp = .map kt et k v) {x : Ty k} {u : Value} (hu : VRel C w Mut ρ objs (.agg (C.enc k x)) u) (em : Bool) :
    (Instr.checkKey em 10000 kt u).run P w = .ok () w := by
  obtain ⟨_, haeq, ⟨tk, fs, hk1, hk2, hk3⟩, _⟩ := HT.map t ti kt et k v ht hs
  have ha := haeq x x
  obtain ⟨fields, hund, hfs, _⟩ := HT.struct kt tk fs hk1 hk2
  obtain ⟨_, _, hnm⟩ := HT.seq kt tk fs hk1 hk2
  have hnm := hnm fields hund
  unfold aeq at ha
  rw [hk1] at ha; dsimp only at ha
  rw [hk2] at ha; dsimp only at ha
  cases hu with
  | agg l1 c1 r1 =>
    rename_i us
    rw [show (10000 : Nat) = 9999 + 1 from rfl, Instr.checkKey]
    simp only [Sem.run_bind, run_underlying hund, Result.andThen_ok]
    rw [← Array.forIn_toList]
    rw [← hfs] at ha hk3
    generalize C.keq k x x = b0 at ha
    generalize fields.toList = L at ha hk3 hnm
    induction L generalizing b0 with
    | nil => simp
    | cons f L ih =>
      simp only [List.map_cons, aeqFs] at ha
      split at ha
      · rename_i tf htf
        split at ha
        · rename_i p q hp hq
          split at ha
          · rename_i r hr
            split at ha
            · rename_i r' hr'
              obtain ⟨a, a1, a2⟩ := part_sound (P := P) HT htf ⟨l1, c1, r1⟩ hp
              obtain ⟨tf', g1, g2⟩ := hk3 _ (List.mem_cons_self ..)
              rw [htf] at g1; cases g1
              have hflat : P.underlying f.type = some .string ∨ ∃ q, P.underlying f.type = some (.int q) := by
                rcases g2 with ⟨q, hq⟩ | hq
                · exact .inr ⟨q, HT.int _ _ _ htf hq⟩
                · exact .inl (HT.str _ _ htf hq)
              have hn := hnm f (List.mem_cons_self ..)
              have hck : (Instr.checkKey em 9999 f.type a).run P w = .ok () w := checkKey_flat (n := 9998) hflat
              simp only [List.forIn_cons, Sem.run_bind, hn, ne_eq, not_false_eq_true, if_true, Result.andThen_ok, a1, hck, Sem.run_pure]
              exact ih r' hr' (fun g hg => hk3 g (List.mem_cons_of_mem _ hg)) (fun g hg => hnm g (List.mem_cons_of_mem _ hg))
            · cases ha
          · cases ha
        · cases ha
      · cases ha

theorem findAsking_run (HT : TOk P C T) {kt : TypeId} {k v : κ} (haeq : ∀ x y, aeq T 8 kt (.agg (C.enc k x)) (.agg (C.enc k y)) = some (C.keq k x y)) {x : Ty k} {u : Value} (hu : VRel C w Mut ρ objs (.agg (C.enc k x)) u) :
    ∀ (es : List (Ty k × Ty v)) (ms : List MapEntry) (n : Nat), ms.length = es.length → (∀ (q : Nat) (e : Ty k × Ty v), es[q]? = some e → ∃ me : MapEntry, ms[q]? = some me ∧ VRel C w Mut ρ objs (.agg (C.enc k e.1)) me.key) →
      (Instr.findAsking kt u ms n).run P w = .ok ((mfind (C.keq k x) es n).map fun p => (p.1, ((ms[p.1 - n]?).map (·.val)).getD default)) w
  | [], [], n, _, _ => by simp [Instr.findAsking, mfind]
  | [], _ :: _, _, h, _ => by simp at h
  | _ :: _, [], _, h, _ => by simp at h
  | e :: es, m :: ms, n, hl, hr => by
    obtain ⟨me, h1, h2⟩ := hr 0 e rfl
    simp only [List.getElem?_cons_zero, Option.some.injEq] at h1
    subst h1
    have he : (Op.equal kt u m.key).run P w = .ok (C.keq k x e.1) w := aeq_sound (P := P) HT 8 9992 kt _ _ _ _ _ (haeq x e.1) hu h2
    have ih := findAsking_run HT haeq hu es ms (n + 1) (by simpa using hl) (fun q e' hq => hr (q + 1) e' (by simpa using hq))
    obtain ⟨a, b⟩ := e
    simp only [Instr.findAsking, Sem.run_bind, he, Result.andThen_ok, mfind]
    cases hk : C.keq k x a with
    | true => simp
    | false =>
      simp only [Bool.false_eq_true, if_false]
      rw [ih]
      cases hm : mfind (C.keq k x) es (n + 1) with
      | none => rfl
      | some p =>
        obtain ⟨h1, _⟩ := mfind_spec hm
        simp only [Option.map_some]
        rw [show p.1 - n = (p.1 - (n + 1)) + 1 by omega, List.getElem?_cons_succ]

theorem findKey_run (HT : TOk P C T) {t kt et : TypeId} {ti : TI κ Ty} {k v : κ} (ht : T t = some ti) (hs : ti.shp = .map kt et k v) {x : Ty k} {u : Value} (hu : VRel C w Mut ρ objs (.agg (C.enc k x)) u) {L : Loc} {es : List (Ty k × Ty v)} {h : Option (Nat × Option Nat)}
    {mes : Array MapEntry} (H : MpRel C w Mut ρ objs L k v es h mes) : (Instr.findKey kt u mes.toList).run P w = .ok ((mfind (C.keq k x) es 0).map fun p => (p.1, ((mes[p.1]?).map (·.val)).getD default)) w := by
  obtain ⟨_, haeq, ⟨tk, fs, hk1, hk2, hk3⟩, _⟩ := HT.map t ti kt et k v ht hs
  obtain ⟨fields, hund, _⟩ := HT.struct kt tk fs hk1 hk2
  rw [run_findKey_eq (P := P) (w := w) (k := kt) (by rw [hund])]
  have := findAsking_run (v := v) HT haeq hu es mes.toList 0 (by simp [H.size]) (fun q e hq => by
    obtain ⟨_, me, h1, _, h3⟩ := H.key q e hq
    exact ⟨me, by simpa using h1, h3⟩)
  rw [this]; simp

theorem amap_some (HC : CodOk C) {kt et : TypeId} {k v : κ} {m key : AV κ Ty} {K : Nat → (k v : κ) → List (Ty k × Ty v) → Ty k → Option R} {r : R} (h : amap C objs (.map kt et k v) m key K = some r) :
    ∃ id es x, m = .mapv id ∧ objs[id]? = some (.mp k v es none) ∧ key = .agg (C.enc k x) ∧ K id k v es x = some r := by
  unfold amap at h
  split at h
  · rename_i kt' et' k1 v1 id hsh
    cases hsh
    split at h
    · rename_i k' v' es hid
      split at h
      · rename_i hsame
        simp only [Bool.and_eq_true] at hsame
        have e1 := HC.same _ _ hsame.1
        have e2 := HC.same _ _ hsame.2
        subst e1; subst e2
        split at h
        · rename_i ks _
          split at h
          · rename_i x hx
            exact ⟨id, es, x, rfl, hid, by rw [HC.dec _ _ _ hx], h⟩
          · cases h
        · cases h
      · cases h
    · cases h
  · cases h
theorem mapv_inv {id : Nat} {k v : κ} {es : List (Ty k × Ty v)} {h : Option (Nat × Option Nat)} (hid : objs[id]? = some (.mp k v es h)) {u : Value} (hu : VRel C w Mut ρ objs (.mapv id) u) : u = .map (some (ρ id).block) := by
  cases hu with
  | mapv h1 => rfl
  | mapd hc hin h1 => rw [isMp_of hid] at h1; cases h1
theorem lits_eq {cs : List (AV κ Ty)} (hl : ∀ c ∈ cs, ∃ v, c = .lit v) {u1 u2 : Value} (h1 : VRel C w Mut ρ objs (.agg cs) u1) (h2 : VRel C w Mut ρ objs (.agg cs) u2) : u1 = u2 := by
  cases h1 with
  | agg l1 c1 r1 =>
    cases h2 with
    | agg l2 c2 r2 =>
      rename_i us qs
      congr 1
      have : us = qs := by
        apply List.ext_getElem?
        intro j
        by_cases hj : j < cs.length
        · have e1 : us[j]? = some (us[j]'(by omega)) := List.getElem?_eq_getElem _
          have e2 : qs[j]? = some (qs[j]'(by omega)) := List.getElem?_eq_getElem _
          have ec : cs[j]? = some cs[j] := List.getElem?_eq_getElem hj
          obtain ⟨v, hv⟩ := hl cs[j] (List.getElem_mem hj)
          rw [hv] at ec
          have g1 := (lit_inv (r1 j _ _ ec e1)).1
          have g2 := (lit_inv (r2 j _ _ ec e2)).1
          rw [e1, e2, g1, g2]
        · rw [List.getElem?_eq_none (by omega), List.getElem?_eq_none (by omega)]
      rw [this]
theorem sameBits_lits {cs : List (AV κ Ty)} (hl : ∀ c ∈ cs, (∃ q n, c = .lit (.int q n)) ∨ ∃ s, c = .lit (.string s)) {u : Value} (h1 : VRel C w Mut ρ objs (.agg cs) u) (n : Nat) : Instr.sameBits (n + 1) u u = true := by
  cases h1 with
  | agg l1 c1 r1 =>
    rename_i us
    simp only [Instr.sameBits, beq_self_eq_true, Bool.true_and, List.all_eq_true]
    intro p hp
    obtain ⟨j, hj⟩ := List.getElem?_of_mem hp
    simp only [List.getElem?_zip_eq_some] at hj
    obtain ⟨h1, h2⟩ := hj
    have hjl : j < cs.length := by have := (List.getElem?_eq_some_iff.mp h1).1; omega
    have ec : cs[j]? = some cs[j] := List.getElem?_eq_getElem hjl
    have e12 : p.1 = p.2 := by rw [h1] at h2; exact Option.some.inj h2
    rcases hl cs[j] (List.getElem_mem hjl) with ⟨q, m, hv⟩ | ⟨s, hv⟩
    · rw [hv] at ec
      have g1 := (lit_inv (r1 j _ _ ec h1)).1
      rw [← e12, g1]; cases n <;> simp [Instr.sameBits]
    · rw [hv] at ec
      have g1 := (lit_inv (r1 j _ _ ec h1)).1
      have hss : (s == s) = true := by simp [MapKept.bytes_beq]
      rw [← e12, g1]; cases n <;> simp [Instr.sameBits, hss]

/-! ### the operations -/
theorem makeMap_sound (S : SRel C Mut Lent w0 ρ env objs tm w) (t : TypeId) (k v : κ) :
    ∃ u w' ρ', (Instr.makeMap t none).run P w = .ok u w' ∧ SRel C Mut Lent w0 ρ' env (objs ++ [.mp k v [] none]) tm w' ∧ VRel C w' Mut ρ' (objs ++ [.mp k v [] none]) (.mapv objs.length) u := by
  refine ⟨.map (some w.heap.size), w.alloc (.map #[] 0), upd ρ objs.length ⟨w.heap.size, 0, 0, noSub⟩, ?_, ?_, ?_⟩
  · rfl
  · refine (S.fresh (o := .mp k v [] none) (l := ⟨w.heap.size, 0, 0, noSub⟩) (w' := w.alloc (.map #[] 0)) (fun b h => heap_alloc_old w _ h) (by simp) (Nat.le_refl _) (fun W => ?_) rfl rfl rfl).2
    unfold ORel
    rw [push_new, upd_same]
    refine ⟨#[], rfl, ?_, fun i e h => by simp at h, fun i e me h => by simp at h, fun i o me h => (by cases h), fun i o h => (by cases h), fun i h => by simp at h, fun i j h => by simp at h⟩
    exact (MapKept.heap_alloc w (.map #[] 0)).1
  · have := VRel.mapv (C := C) (w := w.alloc (.map #[] 0)) (Mut := Mut) (ρ := upd ρ objs.length ⟨w.heap.size, 0, 0, noSub⟩) (push_new objs (.mp k v [] none))
    rw [upd_same] at this
    exact this

theorem mgot_sound (S : SRel C Mut Lent w0 ρ env objs tm w) {id : Nat} {k v : κ} {es : List (Ty k × Ty v)} (hid : objs[id]? = some (.mp k v es none)) {mes : Array MapEntry} (H : MpRel C w Mut ρ objs (ρ id) k v es none mes)
    {p : Nat × Ty v} {e : Ty k × Ty v} (he : es[p.1]? = some e) (hp : e.2 = p.2) {me : MapEntry} (hm : mes[p.1]? = some me) {K : AV κ Ty → Objs κ Ty → Option R} {r : R} (h : mgot C objs id k v es p K = some r) :
    ∃ x objs' ρ', K x objs' = some r ∧ SRel C Mut Lent w0 ρ' env objs' tm w ∧ VRel C w Mut ρ' objs' x me.val := by
  unfold mgot at h
  split at h
  · rename_i u henc
    have hv := H.val p.1 e me he hm (fun o h => by cases h)
    rw [hp, henc] at hv
    refine ⟨_, _, ρ, h, S, ?_⟩
    rw [hv.1]; exact .lit hv.2.1
  · rename_i b s xs henc
    obtain ⟨ρ', g1, g2, _⟩ := S.mpout hid H he (by rw [hp]; exact henc) hm
    exact ⟨_, _, ρ', h, g1, g2⟩
  · cases h

theorem zero_run {et : TypeId} {i : TypeInfo} {z : Value} (h1 : P.info? et = some i) (h2 : i.zero = some z) : (zeroValue et).run P w = .ok z w := by
  simp [zeroValue, runTI h1, h2]
theorem cell_cells {z : Value} (h : isCell z = true) : z.cells = #[z] := by
  cases z <;> first | rfl | cases h

/-- what a map's element type begins as -/
theorem elem_of (HT : TOk P C T) {t kt et : TypeId} {ti te : TI κ Ty} {k v : κ} (ht : T t = some ti) (hs : ti.shp = .map kt et k v) (hte : T et = some te) {z : AV κ Ty} (hz : te.zero = [z]) :
    ∃ u, (zeroValue et).run P w = .ok u w ∧ zval z = some u ∧ isCell u = true := by
  obtain ⟨_, _, _, _, i, u, h1, h2, h3⟩ := HT.map t ti kt et k v ht hs
  obtain ⟨i', z', g1, _, _, g4, g5, _⟩ := HT.info et te hte
  rw [h1] at g1; cases g1
  rw [h2] at g4; cases g4
  refine ⟨u, zero_run h1 h2, ?_, h3⟩
  rw [cell_cells h3, hz] at g5
  simpa using g5.symm

theorem alookupL_sound (HT : TOk P C T) (HC : CodOk C) (S : SRel C Mut Lent w0 ρ env objs tm w) {t kt et : TypeId} {ti te : TI κ Ty} {k v : κ} (ht : T t = some ti) (hs : ti.shp = .map kt et k v) (hte : T et = some te) {z : Value} (hz : te.zero = [.lit z])
    {m key : AV κ Ty} {um uk : Value} (hm : VRel C w Mut ρ objs m um) (hk : VRel C w Mut ρ objs key uk) {K : AV κ Ty → Option R} {r : R} (h : alookupL C objs (.map kt et k v) m key z K = some r) :
    ∃ u, K (.lit u) = some r ∧ (Instr.lookup t um uk false).run P w = .ok u w ∧ isCell u = true := by
  unfold alookupL at h
  obtain ⟨id, es, x, rfl, hid, rfl, hK⟩ := amap_some HC h
  clear h
  have h := hK; clear hK
  have hum := mapv_inv hid hm
  subst hum
  have hso := S.ob id
  simp only [ORel, hid] at hso
  obtain ⟨mes, H⟩ := hso
  obtain ⟨hund, _⟩ := HT.map t ti kt et k v ht hs
  have hfk := findKey_run (w := w) HT ht hs hk H
  have hck := checkKey_run (w := w) HT ht hs hk
  obtain ⟨zu, hz1, hz2, hz3⟩ := elem_of (w := w) HT ht hs hte hz
  cases hz2
  simp only [Instr.lookup, Sem.run_bind, run_underlying hund, Result.andThen_ok, MapKept.run_getObj_map H.at_, hck, hfk, Sem.run_pure]
  cases hf : mfind (C.keq k x) es 0 with
  | none =>
    rw [hf] at h
    refine ⟨z, h, ?_, hz3⟩
    simp [hz1]
  | some p =>
    rw [hf] at h
    obtain ⟨_, a, h2, _⟩ := mfind_spec hf
    rw [Nat.sub_zero] at h2
    obtain ⟨_, me, h3, _⟩ := H.key p.1 _ h2
    have hv := H.val p.1 _ me h2 h3 (fun o h => by cases h)
    simp only [optK] at h
    split at h
    · rename_i u henc
      rw [henc] at hv
      refine ⟨u, h, ?_, hv.2.1⟩
      simp [h3, hv.1]
    · cases h

theorem alookupS_sound (HT : TOk P C T) (HC : CodOk C) (S : SRel C Mut Lent w0 ρ env objs tm w) {t kt et : TypeId} {ti te : TI κ Ty} {k v : κ} (ht : T t = some ti) (hs : ti.shp = .map kt et k v) (hte : T et = some te) {s : κ} (hz : te.zero = [.nil s])
    {m key : AV κ Ty} {um uk : Value} (hm : VRel C w Mut ρ objs m um) (hk : VRel C w Mut ρ objs key uk) {K : AV κ Ty → Objs κ Ty → Option R} {r : R} (h : alookupS C objs (.map kt et k v) m key s K = some r) :
    ∃ y objs' ρ' u, K y objs' = some r ∧ (Instr.lookup t um uk false).run P w = .ok u w ∧ SRel C Mut Lent w0 ρ' env objs' tm w ∧ VRel C w Mut ρ' objs' y u := by
  unfold alookupS at h
  obtain ⟨ρ1, S, hrel⟩ := settle_sound HC S (mapId m)
  replace hm := hrel _ _ hm
  replace hk := hrel _ _ hk
  clear hrel
  generalize settle C (mapId m) objs = objs at h S hm hk
  generalize ρ1 = ρ at S hm hk
  dsimp only at h
  obtain ⟨id, es, x, rfl, hid, rfl, hK⟩ := amap_some HC h
  clear h
  have h := hK; clear hK
  have hum := mapv_inv hid hm
  subst hum
  have hso := S.ob id
  simp only [ORel, hid] at hso
  obtain ⟨mes, H⟩ := hso
  obtain ⟨hund, _⟩ := HT.map t ti kt et k v ht hs
  have hfk := findKey_run (w := w) HT ht hs hk H
  have hck := checkKey_run (w := w) HT ht hs hk
  obtain ⟨zu, hz1, hz2, hz3⟩ := elem_of (w := w) HT ht hs hte hz
  cases hz2
  simp only [Instr.lookup, Sem.run_bind, run_underlying hund, Result.andThen_ok, MapKept.run_getObj_map H.at_, hck, hfk, Sem.run_pure]
  cases hf : mfind (C.keq k x) es 0 with
  | none =>
    rw [hf] at h
    refine ⟨_, _, ρ, _, h, ?_, S, .nil (A := none)⟩
    simp [hz1]
  | some p =>
    rw [hf] at h
    obtain ⟨_, a, h2, _⟩ := mfind_spec hf
    rw [Nat.sub_zero] at h2
    obtain ⟨_, me, h3, _⟩ := H.key p.1 _ h2
    obtain ⟨y, objs', ρ', g1, g2, g3⟩ := mgot_sound S hid H h2 rfl h3 h
    refine ⟨y, objs', ρ', me.val, g1, ?_, g2, g3⟩
    simp [h3]

theorem MpRel.push {L : Loc} {k v : κ} {es : List (Ty k × Ty v)} {mes : Array MapEntry} (H : MpRel C w Mut ρ objs L k v es none mes) {x : Ty k} {y : Ty v} {key val : Value}
    (W : WStep w w' (FootB ρ objs) (FootB ρ' objs')) (hl : objs.length ≤ objs'.length) (hc : ∀ q, Compat ρ objs ρ' objs' q) (hheap : ∀ b, b ≠ L.block → w'.heap[b]? = w.heap[b]?)
    (hat : w'.heap[L.block]? = some (.map (mes.push { key := key, val := val, born := mes.size }) (mes.size + 1))) (hlit : ∀ c ∈ C.enc k x, ∃ v, c = .lit v) (hk : VRel C w Mut ρ objs (.agg (C.enc k x)) key) (hv : EntR C w' Mut ρ' objs' (0, 0, 0) (C.enc v y) val) :
    MpRel C w' Mut ρ' objs' { L with sub := fun q => if q = es.length then (0, 0, 0) else L.sub q } k v (es ++ [(x, y)]) none (mes.push { key := key, val := val, born := mes.size }) := by
  have hget : ∀ q e', (es ++ [(x, y)])[q]? = some e' → (q = es.length ∧ e' = (x, y)) ∨ (q < es.length ∧ es[q]? = some e') := fun q e' hq => by
    by_cases e : q < es.length
    · rw [List.getElem?_append_left e] at hq; exact .inr ⟨e, hq⟩
    · have := (List.getElem?_eq_some_iff.mp hq).1
      simp at this
      have e : q = es.length := by omega
      subst e
      simp at hq; exact .inl ⟨rfl, hq.symm⟩
  have mget : ∀ q, q < es.length → (mes.push { key := key, val := val, born := mes.size })[q]? = mes[q]? := fun q hq => by
    rw [Array.getElem?_push, if_neg (by rw [H.size]; omega)]
  have mnew : (mes.push { key := key, val := val, born := mes.size })[es.length]? = some { key := key, val := val, born := mes.size } := by
    rw [← H.size]; simp
  refine ⟨by simp [H.size], by rw [hat]; simp, fun q e' hq => ?_, fun q e' me hq hm _ => ?_, fun q o me hq => (by cases hq), fun q o hq => (by cases hq), fun q hq _ hcap => ?_, fun p q hp hq _ _ hcp hcq hpq => ?_⟩
  · rcases hget q e' hq with ⟨rfl, rfl⟩ | ⟨h1, h2⟩
    · exact ⟨hlit, _, mnew, H.size, hk.step W hl hc⟩
    · obtain ⟨g1, me, g2, g3, g4⟩ := H.key q e' h2
      exact ⟨g1, me, by rw [mget q h1]; exact g2, g3, g4.step W hl hc⟩
  · rcases hget q e' hq with ⟨rfl, rfl⟩ | ⟨h1, h2⟩
    · rw [mnew] at hm; cases hm
      simp only [if_true]; exact hv
    · rw [mget q h1] at hm
      simp only [if_neg (Nat.ne_of_lt h1)]
      refine (H.val q e' me h2 hm (fun o h => by cases h)).step W hl hc fun b hb1 hb2 => hheap b fun eb => ?_
      exact H.own q h1 (fun o h => by cases h) hb1 (by rw [hb2, eb])
  · by_cases e : q = es.length
    · simp [e] at hcap
    · simp only [if_neg e] at hcap ⊢
      simp at hq
      exact H.own q (by omega) (fun o h => by cases h) hcap
  · by_cases e : p = es.length
    · simp [e] at hcp
    · by_cases e' : q = es.length
      · simp [e'] at hcq
      · simp only [if_neg e, if_neg e'] at hcp hcq hpq
        simp at hp hq
        exact H.disj p q (by omega) (by omega) (fun o h => by cases h) (fun o h => by cases h) hcp hcq hpq

theorem heap_same {r : Nat} {o : Obj} (h : w.heap[r]? = some o) : ({ w with heap := w.heap.setIfInBounds r o } : World) = w := by
  have : w.heap.setIfInBounds r o = w.heap := by
    apply Array.ext_getElem?
    intro i
    rw [Array.getElem?_setIfInBounds]
    split
    · rename_i e; subst e
      split
      · exact h.symm
      · rename_i hn; rw [Array.getElem?_eq_none (by omega)]
    · rfl
  rw [this]

theorem amapEntry_sound (HT : TOk P C T) (HC : CodOk C) (S : SRel C Mut Lent w0 ρ env objs tm w) {t kt et : TypeId} {ti te : TI κ Ty} {k v : κ} (ht : T t = some ti) (hs : ti.shp = .map kt et k v) (hte : T et = some te)
    {m key : AV κ Ty} {um uk : Value} (hm : VRel C w Mut ρ objs m um) (hk : VRel C w Mut ρ objs key uk) {K : AV κ Ty → Objs κ Ty → Option R} {r : R} (h : amapEntry C objs (.map kt et k v) m key te K = some r) :
    ∃ y objs' ρ' u w', K y objs' = some r ∧ (Instr.mapEntry t um uk).run P w = .ok u w' ∧ SRel C Mut Lent w0 ρ' env objs' tm w' ∧ VRel C w' Mut ρ' objs' y u := by
  unfold amapEntry at h
  obtain ⟨ρ1, S, hrel⟩ := settle_sound HC S (mapId m)
  replace hm := hrel _ _ hm
  replace hk := hrel _ _ hk
  clear hrel
  generalize settle C (mapId m) objs = objs at h S hm hk
  generalize ρ1 = ρ at S hm hk
  dsimp only at h
  obtain ⟨id, es, x, rfl, hid, rfl, hK⟩ := amap_some HC h
  clear h
  have h := hK; clear hK
  have hum := mapv_inv hid hm
  subst hum
  have hso := S.ob id
  simp only [ORel, hid] at hso
  obtain ⟨mes, H⟩ := hso
  obtain ⟨hund, _, _, hlits, _⟩ := HT.map t ti kt et k v ht hs
  have hlit : ∀ c ∈ C.enc k x, ∃ v, c = .lit v := fun c hc => by
    rcases hlits x c hc with ⟨q, n, rfl⟩ | ⟨s, rfl⟩ <;> exact ⟨_, rfl⟩
  have hfk := findKey_run (w := w) HT ht hs hk H
  have hck := checkKey_run (w := w) HT ht hs hk
  simp only [Instr.mapEntry, Sem.run_bind, run_underlying hund, Result.andThen_ok, MapKept.run_getObj_map H.at_, hck, hfk, Sem.run_pure]
  cases hf : mfind (C.keq k x) es 0 with
  | none =>
    rw [hf] at h
    simp only [optK] at h
    split at h
    · rename_i z y hz hdec
      obtain ⟨zu, hz1, hz2, hz3⟩ := elem_of (w := w) HT ht hs hte hz
      simp only [Option.map_none, Sem.run_bind, hz1, Result.andThen_ok, MapKept.run_setObj_map _ H.at_, Sem.run_pure]
      have hset := MapKept.heap_set (o' := .map (mes.push { key := uk, val := zu, born := mes.size }) (mes.size + 1)) H.at_
      have hent : ∀ (w' : World) (ρ' : Nat → Loc) (objs' : Objs κ Ty), EntR C w' Mut ρ' objs' (0, 0, 0) (C.enc v y) zu := fun w' ρ' objs' => by
        rw [HC.dec _ _ _ hdec, hz]
        cases z with
        | lit z0 => cases hz2; exact ⟨rfl, hz3, rfl⟩
        | nil s => cases hz2; exact ⟨none, rfl, fun h => absurd rfl h, Nat.le_refl _, fun h => absurd rfl h, fun i x j cl hx => by simp at hx, fun q hq => by simp at hq⟩
        | _ => simp [zval] at hz2
      obtain ⟨S', hrel⟩ := S.mpset (w' := { w with heap := w.heap.setIfInBounds (ρ id).block (.map (mes.push { key := uk, val := zu, born := mes.size }) (mes.size + 1)) }) hid (objs1 := objs) (.refl objs) rfl
        (es' := es ++ [(x, y)]) (h' := none) (sub' := fun q => if q = es.length then (0, 0, 0) else (ρ id).sub q) (fun b hb => hset.2 b hb) (by simp) rfl rfl rfl
        (fun q hq _ hcap => by
          by_cases e : q = es.length
          · simp [e] at hcap
          · simp only [if_neg e] at hcap ⊢
            simp at hq
            refine .inl ?_
            unfold FootAt; rw [hid]; exact .inr ⟨q, by omega, fun o h => (by cases h), hcap, rfl⟩)
        (fun W hl hc => ⟨_, H.push W hl hc (fun b hb => hset.2 b hb) hset.1 hlit hk (hent _ _ _)⟩)
      refine ⟨_, _, _, _, _, h, rfl, S', ?_⟩
      refine .tup (us := [zu, goInt mes.size]) (by simp) (fun j cl u hj hu => ?_)
      cases j with
      | zero =>
        simp at hj hu; subst hj; subst hu
        cases z with
        | lit z0 => cases hz2; exact .lit hz3
        | nil s => cases hz2; exact .nil
        | _ => simp [zval] at hz2
      | succ j =>
        cases j with
        | zero => simp at hj hu; subst hj; subst hu; rw [H.size]; exact .lit rfl
        | succ j => simp at hj
    · cases h
  | some p =>
    rw [hf] at h
    simp only [optK] at h
    obtain ⟨_, a, h2, h2'⟩ := mfind_spec hf
    rw [Nat.sub_zero] at h2
    have hxa := HC.keq _ _ _ h2'
    subst hxa
    obtain ⟨_, me, h3, h4, h5⟩ := H.key p.1 _ h2
    have hke : me.key = uk := lits_eq hlit h5 hk
    have hsb : Instr.sameBits 10000 uk uk = true := sameBits_lits (hlits x) hk 9999
    obtain ⟨y, objs', ρ', g1, g2, g3⟩ := mgot_sound S hid H h2 rfl h3 h
    have hmod : mes.modify p.1 (fun e => { e with key := uk }) = mes := by
      apply Array.ext_getElem?
      intro i
      rw [Array.getElem?_modify]
      split
      · rename_i e; subst e; rw [h3]; simp [← hke]
      · rfl
    refine ⟨_, objs', ρ', .tuple #[me.val, goInt p.1], w, g1, ?_, g2, ?_⟩
    · simp only [Option.map_some, h3, Option.getD_some, hke, Instr.keyThatStays, hsb, if_true, Sem.run_bind, Sem.run_pure, Result.andThen_ok, MapKept.run_setObj_map _ H.at_, hmod, h4, heap_same H.at_]
    · refine .tup (us := [me.val, goInt p.1]) (by simp) (fun j cl u hj hu => ?_)
      cases j with
      | zero => simp at hj hu; subst hj; subst hu; exact g3
      | succ j =>
        cases j with
        | zero => simp at hj hu; subst hj; subst hu; exact .lit rfl
        | succ j => simp at hj

theorem findBorn {mes : Array MapEntry} (hb : ∀ (q : Nat) me, mes[q]? = some me → me.born = q) {n : Nat} (hn : n < mes.size) : mes.findIdx? (fun e => (e.born : Int) == (n : Int)) = some n := by
  rw [Array.findIdx?_eq_some_iff_getElem]
  refine ⟨hn, ?_, fun j hj => ?_⟩
  · rw [hb n _ (Array.getElem?_eq_getElem hn)]; simp
  · rw [hb j _ (Array.getElem?_eq_getElem (by omega))]; simp; omega

/-- a value goes into a map -/
theorem SRel.mpstore (S : SRel C Mut Lent w0 ρ env objs tm w) {id : Nat} {k v : κ} {es : List (Ty k × Ty v)} {h : Option (Nat × Option Nat)} (hid : objs[id]? = some (.mp k v es h)) {mes : Array MapEntry} (H : MpRel C w Mut ρ objs (ρ id) k v es h mes)
    {n : Nat} {e : Ty k × Ty v} (he : es[n]? = some e) (hh : ∀ i o, h = some (i, o) → i = n) {y : Ty v} {u : Value} {L' : Nat × Nat × Nat} (hw : Weaker objs objs1) (hid1 : objs1[id]? = objs[id]?)
    (hfoot : L'.2.2 ≠ 0 → ∃ j, objs1[j]? = some .dead ∧ j ≠ id ∧ FootAt ρ objs j L'.1)
    (hv : ∀ (w' : World) (ρ' : Nat → Loc) (objs' : Objs κ Ty), WStep w w' (FootB ρ objs) (FootB ρ' objs') → objs.length ≤ objs'.length → (∀ q, Compat ρ objs ρ' objs' q) → (∀ b, b ≠ (ρ id).block → w'.heap[b]? = w.heap[b]?) → EntR C w' Mut ρ' objs' L' (C.enc v y) u) :
    ∃ ρ', SRel C Mut Lent w0 ρ' env (objs1.set id (.mp k v (es.set n (e.1, y)) none)) tm { w with heap := w.heap.setIfInBounds (ρ id).block (.map (mes.modify n fun e => { e with val := u }) mes.size) } := by
  have hset := MapKept.heap_set (o' := .map (mes.modify n fun e => { e with val := u }) mes.size) H.at_
  have hfi : ∀ q, q < es.length → (∀ o, h ≠ some (q, o)) → ((ρ id).sub q).2.2 ≠ 0 → FootAt ρ objs id ((ρ id).sub q).1 := fun q h1 h2 h3 => by
    unfold FootAt; rw [hid]; exact .inr ⟨q, h1, h2, h3, rfl⟩
  have hfb : FootAt ρ objs id (ρ id).block := by unfold FootAt; rw [hid]; exact .inl rfl
  refine ⟨_, (S.mpset (w' := { w with heap := w.heap.setIfInBounds (ρ id).block (.map (mes.modify n fun e => { e with val := u }) mes.size) }) hid hw hid1 (es' := es.set n (e.1, y)) (h' := none) (sub' := fun q => if q = n then L' else (ρ id).sub q)
    (fun b hb => hset.2 b hb) (by simp) rfl rfl rfl (fun q hq _ hcap => ?_) (fun W hl hc => ⟨_, H.put (mes' := mes.modify n fun e => { e with val := u }) he hh (val := u) W hl hc (fun b hb => hset.2 b hb) (by rw [hset.1]; simp) (by simp) (fun q hq => ?_) (fun me hme => ?_) (hv _ _ _ W hl hc (fun b hb => hset.2 b hb)) (fun q hq hqn hn hcq hcj eb => ?_) (fun hcj eb => ?_)⟩)).1⟩
  · by_cases e1 : q = n
    · subst e1
      simp only [if_true] at hcap ⊢
      obtain ⟨j, j1, _, j3⟩ := hfoot hcap
      exact .inr ⟨j, j1, j3⟩
    · simp only [if_neg e1] at hcap ⊢
      simp only [List.length_set] at hq
      exact .inl (hfi q hq (fun o ho => e1 (hh _ _ ho)) hcap)
  · rw [Array.getElem?_modify, if_neg (Ne.symm hq)]
  · exact ⟨{ me with val := u }, by rw [Array.getElem?_modify, if_pos rfl, hme]; rfl, rfl, rfl, rfl⟩
  · obtain ⟨j, _, j2, j3⟩ := hfoot hcj
    have h1 := hfi q hq hn hcq
    rw [eb] at h1
    exact j2 (S.inj _ _ _ j3 h1)
  · obtain ⟨j, _, j2, j3⟩ := hfoot hcj
    rw [eb] at j3
    exact j2 (S.inj _ _ _ j3 hfb)

theorem aentryStore_sound (HT : TOk P C T) (HC : CodOk C) (S : SRel C Mut Lent w0 ρ env objs tm w) {t kt et : TypeId} {ti : TI κ Ty} {k v : κ} (ht : T t = some ti) (hs : ti.shp = .map kt et k v)
    {m stamp x : AV κ Ty} {um us ux : Value} (hm : VRel C w Mut ρ objs m um) (hst : VRel C w Mut ρ objs stamp us) (hx : VRel C w Mut ρ objs x ux) {K : Objs κ Ty → Option R} {r : R} (h : aentryStore C objs ti.shp m stamp x K = some r) :
    ∃ objs' ρ' w', K objs' = some r ∧ (Instr.entryStore t um us ux).run P w = .ok () w' ∧ SRel C Mut Lent w0 ρ' env objs' tm w' := by
  unfold aentryStore at h
  split at h
  · rename_i kt' et' k0 v0 id kk n hsh
    split at h
    · rename_i k' v' es hh hid
      split at h
      · rename_i hsame
        have hum := mapv_inv hid hm
        subst hum
        obtain ⟨rfl, _⟩ := lit_inv hst
        have hso := S.ob id
        simp only [ORel, hid] at hso
        obtain ⟨mes, H⟩ := hso
        have key : ∀ {e : Ty k' × Ty v'}, idx es n = some e → (∀ i o, hh = some (i, o) → i = n.toNat) → mputs C objs v' x (fun y objs => K (objs.set id (.mp k' v' (es.set n.toNat (e.1, y)) none))) = some r →
            ∃ objs' ρ' w', K objs' = some r ∧ (Instr.entryStore t (.map (some (ρ id).block)) (.int kk n) ux).run P w = .ok () w' ∧ SRel C Mut Lent w0 ρ' env objs' tm w' := by
          intro e he hho hput
          clear h
          have h := hput
          clear hput
          have hn0 : 0 ≤ n := by
            unfold idx at he; split at he
            · cases he
            · omega
          have he' : es[n.toNat]? = some e := by
            unfold idx at he; rw [if_neg (by omega)] at he; exact he
          have hlt : n.toNat < mes.size := by rw [H.size]; exact (List.getElem?_eq_some_iff.mp he').1
          have hrun : (Instr.entryStore t (.map (some (ρ id).block)) (.int kk n) ux).run P w = .ok () { w with heap := w.heap.setIfInBounds (ρ id).block (.map (mes.modify n.toNat fun e => { e with val := ux }) mes.size) } := by
            have hfb := findBorn (mes := mes) (fun q me hq => by
              have hql : q < es.length := by rw [← H.size]; exact (Array.getElem?_eq_some_iff.mp hq).1
              obtain ⟨_, me', g1, g2, _⟩ := H.key q _ (List.getElem?_eq_getElem hql)
              rw [hq] at g1; cases g1; exact g2) hlt
            rw [show ((n.toNat : Nat) : Int) = n by omega] at hfb
            simp only [Instr.entryStore, Sem.run_bind, MapKept.run_getObj_map H.at_, Result.andThen_ok, asInt, asIntOf, Sem.run_pure, hfb, MapKept.run_setObj_map _ H.at_]
          unfold mputs at h
          split at h
          · rename_i u0
            split at h
            · rename_i y hdec
              obtain ⟨rfl, hcell⟩ := lit_inv hx
              obtain ⟨ρ', S'⟩ := S.mpstore hid H he' hho (y := y) (u := ux) (L' := (0, 0, 0)) (.refl objs) rfl (fun h => absurd rfl h) (fun w' ρ' objs' _ _ _ _ => by
                rw [HC.dec _ _ _ hdec]; exact ⟨rfl, hcell, rfl⟩)
              exact ⟨_, ρ', _, h, hrun, S'⟩
            · cases h
          · rename_i j
            split at h
            · rename_i s xs hsl
              split at h
              · rename_i y hdec
                have hsl' := slOf_some hsl
                have hji : j ≠ id := fun e => by rw [e, hid] at hsl'; cases hsl'
                have hjl := (List.getElem?_eq_some_iff.mp hsl').1
                have hjo := S.ob j
                simp only [ORel, hsl'] at hjo
                have hjo : SlAt C w Mut ρ objs (ρ j).block (ρ j).off (ρ j).cap s xs := hjo
                obtain ⟨A, h1, h2⟩ := own_slice hsl' hx
                obtain ⟨ρ', S'⟩ := S.mpstore hid H he' hho (y := y) (u := ux) (L' := ((ρ j).block, (ρ j).off, (ρ j).cap)) (.kill objs j) (List.getElem?_set_ne hji) (fun hc => ⟨j, by simp [hjl], hji, foot_live hsl' hc⟩) (fun w' ρ' objs' W hl hc hheap => by
                  rw [HC.dec _ _ _ hdec]
                  refine ⟨A, h1, h2, hjo.step W hl hc fun hcap => hheap _ fun e => ?_⟩
                  have hf := foot_live hsl' hcap
                  dsimp only at e
                  rw [e] at hf
                  exact hji (S.inj _ _ _ hf (by unfold FootAt; rw [hid]; exact .inl rfl)))
                exact ⟨_, ρ', _, h, hrun, S'⟩
              · cases h
            · cases h
          · cases h
        split at h
        · obtain ⟨e, he, h⟩ := bind_some h
          exact key he (fun i o ho => by cases ho) h
        · rename_i i o
          split at h
          · rename_i hb
            obtain ⟨e, he, h⟩ := bind_some h
            exact key he (fun i' o' ho => by cases ho; exact Nat.eq_of_beq_eq_true hb) h
          · cases h
      · cases h
    · cases h
  · cases h

end
end Km
namespace Km
open Go
set_option linter.unusedVariables false
set_option linter.unusedSimpArgs false

variable {κ : Type} {Ty : κ → Type} {R : Type}
section
variable {P : Program} {C : Cod κ Ty} {T : TypeId → Option (TI κ Ty)} {Γ : FuncId → Option (Summ κ Ty)}
variable {Mut : Nat → Prop} {Lent : Org κ Ty} {w0 w w' : World} {ρ ρ' ρ2 : Nat → Loc} {env : Env κ Ty} {objs objs' objs2 : Objs κ Ty} {a : Act}
variable {next : Act → World → Prop} {Q : Exit → Act → World → Prop} {o : Oper}

/-- all that is known of the program -/
structure Known (P : Program) (C : Cod κ Ty) (T : TypeId → Option (TI κ Ty)) (Γ : FuncId → Option (Summ κ Ty)) : Prop where
  ty : TOk P C T
  el : EOk P C T
  cod : CodOk C
  fn : ∀ f S, Γ f = some S → SummOk P C f S

theorem opnds_rel (HT : TOk P C T) (S : SRel C Mut Lent w0 ρ env objs a.tmps w) : ∀ (xs : List Operand) (ts : List TypeId), xs.length = ts.length → (xs.map a.eval).length = (opnds T env xs ts).length ∧
    ∀ (j : Nat) (x : AV κ Ty) (u : Value), (opnds T env xs ts)[j]? = some x → (xs.map a.eval)[j]? = some u → VRel C w Mut ρ objs x u
  | [], [], _ => ⟨rfl, fun j x u h => by simp [opnds] at h⟩
  | [], _ :: _, h => by simp at h
  | _ :: _, [], h => by simp at h
  | x :: xs, t :: ts, h => by
    obtain ⟨h1, h2⟩ := opnds_rel HT S xs ts (by simpa using h)
    refine ⟨by simp [opnds] at h1 ⊢; exact h1, fun j y u hj hu => ?_⟩
    cases j with
    | zero => simp [opnds] at hj hu; subst hj; subst hu; exact opnd_rel HT S t x
    | succ j => exact h2 j y u (by simpa [opnds] using hj) (by simpa using hu)

theorem lenOf_sound (HT : TOk P C T) (HC : CodOk C) (S : SRel C Mut Lent w0 ρ env objs a.tmps w) {t ty : TypeId} {ti : TI κ Ty} (ht : T t = some ti) {x : AV κ Ty} {u : Value} {n : Int} (hx : VRel C w Mut ρ objs x u) (h : lenOf objs ti.shp x = some n) :
    (Builtin.len_ #[t] ty #[u]).run P w = .ok (.int .i64 n) w := by
  unfold lenOf at h
  split at h
  · rename_i hs
    have hu := HT.str t ti ht hs
    split at h
    · obtain ⟨rfl, _⟩ := lit_inv hx
      cases h
      simp only [Builtin.len_, List.getElem?_toArray, List.getElem?_cons_zero, Sem.run_bind, run_underlying hu, Result.andThen_ok]
      rfl
    · cases h
  · rename_i e s hs
    obtain ⟨hu, _⟩ := HT.slice t ti e s ht hs
    split at h
    · rename_i t' xs hr
      obtain ⟨A, c, blk, off, rfl, _⟩ := rowsOf_rel HC S hx hr
      cases h
      simp only [Builtin.len_, List.getElem?_toArray, List.getElem?_cons_zero, Sem.run_bind, run_underlying hu, Result.andThen_ok]
      rfl
    · cases h
  · cases h

theorem opt_rel (HT : TOk P C T) (S : SRel C Mut Lent w0 ρ env objs a.tmps w) {x : Option Operand} {b : Option Int}
    (h : (match x with | none => some none | some l => (match opnd T env 0 l with | .lit (.int _ n) => some (some n) | _ => none) : Option (Option Int)) = some b) : BRel b (x.map a.eval) := by
  cases x with
  | none => cases h; exact .none
  | some y =>
    simp only at h
    split at h
    · rename_i k n he
      cases h
      have := opnd_rel HT S 0 y
      rw [he] at this
      obtain ⟨hu, _⟩ := lit_inv this
      simp only [Option.map_some, hu]
      exact .some k n
    · cases h

theorem run_exec {u : Value} {x : Sem Value} (hx : execOp a.eval o = (do pure (.value (← x)))) (h : x.run P w = .ok u w') : (execOp a.eval o).run P w = .ok (.value u) w' := by
  rw [hx]; simp [h]
theorem run_execU {x : Sem Unit} (hx : execOp a.eval o = (do x; pure .skip)) (h : x.run P w = .ok () w') : (execOp a.eval o).run P w = .ok .skip w' := by
  rw [hx]; simp [h]

theorem aop_sound (H : Known P C T Γ) (S : SRel C Mut Lent w0 ρ env objs a.tmps w) {K : AV κ Ty → Objs κ Ty → Option R} {r : R} (h : aop C T Γ o env objs K = some r)
    (hn : ∀ v objs' ρ' u w', K v objs' = some r → SRel C Mut Lent w0 ρ' env objs' a.tmps w' → VRel C w' Mut ρ' objs' v u → next (a.put o.dst u) w') : o.wp P a w next Q := by
  unfold aop at h
  split at h
  · rename_i x ho -- move
    exact wp_value (by simp only [execOp, ho]; rfl) (hn _ _ ρ _ w h S (opnd_rel H.ty S _ x))
  · rename_i x ho -- assign
    exact wp_value (by simp only [execOp, ho]; rfl) (hn _ _ ρ _ w h S (opnd_rel H.ty S _ x))
  · rename_i c x y ho -- pick
    split at h
    · rename_i t hc
      have h := ifB_some h
      have hcu := opnd_rel H.ty S 0 c
      rw [hc] at hcu
      obtain ⟨hcu, _⟩ := lit_inv hcu
      refine wp_value (u := if t = true then a.eval x else a.eval y) (w' := w) ?_ (hn _ _ ρ _ w h S ?_)
      · simp only [execOp, ho, hcu, asBool]; rfl
      · cases t
        · exact opnd_rel H.ty S _ y
        · exact opnd_rel H.ty S _ x
    · cases h
  · rename_i t ho -- alloc
    split at h
    · rename_i ti ht
      split at h
      · rename_i n e s hs
        split at h
        · rename_i te hte hle
          split at h
          · rename_i z hz
            obtain ⟨u', w', ρ', g1, g2, g3⟩ := allocArr_sound (P := P) H.ty H.cod S ht hs hte (Nat.le_of_ble_eq_true hle) hz
            exact wp_value (run_exec (by simp only [execOp, ho]) g1) (hn _ _ ρ' _ w' h g2 g3)
          · cases h
        · cases h
      · obtain ⟨u', w', ρ', g1, g2, g3⟩ := allocBox_sound (P := P) H.ty S ht
        exact wp_value (run_exec (by simp only [execOp, ho]) g1) (hn _ _ ρ' _ w' h g2 g3)
    · cases h
  · rename_i t x ho -- box
    split at h
    · rename_i cs hc
      have hx := opnd_rel H.ty S t x
      have hcs := cellsOf_rel hc hx
      refine wp_value (u := .pointer (some (at' w.heap.size 0))) (w' := w.alloc (.cells (a.eval x).cells t)) ?_ (hn _ _ _ _ _ h (S.newBox t hcs) ?_)
      · simp only [execOp, ho]
        simp [Instr.box, newVar, newRow, World.alloc_eq, at']
      · have := VRel.ref (C := C) (w := w.alloc (.cells (a.eval x).cells t)) (Mut := Mut) (ρ := upd ρ objs.length ⟨w.heap.size, 0, 0, noSub⟩) (off := 0) (push_new objs (.box cs))
        rw [upd_same] at this
        exact this
    · cases h
  · rename_i t ps ho -- build
    split at h
    · rename_i ti ht
      split at h
      · rename_i fs hs
        split at h
        · rename_i cs hf
          obtain ⟨us, g1, g2⟩ := build_sound (P := P) H.ty ht hs (partsOf_rel H.ty S _ ps.toList) hf
          refine wp_value (run_exec (x := Instr.build t (ps.map fun (i, x) => (i, a.eval x))) (by simp only [execOp, ho]) ?_) (hn _ _ ρ _ w h S g2.agg)
          rw [← g1]; congr 2
          apply Array.ext'; simp
        · cases h
      · cases h
    · cases h
  · rename_i t n ps ho -- buildSlice
    split at h
    · rename_i ti ht
      split at h
      · rename_i e s hs
        split at h
        · rename_i hb
          simp only [Bool.and_eq_true] at hb
          split at h
          · rename_i hnil
            obtain ⟨hu, ie, i1, i2, i3⟩ := H.ty.slice t ti e s ht hs
            have hn0 : n = 0 := by have := Nat.eq_of_beq_eq_true hb.1; rw [hnil] at this; simpa using this.symm
            subst hn0
            have hps : ps = #[] := by apply Array.ext'; exact hnil
            subst hps
            refine wp_value (run_exec (x := Instr.buildSlice t 0 ((#[] : Array (Nat × Operand)).map fun (i, x) => (i, a.eval x))) (by simp only [execOp, ho]) (u := .slice (some (at' w.heap.size 0)) 0 0) (w' := w.alloc (.cells #[] e)) ?_) ?_
            · simp only [Instr.buildSlice, Sem.run_bind, run_underlying hu, Result.andThen_ok, runSz i1, i2]
              have e0 : Array.range 0 = #[] := rfl
              simp [Instr.fill, newRow, World.alloc_eq, at', e0]
            · have W : WStep w (w.alloc (.cells #[] e)) (FootB ρ objs) (FootB ρ objs) := ⟨fun b hb _ => heap_alloc_old w _ hb, by simp, fun b h => .inl h⟩
              exact hn _ _ ρ _ _ h (S.step W (Nat.le_refl _) (fun id => .refl id) (fun id => ORel.step W (Nat.le_refl _) (fun id => .refl id) (S.ob id) rfl rfl (fun b hb => heap_alloc_old w _ (S.flt hb))) (fun i j b hi hj => S.inj i j b hi hj) rfl rfl rfl) .nil
          have hpl : ∀ (ps : List (Nat × Operand)) (ty : Nat → TypeId), (partsOf T env ty ps).length = ps.length := fun ps ty => by
            induction ps with
            | nil => rfl
            | cons p ps ih => obtain ⟨i, x⟩ := p; simp [partsOf, ih]
          split at h
          · split at h
            · rename_i ys hys
              obtain ⟨u', w', g2, g3, g4⟩ := buildSliceK_sound (P := P) H.ty H.el H.cod S ht hs (n := n) (partsOf_rel H.ty S (fun _ => e) ps.toList) (by rw [hpl]; exact Nat.eq_of_beq_eq_true hb.1) (Nat.le_of_ble_eq_true hb.2) hys
              refine wp_value (run_exec (x := Instr.buildSlice t n (ps.map fun (i, x) => (i, a.eval x))) (by simp only [execOp, ho]) ?_) (hn _ _ ρ _ w' h g3 g4)
              rw [← g2]; congr 2
              apply Array.ext'; simp
            · cases h
          obtain ⟨ys, objs1, u', w', ρ', g1, g2, g3, g4⟩ := buildSlice_sound (P := P) H.ty H.el H.cod S ht hs (n := n) (partsOf_rel H.ty S (fun _ => e) ps.toList) (by rw [hpl]; exact Nat.eq_of_beq_eq_true hb.1) (Nat.le_of_ble_eq_true hb.2) h
          refine wp_value (run_exec (x := Instr.buildSlice t n (ps.map fun (i, x) => (i, a.eval x))) (by simp only [execOp, ho]) ?_) (hn _ _ ρ' _ w' g1 g3 g4)
          rw [← g2]; congr 2
          apply Array.ext'; simp
        · cases h
      · cases h
    · cases h
  · rename_i t x ho -- load
    split at h
    · rename_i ti ht
      obtain ⟨v, u', g1, g2, g3⟩ := aload_sound (P := P) H.ty H.cod S ht (opnd_rel H.ty S 0 x) h
      exact wp_value (run_exec (by simp only [execOp, ho]) g2) (hn _ _ ρ _ w g1 S g3)
    · cases h
  · rename_i t x y ho -- store
    split at h
    · rename_i ti ht
      obtain ⟨objs', w', g1, g2, g3⟩ := astore_sound (P := P) H.ty H.cod S ht (opnd_rel H.ty S 0 x) (opnd_rel H.ty S t y) h
      exact wp_skip' (run_execU (by simp only [execOp, ho]) g2) (hn _ _ ρ _ w' g1 g3 .undef)
    · cases h
  · rename_i x ho -- nilCheck
    split at h
    · rename_i ha
      have hx := opnd_rel H.ty S o.type x
      obtain ⟨b, k, hu⟩ := addr_pointer ha hx
      exact wp_value (by simp only [execOp, ho, hu]; rfl) (hn _ _ ρ _ w h S (hu ▸ hx))
    · cases h
  · rename_i op t x y ty ho -- binOp
    split at h
    · rename_i ti ht
      split at h
      · rename_i hag
        split at h
        · rename_i b hb
          obtain ⟨q1, q2⟩ := ebin_sound (P := P) H.ty ht hag x y (opnd_rel H.ty S t x) (opnd_rel H.ty S t y) hb
          split at h
          · exact wp_value (run_exec (x := do eqGuard .eql t x y (a.eval x) (a.eval y); binOp .eql t (a.eval x) (a.eval y)) (by simp only [execOp, ho]) q1) (hn _ _ ρ _ w h S (.lit rfl))
          · exact wp_value (run_exec (x := do eqGuard .neq t x y (a.eval x) (a.eval y); binOp .neq t (a.eval x) (a.eval y)) (by simp only [execOp, ho]) q2) (hn _ _ ρ _ w h S (.lit rfl))
          · cases h
        · cases h
      · obtain ⟨v, u, g1, g2, g3⟩ := vbin_sound (P := P) H.ty ht x y (opnd_rel H.ty S t x) (opnd_rel H.ty S t y) h
        exact wp_value (run_exec (x := do eqGuard op t x y (a.eval x) (a.eval y); binOp op t (a.eval x) (a.eval y)) (by simp only [execOp, ho]) g2) (hn _ _ ρ _ w g1 S g3)
    · cases h
  · rename_i op t x ho -- unOp
    split at h
    · split at h
      · rename_i b hb
        have hx := opnd_rel H.ty S o.type x
        rw [hb] at hx
        obtain ⟨hu, _⟩ := lit_inv hx
        exact wp_value (run_exec (x := Op.unary .not (a.eval x)) (by simp only [execOp, ho]) (by rw [hu]; rfl)) (hn _ _ ρ _ w h S (.lit rfl))
      · cases h
    · cases h
  · rename_i s d x ho -- convert
    split at h
    · rename_i ti td hti htd
      split at h
      · rename_i k k' n hk hx0
        split at h
        · rename_i k2 hk2
          have hx := opnd_rel H.ty S o.type x
          rw [hx0] at hx
          obtain ⟨hu, _⟩ := lit_inv hx
          have u1 := H.ty.int s ti _ hti hk2
          have u2 := H.ty.int d td _ htd hk
          refine wp_value (run_exec (x := convert s d (a.eval x)) (by simp only [execOp, ho]) (u := .int k (k.wrap n)) ?_) (hn _ _ ρ _ w h S (.lit rfl))
          rw [hu]
          simp [convert, run_underlying u1, run_underlying u2, Conv.intToInt]
        · cases h
      · rename_i hk
        split at h
        · rename_i e s' hs
          split at h
          · rename_i te t xs hte hrows
            split at h
            · rename_i k hk2
              split at h
              · split at h
                · rename_i bs hbs
                  have hx := opnd_rel H.ty S o.type x
                  obtain ⟨A, n, c, hu, hrun⟩ := rows_bytes (P := P) H.cod S hx hrows hbs
                  have u1 := (H.ty.slice s ti e s' hti hs).1
                  have u2 := H.ty.int e te _ hte hk2
                  have u3 := H.ty.str d td htd hk
                  refine wp_value (run_exec (x := convert s d (a.eval x)) (by simp only [execOp, ho]) (u := .string (bstr bs)) ?_) (hn _ _ ρ _ w h S (.lit rfl))
                  rw [hu] at hrun ⊢
                  rw [run_convert_bytes_string w s d e A n c u1 u2 u3]
                  exact hrun
                · cases h
              · cases h
            · cases h
          · cases h
        · cases h
      · rename_i e s' b hs hx0
        split at h
        · rename_i te hts hte
          split at h
          · rename_i k hk2
            split at h
            · split at h
              · rename_i ys hys
                have hx := opnd_rel H.ty S o.type x
                rw [hx0] at hx
                obtain ⟨hu, _⟩ := lit_inv hx
                obtain ⟨u', w', ρ', g1, g2, g3⟩ := strBytes_sound (P := P) H.ty H.cod S hti hts htd hs hte hk2 hys
                exact wp_value (run_exec (x := convert s d (a.eval x)) (by simp only [execOp, ho]) (by rw [hu]; exact g1)) (hn _ _ ρ' _ w' h g2 g3)
              · cases h
            · cases h
          · cases h
        · cases h
      · cases h
    · cases h
  · rename_i t n c ho -- makeSlice
    split at h
    · rename_i ti ht
      split at h
      · rename_i e s hs
        split at h
        · rename_i te hte
          split at h
          · rename_i k p k' q hp hq
            replace h := bind_some h
            obtain ⟨m, hm, h⟩ := h
            split at hm
            · rename_i he
              subst he
              split at h
              · rename_i z hz
                split at h
                case h_2 => cases h
                rename_i hall
                have h1 := opnd_rel H.ty S 0 n
                have h2 := opnd_rel H.ty S 0 c
                rw [hp] at h1
                rw [hq] at h2
                obtain ⟨e1, _⟩ := lit_inv h1
                obtain ⟨e2, _⟩ := lit_inv h2
                obtain ⟨u', w', ρ', g1, g2, g3⟩ := makeSlice_sound (P := P) (k := k) (k' := k') H.ty H.el H.cod S ht hs hte hm hz hall
                exact wp_value (run_exec (x := Instr.makeSlice t (a.eval n) (a.eval c)) (by simp only [execOp, ho]) (by rw [e1, e2]; exact g1)) (hn _ _ ρ' _ w' h g2 g3)
              · cases h
            · cases hm
          · cases h
        · cases h
      · cases h
    · cases h
  · rename_i t r' ho -- makeMap
    split at h
    · split at h
      · rename_i ti ht
        split at h
        · rename_i kt et k v hs
          obtain ⟨u', w', ρ', g1, g2, g3⟩ := makeMap_sound (P := P) S t k v
          exact wp_value (run_exec (x := Instr.makeMap t none) (by simp only [execOp, ho]; rfl) g1) (hn _ _ ρ' _ w' h g2 g3)
        · cases h
      · cases h
    · cases h
  · rename_i t m x ok ho -- lookup
    split at h
    · cases h
    · split at h
      · rename_i ti ht
        split at h
        · rename_i kt et k v hs
          split at h
          · rename_i te hte
            split at h
            · rename_i z hz
              rw [hs] at h
              obtain ⟨u', g1, g2, g3⟩ := alookupL_sound (P := P) H.ty H.cod S ht hs hte hz (opnd_rel H.ty S 0 m) (opnd_rel H.ty S kt x) h
              exact wp_value (run_exec (by simp only [execOp, ho]) g2) (hn _ _ ρ _ w g1 S (.lit g3))
            · rename_i s hz
              rw [hs] at h
              obtain ⟨y, objs', ρ', u', g1, g2, g3, g4⟩ := alookupS_sound (P := P) H.ty H.cod S ht hs hte hz (opnd_rel H.ty S 0 m) (opnd_rel H.ty S kt x) h
              exact wp_value (run_exec (by simp only [execOp, ho]) g2) (hn _ _ ρ' _ w g1 g3 g4)
            · cases h
          · cases h
        · cases h
      · cases h
  · rename_i t m x ho -- mapEntry
    split at h
    · rename_i ti ht
      split at h
      · rename_i kt et k v hs
        split at h
        · rename_i te hte
          rw [hs] at h
          obtain ⟨y, objs', ρ', u', w', g1, g2, g3, g4⟩ := amapEntry_sound (P := P) H.ty H.cod S ht hs hte (opnd_rel H.ty S 0 m) (opnd_rel H.ty S kt x) h
          exact wp_value (run_exec (by simp only [execOp, ho]) g2) (hn _ _ ρ' _ w' g1 g3 g4)
        · cases h
      · cases h
    · cases h
  · rename_i t m n x ho -- entryStore
    split at h
    · rename_i ti ht
      obtain ⟨kt, et, k, v, hs⟩ : ∃ kt et k v, ti.shp = .map kt et k v := by
        unfold aentryStore at h
        split at h
        · rename_i hs _; exact ⟨_, _, _, _, by assumption⟩
        · cases h
      obtain ⟨objs', ρ', w', g1, g2, g3⟩ := aentryStore_sound (P := P) H.ty H.cod S ht hs (opnd_rel H.ty S 0 m) (opnd_rel H.ty S 0 n) (opnd_rel H.ty S 0 x) h
      exact wp_skip' (run_execU (by simp only [execOp, ho]) g2) (hn _ _ ρ' _ w' g1 g3 .undef)
    · cases h
  · rename_i t x lo hi mx ho -- slice
    split at h
    · rename_i ti ht
      split at h
      · split at h
        · rename_i l m hl hm
          have b1 := opt_rel H.ty S hl
          have b2 := opt_rel H.ty S hm
          obtain ⟨v, u', g1, g2, g3⟩ := aslice_sound (P := P) H.ty H.cod S ht (opnd_rel H.ty S t x) b1 b2 h
          exact wp_value (run_exec (x := Instr.sliceAt t (a.eval x) (lo.map a.eval) (hi.map a.eval) ((none : Option Operand).map a.eval)) (by simp only [execOp, ho]) g2) (hn _ _ ρ _ w g1 S g3)
        · cases h
      · rename_i m hh
        split at h
        · rename_i k mm k' hv hm hhv
          have b1 := opnd_rel H.ty S 0 m
          have b2 := opnd_rel H.ty S 0 hh
          rw [hm] at b1
          rw [hhv] at b2
          obtain ⟨e1, _⟩ := lit_inv b1
          obtain ⟨e2, _⟩ := lit_inv b2
          obtain ⟨v, u', g1, g2, g3⟩ := aslice3_sound (P := P) (k := k') (k' := k) H.ty H.cod S ht (opnd_rel H.ty S t x) h
          refine wp_value (run_exec (x := Instr.sliceAt t (a.eval x) ((none : Option Operand).map a.eval) ((some hh).map a.eval) ((some m).map a.eval)) (by simp only [execOp, ho]) ?_) (hn _ _ ρ _ w g1 S g3)
          simp only [Option.map_some, Option.map_none, e1, e2]; exact g2
        · cases h
      · cases h
    · cases h
  · rename_i s x f ho -- fieldAddr
    split at h
    · rename_i ti ht
      split at h
      · rename_i fs hs
        split at h
        · rename_i v ha hv
          obtain ⟨fields, hu, hfs, hfi⟩ := H.ty.struct s ti fs ht hs
          have hx := opnd_rel H.ty S 0 x
          obtain ⟨b, k, hp⟩ := addr_pointer ha hx
          rw [hp] at hx
          have hd : ∃ d t, fs[f]? = some (d, t) := by
            unfold afield at hv
            split at hv
            · cases hv
            · rename_i d t hd; exact ⟨d, t, hd⟩
          obtain ⟨d, t, hd⟩ := hd
          have hr := afield_rel hd ha hv hx
          have hfd : ∃ fl, fields[f]? = some fl ∧ fl.offset = d ∧ fl ∈ fields.toList := by
            rw [← hfs] at hd
            simp only [List.getElem?_map, Option.map_eq_some_iff] at hd
            obtain ⟨fl, e1, e2⟩ := hd
            refine ⟨fl, by rw [← Array.getElem?_toList]; exact e1, by simpa using congrArg Prod.fst e2, List.mem_of_getElem? e1⟩
          obtain ⟨fl, f1, f2, f3⟩ := hfd
          obtain ⟨i, i1, i2⟩ := hfi fl f3
          refine wp_value (run_exec (x := Instr.fieldAt s (a.eval x) f) (by simp only [execOp, ho]) (u := .pointer (some (at' b (k + d)))) ?_) (hn _ _ ρ _ w h S hr)
          rw [hp]
          simp only [Instr.fieldAt, Sem.run_bind, run_underlying hu, Result.andThen_ok, f1, Instr.sureAddr, Sem.run_pure, fieldPlace, runSz i1]
          rw [if_neg i2]
          simp [add_at, f2]
        · cases h
      · cases h
    · cases h
  · rename_i s x f ho -- field
    split at h
    · rename_i ti cs ht hc
      split at h
      · rename_i fs hs
        split at h
        · rename_i d t hd
          split at h
          · rename_i tf htf
            split at h
            · rename_i v hv
              obtain ⟨fields, hu, hfs, hfi⟩ := H.ty.struct s ti fs ht hs
              have hx := opnd_rel H.ty S s x
              rw [hc] at hx
              have hfd : ∃ fl, fields[f]? = some fl ∧ fl.offset = d ∧ fl.type = t := by
                rw [← hfs] at hd
                simp only [List.getElem?_map, Option.map_eq_some_iff] at hd
                obtain ⟨fl, e1, e2⟩ := hd
                exact ⟨fl, by rw [← Array.getElem?_toList]; exact e1, by simpa using congrArg Prod.fst e2, by simpa using congrArg Prod.snd e2⟩
              obtain ⟨fl, f1, f2, f3⟩ := hfd
              generalize hux : a.eval x = ux at hx
              cases hx with
              | agg hl hcell hrel =>
                rename_i us
                obtain ⟨u, g1, g2⟩ := part_sound (P := P) H.ty htf (d := d) ⟨hl, hcell, hrel⟩ hv
                refine wp_value (run_exec (x := Instr.field s (a.eval x) f) (by simp only [execOp, ho]) (u := u) ?_) (hn _ _ ρ _ w h S g2)
                rw [hux]
                simp only [Instr.field, Sem.run_bind, run_underlying hu, Result.andThen_ok, f1, asAgg, Sem.run_pure, f2, f3]
                exact g1
            · cases h
          · cases h
        · cases h
      · cases h
    · cases h
  · rename_i t x i ho -- indexAddr
    split at h
    · rename_i ti ht
      obtain ⟨v, u', g1, g2, g3⟩ := aindexAddr_sound (P := P) H.ty H.cod S ht (opnd_rel H.ty S t x) (opnd_rel H.ty S 0 i) h
      exact wp_value (run_exec (by simp only [execOp, ho]) g2) (hn _ _ ρ _ w g1 S g3)
    · cases h
  · rename_i t x i ho -- index
    split at h
    · rename_i ti ht
      split at h
      · rename_i hs
        split at h
        · rename_i s k n hx0 hi0
          obtain ⟨c, hc, h⟩ := bind_some h
          have h1 := opnd_rel H.ty S t x
          have h2 := opnd_rel H.ty S 0 i
          rw [hx0] at h1
          rw [hi0] at h2
          obtain ⟨e1, _⟩ := lit_inv h1
          obtain ⟨e2, _⟩ := lit_inv h2
          have hu := H.ty.str t ti ht hs
          unfold bidx at hc
          split at hc
          · cases hc
          · rename_i hneg
            refine wp_value (run_exec (x := Instr.index t (a.eval x) (a.eval i)) (by simp only [execOp, ho]) (u := .int .u8 c.toNat) ?_) (hn _ _ ρ _ w h S (.lit rfl))
            rw [e1, e2]
            simp only [Instr.index, asIntOf, Sem.run_bind, Sem.run_pure, Result.andThen_ok, run_underlying hu]
            rw [if_pos (by omega), hc]
            rfl
        · cases h
      · cases h
    · cases h
  · rename_i t i ho -- extract
    split at h
    · rename_i vs hv
      split at h
      · rename_i v hi
        have hx := opnd_rel H.ty S 0 t
        rw [hv] at hx
        generalize hux : a.eval t = ux at hx
        cases hx with
        | tup hl hrel =>
          rename_i us
          have hlt := (List.getElem?_eq_some_iff.mp hi).1
          have hu : us[i]? = some (us[i]'(by omega)) := List.getElem?_eq_getElem _
          refine wp_value (run_exec (x := Instr.extract (a.eval t) i) (by simp only [execOp, ho]) (u := us[i]'(by omega)) ?_) (hn _ _ ρ _ w h S (hrel i v _ hi hu))
          rw [hux]
          simp [Instr.extract, hu]
      · cases h
    · cases h
  · rename_i c ho -- call
    split at h
    · rename_i b hb
      split at h
      · -- len
        split at h
        · rename_i x t hx ht0
          split at h
          · rename_i ti ht
            split at h
            · rename_i n hlen
              have hr := opnd_rel H.ty S t x
              refine wp_value (u := .int .i64 n) (w' := w) ?_ (hn _ _ ρ _ w h S (.lit rfl))
              have ha : c.args = #[x] := by apply Array.ext'; exact hx
              have hat : c.argTypes = #[t] := by apply Array.ext'; exact ht0
              have := lenOf_sound (P := P) H.ty H.cod S (ty := o.type) ht hr hlen
              simp only [execOp, ho, resolve, hb, invoke, builtin, ha, hat, Sem.run_bind, Sem.run_pure, Result.andThen_ok]
              simp [this]
            · cases h
          · cases h
        · cases h
      · -- append
        split at h
        · rename_i x y t1 t2 hx ht0
          split at h
          · rename_i i1 i2 h1 h2
            split at h
            · rename_i e1 s1 e2 s2 hs1 hs2
              obtain ⟨v, objs', u', w', ρ', g1, g2, g3, g4⟩ := aappend_sound (P := P) (ty := o.type) H.ty H.el H.cod S h1 h2 hs1 hs2 (opnd_rel H.ty S t1 x) (opnd_rel H.ty S t2 y) h
              refine wp_value (u := u') (w' := w') ?_ (hn _ _ ρ' _ w' g1 g3 g4)
              have ha : c.args = #[x, y] := by apply Array.ext'; exact hx
              have hat : c.argTypes = #[t1, t2] := by apply Array.ext'; exact ht0
              simp only [execOp, ho, resolve, hb, invoke, builtin, ha, hat, Sem.run_bind, Sem.run_pure, Result.andThen_ok]
              simp [g2]
            · cases h
          · cases h
        · cases h
      · -- copy
        split at h
        · rename_i x y t1 t2 hx ht0
          split at h
          · rename_i i1 h1
            split at h
            · rename_i e1 s1 hs1
              obtain ⟨n, objs', w', g1, g2, g3⟩ := acopy_sound (P := P) (ty := o.type) (t2 := t2) H.ty H.cod S h1 hs1 (opnd_rel H.ty S t1 x) (opnd_rel H.ty S t2 y) h
              refine wp_value (u := .int .i64 n) (w' := w') ?_ (hn _ _ ρ _ w' g1 g3 (.lit rfl))
              have ha : c.args = #[x, y] := by apply Array.ext'; exact hx
              have hat : c.argTypes = #[t1, t2] := by apply Array.ext'; exact ht0
              simp only [execOp, ho, resolve, hb, invoke, builtin, ha, hat, Sem.run_bind, Sem.run_pure, Result.andThen_ok]
              simp [g2]
            · cases h
          · cases h
        · cases h
      · cases h
    · rename_i f hf
      split at h
      · rename_i Sm hlen hΓ
        have hS := H.fn f Sm hΓ
        obtain ⟨o1, o2⟩ := opnds_rel H.ty S c.args.toList c.argTypes.toList (Nat.eq_of_beq_eq_true hlen)
        obtain ⟨⟨fn, f1, f2, f3⟩, _⟩ := hS
        have hcall := acall_sound (P := P) H.cod S (H.fn f Sm hΓ) o1 o2 h
        have hex : (execOp a.eval o).run P w = .ok (.enter f (c.args.toList.map a.eval).toArray) w := by
          simp only [execOp, ho, resolve, hf, Act.eval, Deferred.ofValue, invoke, Sem.run_bind, Sem.run_pure, Result.andThen_ok, callFunc, run_program, f1]
          have f3' : fn.body.isNone = false := by cases hb : fn.body <;> simp_all
          have f2' : ¬ (fn.name = "runtime.NumGoroutine") := by simpa using f2
          simp [f2', f3']
          apply Array.ext'; simp
        simp only [Oper.wp, hex, Oper.upon]
        refine hcall.mono ?_
        rintro e w' ⟨v, u, objs', ρ', rfl, g1, g2, g3⟩
        exact hn _ _ ρ' _ w' g1 g2 g3
      · cases h
    · cases h
  · cases h

end
end Km
namespace Km
open Go
set_option linter.unusedVariables false
set_option linter.unusedSimpArgs false

variable {κ : Type} {Ty : κ → Type} {R : Type}
section
variable {P : Program} {C : Cod κ Ty} {T : TypeId → Option (TI κ Ty)} {Γ : FuncId → Option (Summ κ Ty)}
variable {Mut : Nat → Prop} {Lent : Org κ Ty} {w0 w w' : World} {ρ ρ' ρ2 : Nat → Loc} {env : Env κ Ty} {objs objs' objs2 : Objs κ Ty} {a : Act} {tm : Array Value}
variable {next : Act → World → Prop} {Q : Exit → Act → World → Prop} {o : Oper}

theorem look_cons (d : Nat) (v : AV κ Ty) (env : Env κ Ty) (i : Nat) : look ((d, v) :: env) i = if i = d then v else look env i := by
  simp only [look]
  by_cases h : i = d
  · subst h; simp
  · rw [if_neg h]
    have : Nat.beq d i = false := by
      cases hb : Nat.beq d i with
      | false => rfl
      | true => exact absurd (Nat.eq_of_beq_eq_true hb).symm h
    rw [this]

theorem SRel.setEnv (S : SRel C Mut Lent w0 ρ env objs tm w) {env' : Env κ Ty} {tm' : Array Value} (h : ∀ i, look env' i = .undef ∨ ∃ u, tm'[i]? = some u ∧ VRel C w Mut ρ objs (look env' i) u) : SRel C Mut Lent w0 ρ env' objs tm' w :=
  { S with env := h }

theorem SRel.know (S : SRel C Mut Lent w0 ρ env objs tm w) {d : Nat} {v : AV κ Ty} (h : ∃ u, tm[d]? = some u ∧ VRel C w Mut ρ objs v u) : SRel C Mut Lent w0 ρ ((d, v) :: env) objs tm w :=
  S.setEnv fun i => by
    rw [look_cons]
    split
    · rename_i e; subst e; exact .inr h
    · exact S.env i

theorem put_rel (S : SRel C Mut Lent w0 ρ env objs a.tmps w) {v : AV κ Ty} {u : Value} (hr : VRel C w Mut ρ objs v u) (hd : ∀ d, o.dst = some d → d < a.tmps.size) : SRel C Mut Lent w0 ρ (put o env v) objs (a.put o.dst u).tmps w := by
  unfold put
  split
  · rename_i d hdd
    have hlt := hd d hdd
    refine S.setEnv fun i => ?_
    rw [look_cons]
    have ht : (a.put o.dst u).tmps = a.tmps.setIfInBounds d u := by simp [Act.put, hdd]
    rw [ht]
    split
    · rename_i e; subst e
      exact .inr ⟨u, by simp [hlt], hr⟩
    · rename_i e
      rcases S.env i with h | ⟨u', h1, h2⟩
      · exact .inl h
      · exact .inr ⟨u', by rw [Array.getElem?_setIfInBounds_ne (Ne.symm e)]; exact h1, h2⟩
  · rename_i hdd
    simpa [Act.put, hdd] using S

theorem put_size (dst : Option Tmp) (u : Value) : (a.put dst u).tmps.size = a.tmps.size := by cases dst <;> simp [Act.put]
theorem put_defers' (dst : Option Tmp) (u : Value) : (a.put dst u).defers = a.defers := by cases dst <;> rfl

theorem eqB_iff {p q : Bool} : eqB p q = true ↔ p = q := by cases p <;> cases q <;> simp [eqB]

/-- one operation with its guard, as the machine carries it out -/
theorem astep_sound (H : Known P C T Γ) {all : Array Oper} (S : SRel C Mut Lent w0 ρ env objs a.tmps w) (hd : ∀ d, o.dst = some d → d < a.tmps.size) {K : Env κ Ty → Objs κ Ty → Option R} {r : R} (h : astep C T Γ all o env objs K = some r)
    (hn : ∀ env' objs' ρ' a' w', K env' objs' = some r → SRel C Mut Lent w0 ρ' env' objs' a'.tmps w' → a'.tmps.size = a.tmps.size → a'.defers = a.defers → next a' w') :
    if Region.wanted o (yielded all a.tmps) then o.wp P a w next Q else next (a.put o.dst Go.undef) w := by
  unfold astep at h
  split at h
  · rename_i hg
    have hw : Region.wanted o (yielded all a.tmps) = true := by simp [Region.wanted, hg]
    rw [if_pos hw]
    exact aop_sound H S h fun v objs' ρ' u w' hK S' hv => hn _ _ ρ' _ w' hK (put_rel S' hv hd) (put_size _ _) (put_defers' _ _)
  · rename_i j want hg
    split at h
    · cases h
    · rename_i d hdst
      split at h
      · rename_i b hb
        have h := ifB_some h
        have hyd : ∃ u, a.tmps[d]? = some u ∧ u = .bool b := by
          rcases S.env d with e | ⟨u, h1, h2⟩
          · rw [hb] at e; cases e
          · rw [hb] at h2; exact ⟨u, h1, (lit_inv h2).1⟩
        obtain ⟨u, hu1, rfl⟩ := hyd
        have hy : yielded all a.tmps j = some b := by simp [yielded, hdst, hu1]
        have S1 : SRel C Mut Lent w0 ρ ((d, .lit (.bool b)) :: env) objs a.tmps w := S.know ⟨_, hu1, .lit rfl⟩
        split at h
        · rename_i he
          have he := eqB_iff.mp he
          have hw : Region.wanted o (yielded all a.tmps) = true := by simp [Region.wanted, hg, hy, he]
          rw [if_pos hw]
          exact aop_sound H S1 h fun v objs' ρ' u w' hK S' hv => hn _ _ ρ' _ w' hK (put_rel S' hv hd) (put_size _ _) (put_defers' _ _)
        · rename_i he
          have hne : b ≠ want := fun e => by rw [eqB_iff.mpr e] at he; cases he
          have hw : ¬ Region.wanted o (yielded all a.tmps) = true := by simp [Region.wanted, hg, hy, hne]
          rw [if_neg hw]
          exact hn _ _ ρ _ w h (put_rel S1 .void hd) (put_size _ _) (put_defers' _ _)
      · rename_i hb
        have hyd : ∃ u, a.tmps[d]? = some u ∧ u = Go.undef := by
          rcases S.env d with e | ⟨u, h1, h2⟩
          · rw [hb] at e; cases e
          · rw [hb] at h2; cases h2; exact ⟨_, h1, rfl⟩
        obtain ⟨u, hu1, rfl⟩ := hyd
        have hy : yielded all a.tmps j = none := by simp [yielded, hdst, hu1, Go.undef]
        have hw : ¬ Region.wanted o (yielded all a.tmps) = true := by simp [Region.wanted, hg, hy]
        rw [if_neg hw]
        exact hn _ _ ρ _ w h (put_rel S .void hd) (put_size _ _) (put_defers' _ _)
      · cases h

/-- operations in the order of the text -/
theorem aops_sound (H : Known P C T Γ) {all : Array Oper} {nt : Nat} : ∀ (os : List Oper) (i : Nat) (env : Env κ Ty) (objs : Objs κ Ty) (ρ : Nat → Loc) (a : Act) (w : World) {K : Env κ Ty → Objs κ Ty → Option R} {r : R},
    (∀ k, os[k]? = all[i + k]?) → (∀ o ∈ os, ∀ d, o.dst = some d → d < nt) → a.tmps.size = nt → SRel C Mut Lent w0 ρ env objs a.tmps w → aops C T Γ all os env objs K = some r →
    (∀ env' objs' ρ' a' w', K env' objs' = some r → SRel C Mut Lent w0 ρ' env' objs' a'.tmps w' → a'.tmps.size = nt → a'.defers = a.defers → Q .normal a' w') →
    wpOps P all Q (List.range' i os.length) a w
  | [], i, env, objs, ρ, a, w, K, r, hos, hd, hsz, S, h, hn => hn _ _ ρ _ _ h S hsz rfl
  | o :: os, i, env, objs, ρ, a, w, K, r, hos, hd, hsz, S, h, hn => by
    have ho : all[i]? = some o := by have := hos 0; simpa using this.symm
    simp only [List.length_cons, List.range'_succ, wpOps, ho]
    simp only [aops] at h
    have hs := astep_sound (next := wpOps P all Q (List.range' (i + 1) os.length)) (Q := Q) H S (hd := fun d hdd => by rw [hsz]; exact hd o (by simp) d hdd) h (fun env' objs' ρ' a' w' hK S' hz hdf =>
      aops_sound H os (i + 1) env' objs' ρ' a' w' (fun k => by have := hos (k + 1); rw [show i + 1 + k = i + (k + 1) by omega]; simpa using this) (fun o ho => hd o (by simp [ho])) (hz.trans hsz) S' hK
        (fun e2 o2 ρ2 a2 w2 k2 S2 z2 d2 => hn e2 o2 ρ2 a2 w2 k2 S2 z2 (d2.trans hdf)))
    split at hs
    · rename_i hw; rw [if_pos hw]; exact .inl hs
    · rename_i hw; rw [if_neg hw]; exact hs

end
end Km
namespace Km
open Go
set_option linter.unusedVariables false
set_option linter.unusedSimpArgs false

variable {κ : Type} {Ty : κ → Type} {R : Type}
section
variable {P : Program} {C : Cod κ Ty} {T : TypeId → Option (TI κ Ty)} {Γ : FuncId → Option (Summ κ Ty)}
variable {Mut : Nat → Prop} {Lent : Org κ Ty} {w0 w w' : World} {ρ ρ' ρ2 : Nat → Loc} {env : Env κ Ty} {objs objs' objs2 : Objs κ Ty} {tm : Array Value}

/-- a value, and where there is one what it stands for -/
def OR (C : Cod κ Ty) (w : World) (Mut : Nat → Prop) (ρ : Nat → Loc) (objs : Objs κ Ty) (v : AV κ Ty) : Option Value → Prop
  | some u => VRel C w Mut ρ objs v u
  | none => v = .undef
def ORL (C : Cod κ Ty) (w : World) (Mut : Nat → Prop) (ρ : Nat → Loc) (objs : Objs κ Ty) : List (AV κ Ty) → List (Option Value) → Prop
  | [], [] => True
  | v :: vs, u :: us => OR C w Mut ρ objs v u ∧ ORL C w Mut ρ objs vs us
  | _, _ => False

/-- more is known of as much -/
structure More (C : Cod κ Ty) (w : World) (Mut : Nat → Prop) (ρ : Nat → Loc) (objs : Objs κ Ty) (ρ' : Nat → Loc) (objs' : Objs κ Ty) : Prop where
  len : objs.length ≤ objs'.length
  rel : ∀ (v : AV κ Ty) (u : Value), VRel C w Mut ρ objs v u → VRel C w Mut ρ' objs' v u
  same : ∀ i, i < objs.length → objs'[i]? = objs[i]?
theorem More.refl : More C w Mut ρ objs ρ objs := ⟨Nat.le_refl _, fun _ _ h => h, fun _ _ => rfl⟩
theorem More.trans {ρ3 : Nat → Loc} {objs3 : Objs κ Ty} (h : More C w Mut ρ objs ρ' objs') (g : More C w Mut ρ' objs' ρ3 objs3) : More C w Mut ρ objs ρ3 objs3 :=
  ⟨Nat.le_trans h.len g.len, fun v u x => g.rel v u (h.rel v u x), fun i hi => (g.same i (Nat.lt_of_lt_of_le hi h.len)).trans (h.same i hi)⟩
theorem OR.more (h : More C w Mut ρ objs ρ' objs') {v : AV κ Ty} {u : Option Value} (x : OR C w Mut ρ objs v u) : OR C w Mut ρ' objs' v u := by
  cases u with
  | none => exact x
  | some u => exact h.rel v u x
theorem ORL.more (h : More C w Mut ρ objs ρ' objs') : ∀ {vs : List (AV κ Ty)} {us : List (Option Value)}, ORL C w Mut ρ objs vs us → ORL C w Mut ρ' objs' vs us
  | [], [], _ => trivial
  | _ :: _, _ :: _, ⟨a, b⟩ => ⟨a.more h, b.more h⟩

theorem SRel.pushNil (S : SRel C Mut Lent w0 ρ env objs tm w) (t : κ) : ∃ ρ', SRel C Mut Lent w0 ρ' env (objs ++ [.sl t []]) tm w ∧ More C w Mut ρ objs ρ' (objs ++ [.sl t []]) ∧ ∀ A, VRel C w Mut ρ' (objs ++ [.sl t []]) (.own objs.length) (.slice A 0 0) := by
  have nf : ∀ b, ¬ FootAt (upd ρ objs.length ⟨0, 0, 0, noSub⟩) (objs ++ [AObj.sl t []]) objs.length b := fun b hb => by
    unfold FootAt at hb; rw [push_new, upd_same] at hb; exact hb.1 rfl
  have W : WStep w w (FootB ρ objs) (FootB (upd ρ objs.length ⟨0, 0, 0, noSub⟩) (objs ++ [AObj.sl t []])) := ⟨fun _ _ _ => rfl, Nat.le_refl _, fun b ⟨i, hi⟩ => by
    rcases foot_push (fun _ => rfl) hi with ⟨_, h⟩ | ⟨h1, _⟩
    · exact .inl ⟨i, h⟩
    · subst h1; exact absurd hi (nf b)⟩
  refine ⟨upd ρ objs.length ⟨0, 0, 0, noSub⟩, ?_, ⟨by simp, fun v u h => h.step W (by simp) (compat_push _ _), fun i hi => push_old hi⟩, ?_⟩
  · refine S.take (w' := w) (.refl objs) (fun b _ _ => rfl) (Nat.le_refl _) (.inr nf) (fun b _ => rfl) (fun W => ?_) rfl rfl rfl
    unfold ORel; rw [push_new, upd_same]
    exact ⟨Nat.le_refl _, fun h => absurd rfl h, fun i x j cl hx => by simp at hx, fun q hq => by simp at hq⟩
  · intro A
    have := VRel.own (C := C) (w := w) (Mut := Mut) (ρ := upd ρ objs.length ⟨0, 0, 0, noSub⟩) (push_new objs (.sl t [])) (A := A) (fun h => by rw [upd_same] at h; exact absurd rfl h)
    rw [upd_same] at this
    exact this

theorem solid1_sound (S : SRel C Mut Lent w0 ρ env objs tm w) {v : AV κ Ty} {u : Option Value} (h : OR C w Mut ρ objs v u) : ∃ ρ', SRel C Mut Lent w0 ρ' env (solid1 objs v).2 tm w ∧ More C w Mut ρ objs ρ' (solid1 objs v).2 ∧ OR C w Mut ρ' (solid1 objs v).2 (solid1 objs v).1 u := by
  unfold solid1
  split
  · rename_i t
    obtain ⟨ρ', h1, h2, h3⟩ := S.pushNil t
    refine ⟨ρ', h1, h2, ?_⟩
    cases u with
    | none => cases h
    | some u => cases h; exact h3 _
  · exact ⟨ρ, S, .refl, h⟩
theorem solidL_sound : ∀ (vs : List (AV κ Ty)) (us : List (Option Value)) (objs : Objs κ Ty) (ρ : Nat → Loc), SRel C Mut Lent w0 ρ env objs tm w → ORL C w Mut ρ objs vs us →
    ∃ ρ', SRel C Mut Lent w0 ρ' env (solidL objs vs).2 tm w ∧ More C w Mut ρ objs ρ' (solidL objs vs).2 ∧ ORL C w Mut ρ' (solidL objs vs).2 (solidL objs vs).1 us
  | [], [], objs, ρ, S, _ => ⟨ρ, S, .refl, trivial⟩
  | v :: vs, u :: us, objs, ρ, S, ⟨h1, h2⟩ => by
    obtain ⟨ρ1, a1, a2, a3⟩ := solid1_sound S h1
    obtain ⟨ρ2, b1, b2, b3⟩ := solidL_sound vs us _ ρ1 a1 (h2.more a2)
    exact ⟨ρ2, b1, a2.trans b2, ⟨a3.more b2, b3⟩⟩
  | [], _ :: _, _, _, _, h => h.elim
  | _ :: _, [], _, _, _, h => h.elim

theorem orl_of_cells {cs : List (AV κ Ty)} {us : List Value} (hl : us.length = cs.length) (h : ∀ (j : Nat) (cl : AV κ Ty) (u : Value), cs[j]? = some cl → us[j]? = some u → VRel C w Mut ρ objs cl u) : ORL C w Mut ρ objs cs (us.map some) := by
  induction cs generalizing us with
  | nil => cases us with | nil => trivial | cons _ _ => simp at hl
  | cons c cs ih =>
    cases us with
    | nil => simp at hl
    | cons u us => exact ⟨h 0 c u rfl rfl, ih (by simpa using hl) (fun j cl u a b => h (j + 1) cl u (by simpa using a) (by simpa using b))⟩
theorem cells_of_orl {cs : List (AV κ Ty)} {us : List Value} (h : ORL C w Mut ρ objs cs (us.map some)) : us.length = cs.length ∧ ∀ (j : Nat) (cl : AV κ Ty) (u : Value), cs[j]? = some cl → us[j]? = some u → VRel C w Mut ρ objs cl u := by
  induction cs generalizing us with
  | nil => cases us with | nil => exact ⟨rfl, fun j cl u h => by simp at h⟩ | cons _ _ => exact h.elim
  | cons c cs ih =>
    cases us with
    | nil => exact h.elim
    | cons u us =>
      obtain ⟨a, b⟩ := ih h.2
      refine ⟨by simp [a], fun j cl u' h1 h2 => ?_⟩
      cases j with
      | zero => simp at h1 h2; subst h1; subst h2; exact h.1
      | succ j => exact b j cl u' (by simpa using h1) (by simpa using h2)

theorem solid2_sound (S : SRel C Mut Lent w0 ρ env objs tm w) {v : AV κ Ty} {u : Option Value} (h : OR C w Mut ρ objs v u) : ∃ ρ', SRel C Mut Lent w0 ρ' env (solid2 objs v).2 tm w ∧ More C w Mut ρ objs ρ' (solid2 objs v).2 ∧ OR C w Mut ρ' (solid2 objs v).2 (solid2 objs v).1 u := by
  by_cases hv : ∃ cs, v = .agg cs
  · obtain ⟨cs, rfl⟩ := hv
    cases u with
    | none => cases h
    | some u =>
      cases h with
      | agg hl hcell hrel =>
        obtain ⟨ρ1, a1, a2, a3⟩ := solidL_sound cs _ objs ρ S (orl_of_cells hl hrel)
        obtain ⟨b1, b2⟩ := cells_of_orl a3
        exact ⟨ρ1, a1, a2, .agg b1 hcell b2⟩
  · have e : solid2 objs v = solid1 objs v := by cases v <;> first | rfl | exact absurd ⟨_, rfl⟩ hv
    rw [e]; exact solid1_sound S h
theorem solidM_sound : ∀ (vs : List (AV κ Ty)) (us : List (Option Value)) (objs : Objs κ Ty) (ρ : Nat → Loc), SRel C Mut Lent w0 ρ env objs tm w → ORL C w Mut ρ objs vs us →
    ∃ ρ', SRel C Mut Lent w0 ρ' env (solidM objs vs).2 tm w ∧ More C w Mut ρ objs ρ' (solidM objs vs).2 ∧ ORL C w Mut ρ' (solidM objs vs).2 (solidM objs vs).1 us
  | [], [], objs, ρ, S, _ => ⟨ρ, S, .refl, trivial⟩
  | v :: vs, u :: us, objs, ρ, S, ⟨h1, h2⟩ => by
    obtain ⟨ρ1, a1, a2, a3⟩ := solid2_sound S h1
    obtain ⟨ρ2, b1, b2, b3⟩ := solidM_sound vs us _ ρ1 a1 (h2.more a2)
    exact ⟨ρ2, b1, a2.trans b2, ⟨a3.more b2, b3⟩⟩
  | [], _ :: _, _, _, _, h => h.elim
  | _ :: _, [], _, _, _, h => h.elim

/-- a variable's cells, told otherwise -/
theorem SRel.rebox (S : SRel C Mut Lent w0 ρ env objs tm w) {n : Nat} {cs cs' : List (AV κ Ty)} (h : objs[n]? = some (.box cs)) (hl : cs'.length = cs.length)
    (hc : ∀ (j : Nat) (cl : AV κ Ty) (v : Value), cs'[j]? = some cl → w.cell? (at' (ρ n).block ((ρ n).off + j)) = some v → isCell v = true → VRel C w Mut ρ objs cl v) :
    SRel C Mut Lent w0 ρ env (objs.set n (.box cs')) tm w ∧ ∀ (v : AV κ Ty) (u : Value), VRel C w Mut ρ objs v u → VRel C w Mut ρ (objs.set n (.box cs')) v u := by
  have hlt := (List.getElem?_eq_some_iff.mp h).1
  have hset : (objs.set n (AObj.box cs'))[n]? = some (.box cs') := by simp [hlt]
  have hne : ∀ k, k ≠ n → (objs.set n (AObj.box cs'))[k]? = objs[k]? := fun k h => List.getElem?_set_ne (Ne.symm h)
  have hft : ∀ k b, FootAt ρ (objs.set n (AObj.box cs')) k b → FootAt ρ objs k b := fun k b hk => by
    by_cases e : k = n
    · subst e; unfold FootAt at hk ⊢; rw [hset] at hk; rw [h]; exact hk
    · unfold FootAt at hk ⊢; rw [hne k e] at hk; exact hk
  have W : WStep w w (FootB ρ objs) (FootB ρ (objs.set n (AObj.box cs'))) := WStep.same fun b ⟨i, hi⟩ => ⟨i, hft i b hi⟩
  have hcm : ∀ k, Compat ρ objs ρ (objs.set n (AObj.box cs')) k := fun k => by
    by_cases e : k = n
    · subst e; unfold Compat; rw [h]; exact .inl ⟨_, hset, rfl⟩
    · exact Compat.of_eq (fun _ => hne k e) (fun _ => rfl)
  refine ⟨S.step W (by simp) hcm (fun k => ?_) (fun i j b hi hj => S.inj i j b (hft i b hi) (hft j b hj)) rfl rfl rfl, fun v u hv => hv.step W (by simp) hcm⟩
  by_cases e : k = n
  · subst e
    have ho := S.ob k
    unfold ORel at ho ⊢
    rw [h] at ho; rw [hset]
    refine ⟨ho.1, fun j cl hj => ?_⟩
    have hjl : j < cs.length := by have := (List.getElem?_eq_some_iff.mp hj).1; omega
    obtain ⟨v, a1, a2, _, a4⟩ := ho.2 j _ (List.getElem?_eq_getElem hjl)
    exact ⟨v, a1, a2, (hc j cl v hj a1 a2).step W (by simp) hcm, a4⟩
  · exact ORel.step W (by simp) hcm (S.ob k) (hne k e) rfl (fun _ _ => rfl)

theorem solidL_length : ∀ (cs : List (AV κ Ty)) (objs : Objs κ Ty), (solidL objs cs).1.length = cs.length
  | [], _ => rfl
  | c :: cs, objs => by simp [solidL, solidL_length cs]

theorem solidB_sound : ∀ (n : Nat) (objs : Objs κ Ty) (ρ : Nat → Loc), SRel C Mut Lent w0 ρ env objs tm w →
    ∃ ρ', SRel C Mut Lent w0 ρ' env (solidB n objs) tm w ∧ objs.length ≤ (solidB n objs).length ∧ ∀ (v : AV κ Ty) (u : Value), VRel C w Mut ρ objs v u → VRel C w Mut ρ' (solidB n objs) v u
  | 0, objs, ρ, S => ⟨ρ, S, Nat.le_refl _, fun _ _ h => h⟩
  | n + 1, objs, ρ, S => by
    obtain ⟨ρ1, a1, a2, a3⟩ := solidB_sound n objs ρ S
    simp only [solidB]
    split
    · rename_i cs hcs
      have ho := a1.ob n
      simp only [ORel, hcs] at ho
      have hor : ORL C w Mut ρ1 (solidB n objs) cs (((List.range cs.length).map fun j => (w.cell? (at' (ρ1 n).block ((ρ1 n).off + j))).getD Go.undef).map some) := by
        refine orl_of_cells (by simp) (fun j cl u hj hu => ?_)
        obtain ⟨v, b1, _, b3, _⟩ := ho.2 j cl hj
        have hjl := (List.getElem?_eq_some_iff.mp hj).1
        rw [List.getElem?_map, List.getElem?_range hjl] at hu
        simp only [Option.map_some, b1, Option.getD_some, Option.some.injEq] at hu
        rw [← hu]; exact b3
      obtain ⟨ρ2, c1, c2, c3⟩ := solidL_sound cs _ _ ρ1 a1 hor
      obtain ⟨d1, d2⟩ := cells_of_orl c3
      have hn : n < (solidB n objs).length := (List.getElem?_eq_some_iff.mp hcs).1
      have hcs2 : (solidL (solidB n objs) cs).2[n]? = some (.box cs) := by rw [c2.same n hn]; exact hcs
      have hρ : ∀ (u : Value), VRel C w Mut ρ2 (solidL (solidB n objs) cs).2 (.ref n 0) u → VRel C w Mut ρ1 (solidB n objs) (.ref n 0) u → True := fun _ _ _ => trivial
      have hloc : ρ2 n = ρ1 n ∨ True := .inr trivial
      have href := c2.rel _ _ (VRel.ref (C := C) (w := w) (Mut := Mut) (off := 0) hcs)
      have hblk : (ρ2 n).block = (ρ1 n).block ∧ (ρ2 n).off = (ρ1 n).off := by
        generalize hq : Value.pointer (some (at' (ρ1 n).block ((ρ1 n).off + 0))) = q at href
        cases href with
        | ref h => simp [at'] at hq; exact ⟨hq.1.symm, hq.2.symm⟩
        | refd hc hin h => rw [boxOf_of hcs2] at h; cases h
      obtain ⟨e1, e2⟩ := c1.rebox hcs2 (solidL_length cs _) (fun j cl v hj hv hcl => by
        have hjl : j < cs.length := by have := (List.getElem?_eq_some_iff.mp hj).1; rwa [solidL_length] at this
        refine d2 j cl v hj ?_
        rw [List.getElem?_map, List.getElem?_range hjl]
        rw [hblk.1, hblk.2] at hv
        simp [hv])
      exact ⟨ρ2, e1, by have := c2.len; simp; omega, fun v u h => e2 v u (c2.rel v u (a3 v u h))⟩
    · exact ⟨ρ1, a1, a2, a3⟩

end
end Km
namespace Km
open Go
set_option linter.unusedVariables false
set_option linter.unusedSimpArgs false

variable {κ : Type} {Ty : κ → Type} {R : Type}
section
variable {P : Program} {C : Cod κ Ty} {T : TypeId → Option (TI κ Ty)} {Γ : FuncId → Option (Summ κ Ty)}
variable {Mut : Nat → Prop} {Lent : Org κ Ty} {w0 w w' : World} {ρ ρ' ρ2 : Nat → Loc} {env : Env κ Ty} {objs objs' objs2 : Objs κ Ty} {tm : Array Value}

theorem lent_wider' {l : List Nat} (hl : ∀ i ∈ l, i < objs.length) : Wider true Mut ρ objs Mut (lentρ ρ l) (lentO objs l) := by
  intro b k _ h h'
  rcases h' with ⟨j, hj⟩ | ⟨hb, hm⟩
  · obtain ⟨i, _, hi⟩ := lent_foot hl hj
    exact h (.inl ⟨i, hi⟩)
  · exact h (.inr ⟨hb, hm⟩)

theorem SRel.shrink (HC : CodOk C) (S : SRel C Mut Lent w0 ρ env objs tm w) {l : List Nat} (hn : l.Nodup) (hl : ∀ i ∈ l, i < objs.length) (hpre : ∀ i, i < Lent.objs.length → l[i]? = some i) :
    SRel C Mut Lent w0 (lentρ ρ l) [] (lentO objs l) tm w := by
  refine { S with env := fun i => .inl rfl, ob := fun j => ?_, inj := fun i j b hi hj => ?_, live := fun b ⟨j, hj⟩ => ?_, comp := fun i => ?_, len := ?_ }
  · by_cases hj : j < l.length
    · have hi := hl _ (List.getElem_mem hj)
      exact ORel.ren HC (lent_ren ρ objs l) (lent_wider' hl) (posN_at hn (List.getElem?_eq_getElem hj)) (List.getElem?_eq_getElem hi) (fun h => by cases h) (S.ob _)
    · unfold ORel
      have : (lentO objs l)[j]? = none := List.getElem?_eq_none (by simp [lentO]; omega)
      rw [this]; trivial
  · obtain ⟨p, h1, h2⟩ := lent_foot hl hi
    obtain ⟨q, g1, g2⟩ := lent_foot hl hj
    have := S.inj p q b h2 g2
    subst this
    have hk := (List.getElem?_eq_some_iff.mp h1).1
    exact (List.getElem?_inj hk hn).mp (h1.trans g1.symm)
  · obtain ⟨i, _, hi⟩ := lent_foot hl hj
    exact S.live b ⟨i, hi⟩
  · by_cases hi : i < Lent.objs.length
    · have hli := hpre i hi
      have hio := hl i (List.mem_of_getElem? hli)
      have hc := S.comp i
      have hlo : (lentO objs l)[i]? = some (renO (posN l · 0) objs[i]) := by
        simp only [lentO, List.getElem?_map, hli, Option.map_some, List.getElem?_eq_getElem hio]
      have hlρ : lentρ ρ l i = ρ i := by simp [lentρ, List.getD, hli]
      have hobj : objs[i]? = some objs[i] := List.getElem?_eq_getElem hio
      refine hc.trans S.len ?_
      unfold Compat
      rw [hobj]
      cases ho : objs[i] with
      | dead => rw [ho] at hlo; exact (gone_dead hlo)
      | box cs => rw [ho] at hlo; exact .inl ⟨_, hlo, hlρ⟩
      | sl t xs => rw [ho] at hlo; exact .inl ⟨xs, hlo, rfl, hlρ⟩
      | mp k v es hh => rw [ho] at hlo; exact .inl ⟨es, _, hlo, by rw [hlρ]⟩
    · unfold Compat
      rw [List.getElem?_eq_none (by omega)]; trivial
  · rcases Nat.eq_zero_or_pos Lent.objs.length with h0 | h0
    · omega
    · have h1 := hpre (Lent.objs.length - 1) (by omega)
      have := (List.getElem?_eq_some_iff.mp h1).1
      simp [lentO]; omega

theorem addN_pre {m : Nat} {l : List Nat} : ∀ i, i < m → (addN (List.range m) l)[i]? = some i := by
  intro i hi
  obtain ⟨k, hk⟩ := addN_prefix l (List.range m)
  rw [hk, List.getElem?_append_left (by simpa using hi)]
  simp [hi]
theorem reach_pre {acc : List Nat} {m : Nat} (h : ∀ i, i < m → acc[i]? = some i) : ∀ i, i < m → (reach objs acc)[i]? = some i := by
  intro i hi
  unfold reach
  have e1 : ∀ (a l : List Nat), (∀ i, i < m → a[i]? = some i) → ∀ i, i < m → (addN a l)[i]? = some i := fun a l ha i hi => by
    obtain ⟨k, hk⟩ := addN_prefix l a
    have := ha i hi
    have hlt := (List.getElem?_eq_some_iff.mp this).1
    rw [hk, List.getElem?_append_left hlt]; exact this
  exact e1 _ _ (e1 _ _ h) i hi

theorem OR.ids {v : AV κ Ty} {u : Option Value} (h : OR C w Mut ρ objs v u) : ∀ i ∈ idsV v, i < objs.length := by
  cases u with
  | none => cases h; intro i hi; simp [idsV, ids2, ids1] at hi
  | some u => exact idsV_lt h
theorem ORL.map (h : ∀ (v : AV κ Ty) (u : Value), VRel C w Mut ρ objs v u → VRel C w Mut ρ2 objs2 v u) : ∀ {vs : List (AV κ Ty)} {us : List (Option Value)}, ORL C w Mut ρ objs vs us → ORL C w Mut ρ2 objs2 vs us
  | [], [], _ => trivial
  | v :: vs, u :: us, ⟨h1, h2⟩ => by
    refine ⟨?_, h2.map h⟩
    cases u with
    | none => exact h1
    | some u => exact h _ _ h1
theorem ORL.ids : ∀ {vs : List (AV κ Ty)} {us : List (Option Value)}, ORL C w Mut ρ objs vs us → ∀ i ∈ vs.flatMap idsV, i < objs.length
  | [], [], _, i, hi => by simp at hi
  | v :: vs, u :: us, ⟨h1, h2⟩, i, hi => by
    simp only [List.flatMap_cons, List.mem_append] at hi
    exact hi.elim (h1.ids i) (h2.ids i)
theorem ORL.ren (HC : CodOk C) {g : Nat → Option Nat} (G : Ren g ρ objs ρ2 objs2) (hX : Wider true Mut ρ objs Mut ρ2 objs2) : ∀ {vs : List (AV κ Ty)} {us : List (Option Value)}, ORL C w Mut ρ objs vs us → ORL C w Mut ρ2 objs2 (vs.map (renV g)) us
  | [], [], _ => trivial
  | v :: vs, u :: us, ⟨h1, h2⟩ => by
    refine ⟨?_, h2.ren HC G hX⟩
    cases u with
    | none => cases h1; exact rfl
    | some u => exact renV_rel HC G hX (fun h => by cases h) (fun h => by cases h) h1

/-! ### windows that become slices of their own -/
theorem trim1_sound (S : SRel C Mut Lent w0 ρ env objs tm w) {m : Nat} {l : List Nat} {v : AV κ Ty} {u : Option Value} (h : OR C w Mut ρ objs v u) :
    ∃ ρ', SRel C Mut Lent w0 ρ' env (trim1 m l objs v).2 tm w ∧ (∀ (x : AV κ Ty) (q : Value), VRel C w Mut ρ objs x q → VRel C w Mut ρ' (trim1 m l objs v).2 x q) ∧ OR C w Mut ρ' (trim1 m l objs v).2 (trim1 m l objs v).1 u := by
  unfold trim1
  split
  · rename_i id lo hi
    split
    · split
      · rename_i t xs hsl
        have hsl' := slOf_some hsl
        have ho := S.ob id
        simp only [ORel, hsl'] at ho
        obtain ⟨ho1, ho2, ho3, ho4⟩ := ho
        cases u with
        | none => cases h
        | some u =>
          cases h with
          | subd hcl hin h1 => rw [h1] at hsl; cases hsl
          | @sub _ _ _ c _ _ A h1 hlo hhi hc hcap hA =>
            rw [hsl'] at h1; cases h1
            have hlen : (objs.set id AObj.dead).length = objs.length := by simp
            have hw := Weaker.kill objs id
            have hpz : (lo + c) * C.sz t ≤ (ρ id).cap * C.sz t := Nat.mul_le_mul_right _ hcap
            rw [Nat.add_mul] at hpz
            have hS := S.take (w' := w) (objs1 := objs.set id .dead) (o := .sl t (dcut xs lo hi)) (l := ⟨(ρ id).block, (ρ id).off + lo * C.sz t, c, noSub⟩) hw (fun b _ _ => rfl) (Nat.le_refl _) (by
              by_cases hc0 : c = 0
              · refine .inr fun b hb => ?_
                unfold FootAt at hb; rw [push_new, upd_same] at hb; exact hb.1 hc0
              · refine .inl (.inr ⟨⟨id, foot_live hsl' (by omega)⟩, fun i hi' => ?_⟩)
                obtain ⟨g1, g2⟩ := foot_kill hi'
                exact g1 (S.inj _ _ _ g2 (foot_live hsl' (by omega)))) (fun b _ => rfl) (fun W => by
                unfold ORel; rw [push_new, upd_same]
                refine ⟨by rw [dcut_length _ _ _ hhi]; exact hc, fun h => ho2 (by show (ρ id).cap ≠ 0; have : c ≠ 0 := h; omega), fun i x j cl hx hj => ?_, fun q hq => ?_⟩
                · obtain ⟨hx, _⟩ := dcut_some hx
                  obtain ⟨v, a1, a2⟩ := ho3 (lo + i) x j cl hx hj
                  refine ⟨v, ?_, a2.step W (by simp) (compat_weaker_push hw _ _)⟩
                  rw [Nat.add_mul] at a1
                  rw [← a1]
                  show w.cell? (at' (ρ id).block ((ρ id).off + lo * C.sz t + i * C.sz t + j)) = _
                  congr 2; omega
                · have hq : q < c * C.sz t := hq
                  obtain ⟨v, a1, a2, a3⟩ := ho4 (lo * C.sz t + q) (by omega)
                  have e : at' (ρ id).block ((ρ id).off + lo * C.sz t + q) = at' (ρ id).block ((ρ id).off + (lo * C.sz t + q)) := by rw [Nat.add_assoc]
                  refine ⟨v, ?_, a2, ?_⟩
                  · show w.cell? (at' (ρ id).block ((ρ id).off + lo * C.sz t + q)) = _
                    rw [e]; exact a1
                  · show w.frozen? (at' (ρ id).block ((ρ id).off + lo * C.sz t + q)) = _
                    rw [e]; exact a3) rfl rfl rfl
            rw [hlen] at hS
            have hrel : ∀ (x : AV κ Ty) (q : Value), VRel C w Mut ρ objs x q → VRel C w Mut (upd ρ objs.length ⟨(ρ id).block, (ρ id).off + lo * C.sz t, c, noSub⟩) (objs.set id .dead ++ [.sl t (dcut xs lo hi)]) x q := fun x q hx => by
              have W : WStep w w (FootB ρ objs) (FootB (upd ρ objs.length ⟨(ρ id).block, (ρ id).off + lo * C.sz t, c, noSub⟩) (objs.set id .dead ++ [.sl t (dcut xs lo hi)])) := ⟨fun _ _ _ => rfl, Nat.le_refl _, fun b ⟨i, hi'⟩ => by
                have hf := foot_push (objs := objs.set id .dead) (o := .sl t (dcut xs lo hi)) (l := ⟨(ρ id).block, (ρ id).off + lo * C.sz t, c, noSub⟩) (fun _ => rfl) (by rw [hlen]; exact hi')
                rcases hf with ⟨_, h⟩ | ⟨h1, h2⟩
                · exact .inl ⟨i, hw.foot h⟩
                · by_cases hc0 : c = 0
                  · exfalso
                    rw [hlen] at h1; subst h1
                    unfold FootAt at hi'
                    rw [show objs.length = (objs.set id AObj.dead).length from hlen.symm, push_new] at hi'
                    rw [hlen, upd_same] at hi'
                    exact hi'.1 hc0
                  · rw [h2]; exact .inl ⟨id, foot_live hsl' (by omega)⟩⟩
              refine hx.step W (by simp) (fun i => ?_)
              have := compat_weaker_push (ρ := ρ) hw (.sl t (dcut xs lo hi)) ⟨(ρ id).block, (ρ id).off + lo * C.sz t, c, noSub⟩ i
              rw [hlen] at this; exact this
            refine ⟨_, hS, hrel, ?_⟩
            have := VRel.own (C := C) (w := w) (Mut := Mut) (ρ := upd ρ objs.length ⟨(ρ id).block, (ρ id).off + lo * C.sz t, c, noSub⟩) (objs := objs.set id .dead ++ [.sl t (dcut xs lo hi)]) (id := objs.length) (t := t) (xs := dcut xs lo hi) (A := A) (by rw [← hlen]; exact push_new _ _) (fun h => by rw [upd_same] at h ⊢; exact hA h)
            rw [upd_same, dcut_length _ _ _ hhi] at this
            exact this
      · exact ⟨ρ, S, fun _ _ h => h, h⟩
    · exact ⟨ρ, S, fun _ _ h => h, h⟩
  · exact ⟨ρ, S, fun _ _ h => h, h⟩
theorem trimL_sound {m : Nat} {l : List Nat} : ∀ (vs : List (AV κ Ty)) (us : List (Option Value)) (objs : Objs κ Ty) (ρ : Nat → Loc), SRel C Mut Lent w0 ρ env objs tm w → ORL C w Mut ρ objs vs us →
    ∃ ρ', SRel C Mut Lent w0 ρ' env (trimL m l objs vs).2 tm w ∧ (∀ (x : AV κ Ty) (q : Value), VRel C w Mut ρ objs x q → VRel C w Mut ρ' (trimL m l objs vs).2 x q) ∧ ORL C w Mut ρ' (trimL m l objs vs).2 (trimL m l objs vs).1 us
  | [], [], objs, ρ, S, _ => ⟨ρ, S, fun _ _ h => h, trivial⟩
  | v :: vs, u :: us, objs, ρ, S, ⟨h1, h2⟩ => by
    obtain ⟨ρ1, a1, a2, a3⟩ := trim1_sound S (m := m) (l := l) h1
    obtain ⟨ρ2, b1, b2, b3⟩ := trimL_sound vs us _ ρ1 a1 (h2.map a2)
    refine ⟨ρ2, b1, fun x q h => b2 x q (a2 x q h), ⟨?_, b3⟩⟩
    cases u with
    | none => exact a3
    | some u => exact b2 _ _ a3
  | [], _ :: _, _, _, _, h => h.elim
  | _ :: _, [], _, _, _, h => h.elim
theorem trim2_sound (S : SRel C Mut Lent w0 ρ env objs tm w) {m : Nat} {l : List Nat} {v : AV κ Ty} {u : Option Value} (h : OR C w Mut ρ objs v u) :
    ∃ ρ', SRel C Mut Lent w0 ρ' env (trim2 m l objs v).2 tm w ∧ (∀ (x : AV κ Ty) (q : Value), VRel C w Mut ρ objs x q → VRel C w Mut ρ' (trim2 m l objs v).2 x q) ∧ OR C w Mut ρ' (trim2 m l objs v).2 (trim2 m l objs v).1 u := by
  by_cases hv : ∃ cs, v = .agg cs
  · obtain ⟨cs, rfl⟩ := hv
    cases u with
    | none => cases h
    | some u =>
      cases h with
      | agg hl hcell hrel =>
        obtain ⟨ρ1, a1, a2, a3⟩ := trimL_sound (m := m) (l := l) cs _ objs ρ S (orl_of_cells hl hrel)
        obtain ⟨b1, b2⟩ := cells_of_orl a3
        exact ⟨ρ1, a1, a2, .agg b1 hcell b2⟩
  · have e : trim2 m l objs v = trim1 m l objs v := by cases v <;> first | rfl | exact absurd ⟨_, rfl⟩ hv
    rw [e]; exact trim1_sound S h
theorem trimM_sound {m : Nat} {l : List Nat} : ∀ (vs : List (AV κ Ty)) (us : List (Option Value)) (objs : Objs κ Ty) (ρ : Nat → Loc), SRel C Mut Lent w0 ρ env objs tm w → ORL C w Mut ρ objs vs us →
    ∃ ρ', SRel C Mut Lent w0 ρ' env (trimM m l objs vs).2 tm w ∧ (∀ (x : AV κ Ty) (q : Value), VRel C w Mut ρ objs x q → VRel C w Mut ρ' (trimM m l objs vs).2 x q) ∧ ORL C w Mut ρ' (trimM m l objs vs).2 (trimM m l objs vs).1 us
  | [], [], objs, ρ, S, _ => ⟨ρ, S, fun _ _ h => h, trivial⟩
  | v :: vs, u :: us, objs, ρ, S, ⟨h1, h2⟩ => by
    obtain ⟨ρ1, a1, a2, a3⟩ := trim2_sound S (m := m) (l := l) h1
    obtain ⟨ρ2, b1, b2, b3⟩ := trimM_sound vs us _ ρ1 a1 (h2.map a2)
    refine ⟨ρ2, b1, fun x q h => b2 x q (a2 x q h), ⟨?_, b3⟩⟩
    cases u with
    | none => exact a3
    | some u => exact b2 _ _ a3
  | [], _ :: _, _, _, _, h => h.elim
  | _ :: _, [], _, _, _, h => h.elim

theorem prune_sound {l : List Nat} : ∀ (n : Nat) (objs : Objs κ Ty), SRel C Mut Lent w0 ρ env objs tm w → SRel C Mut Lent w0 ρ env (prune l n objs) tm w ∧ ∀ (x : AV κ Ty) (q : Value), VRel C w Mut ρ objs x q → VRel C w Mut ρ (prune l n objs) x q
  | 0, objs, S => ⟨S, fun _ _ h => h⟩
  | n + 1, objs, S => by
    simp only [prune]
    split
    · exact prune_sound n objs S
    · obtain ⟨h1, h2⟩ := prune_sound n _ (S.kill n)
      exact ⟨h1, fun x q h => h2 x q (h.kill n)⟩

/-- 'compact' -/
theorem compact_sound (HC : CodOk C) (S : SRel C Mut Lent w0 ρ env objs tm w) {vs : List (AV κ Ty)} {us : List (Option Value)} (h : ORL C w Mut ρ objs vs us) :
    ∃ ρ', SRel C Mut Lent w0 ρ' [] (compact C Lent.objs.length vs objs).2 tm w ∧ ORL C w Mut ρ' (compact C Lent.objs.length vs objs).2 (compact C Lent.objs.length vs objs).1 us := by
  unfold compact
  obtain ⟨ρs, Ss, hs⟩ := settleB_sound HC objs.length objs ρ S
  generalize settleB C objs.length objs = objsS at Ss hs
  replace h := h.map hs
  replace S := Ss
  clear hs Ss
  generalize objsS = objs at S h
  generalize ρs = ρ at S h
  dsimp only
  have hp := prune_sound (l := reach objs (addN (List.range Lent.objs.length) (vs.flatMap idsV))) objs.length objs S
  generalize prune (reach objs (addN (List.range Lent.objs.length) (vs.flatMap idsV))) objs.length objs = objsP at hp
  replace S := hp.1
  replace h := h.map hp.2
  clear hp
  generalize objsP = objs at S h
  try dsimp only
  obtain ⟨ρ0, z1, z2, z3⟩ := trimM_sound (m := Lent.objs.length) (l := vs.flatMap idsV ++ objs.flatMap idsO) vs us objs ρ S h
  revert z1 z2 z3
  generalize trimM Lent.objs.length (vs.flatMap idsV ++ objs.flatMap idsO) objs vs = q0
  obtain ⟨vs, objs⟩ := q0
  intro S z2 h
  generalize ρ0 = ρ at S z2 h
  dsimp only at S h ⊢
  obtain ⟨ρ1, a1, a2, a3⟩ := solidM_sound vs us objs ρ S h
  obtain ⟨ρ2, b1, b2, b3⟩ := solidB_sound (solidM objs vs).2.length _ ρ1 a1
  have b4 : ORL C w Mut ρ2 (solidB (solidM objs vs).2.length (solidM objs vs).2) (solidM objs vs).1 us := by
    exact a3.map b3
  have hlen : Lent.objs.length ≤ (solidB (solidM objs vs).2.length (solidM objs vs).2).length := b1.len
  have hn0 : (List.range Lent.objs.length).Nodup := List.nodup_range
  have hn := reach_nodup (objs := solidB (solidM objs vs).2.length (solidM objs vs).2) (addN_nodup (l := (solidM objs vs).1.flatMap idsV) hn0)
  have hl := reach_lt b1 (addN_nodup (l := (solidM objs vs).1.flatMap idsV) hn0) (fun i hi => by
    rw [addN_mem hn0] at hi
    rcases hi with hi | hi
    · simp at hi; omega
    · exact b4.ids i hi)
  refine ⟨lentρ ρ2 _, b1.shrink HC hn hl (reach_pre addN_pre), ?_⟩
  exact b4.ren HC (lent_ren ρ2 _ _) (lent_wider' hl)

end
end Km
namespace Km
open Go
set_option linter.unusedVariables false
set_option linter.unusedSimpArgs false

variable {κ : Type} {Ty : κ → Type} {R α : Type}
section
variable {C : Cod κ Ty} {T : TypeId → Option (TI κ Ty)} {Γ : FuncId → Option (Summ κ Ty)} {objs objs' : Objs κ Ty} {env env' : Env κ Ty}

/-! ### what comes behind an operation has no hand in it -/
theorem ifB_nat (b : Bool) (K : Bool → Option α) (F : α → Option R) : ifB b (fun t => (K t).bind F) = (ifB b K).bind F := by cases b <;> rfl
theorem ibin_nat (op : BinOp) (k : IntKind) (a b : Int) (K : Value → Option α) (F : α → Option R) : ibin op k a b (fun v => (K v).bind F) = (ibin op k a b K).bind F := by
  cases op <;> simp [ibin, Option.bind_assoc]
theorem sbin_nat (op : BinOp) (a b : ByteArray) (K : Value → Option α) (F : α → Option R) : sbin op a b (fun v => (K v).bind F) = (sbin op a b K).bind F := by
  cases op <;> simp [sbin, Option.bind_assoc]
theorem vbin_nat (ti : TI κ Ty) (op : BinOp) (x y : AV κ Ty) (K : AV κ Ty → Option α) (F : α → Option R) : vbin ti op x y (fun v => (K v).bind F) = (vbin ti op x y K).bind F := by
  unfold vbin
  split
  · split
    · rw [Option.bind_assoc]
    · rfl
  · split
    · rw [Option.bind_assoc]
    · rfl
  · split
    · split
      · exact ibin_nat _ _ _ _ _ _
      · rfl
    · exact sbin_nat _ _ _ _ _
    · split
      · split <;> rfl
      · rfl
    · rfl
theorem aload_nat (ti : TI κ Ty) (a : AV κ Ty) (K : AV κ Ty → Option α) (F : α → Option R) : aload C objs ti a (fun v => (K v).bind F) = (aload C objs ti a K).bind F := by
  unfold aload
  split
  · split
    · split <;> rfl
    · rfl
  · split
    · rename_i s xs h
      rw [Option.bind_assoc]
      congr 1; funext x
      split <;> rfl
    · rfl
  · split <;> rfl
  · rfl
theorem deepen_nat {b0 : Bool} : ∀ (ns : List (AV κ Ty)) (objs : Objs κ Ty) (K : List (AV κ Ty) → Objs κ Ty → Option α) (F : α → Option R), deepen C b0 objs ns (fun a b => (K a b).bind F) = (deepen C b0 objs ns K).bind F
  | [], objs, K, F => rfl
  | c :: cs, objs, K, F => by
    cases c <;> simp only [deepen] <;> first
      | rfl
      | exact deepen_nat cs _ _ _
      | (split
         · first | exact deepen_nat cs _ _ _ | (split <;> first | exact deepen_nat cs _ _ _ | rfl)
         · rfl)
theorem astore_nat (ti : TI κ Ty) (a x : AV κ Ty) (K : Objs κ Ty → Option α) (F : α → Option R) : astore C objs ti a x (fun v => (K v).bind F) = (astore C objs ti a x K).bind F := by
  unfold astore
  split
  · rfl
  · split
    · rfl
    · split
      · split
        · split <;> rfl
        · rfl
      · split
        · rw [Option.bind_assoc]
          congr 1; funext z
          rw [← deepen_nat]
          congr 1; funext p q
          split
          · split
            · split <;> rfl
            · rfl
          · rfl
        · rfl
      · rfl
theorem aindexAddr_nat (shp : Shp κ) (x i : AV κ Ty) (K : AV κ Ty → Option α) (F : α → Option R) : aindexAddr C objs shp x i (fun v => (K v).bind F) = (aindexAddr C objs shp x i K).bind F := by
  unfold aindexAddr
  split
  · split
    · split
      · split
        · split
          · rw [Option.bind_assoc]
          · rfl
        · rfl
      · split
        · rw [Option.bind_assoc]
        · rfl
      · split
        · split
          · rw [Option.bind_assoc]
          · rfl
        · rfl
      · rfl
    · split
      · split
        · split
          · rw [Option.bind_assoc]
          · rfl
        · rfl
      · rfl
    · rfl
  · rfl
theorem aslice_nat (shp : Shp κ) (x : AV κ Ty) (lo hi : Option Int) (K : AV κ Ty → Option α) (F : α → Option R) : aslice C objs shp x lo hi (fun v => (K v).bind F) = (aslice C objs shp x lo hi K).bind F := by
  unfold aslice
  split
  · split
    · rw [Option.bind_assoc]
    · rfl
  · split
    · split
      · split
        · rw [Option.bind_assoc]
        · rfl
      · rfl
    · split
      · rw [Option.bind_assoc]
      · rfl
    · rw [Option.bind_assoc]
    · rfl
  · split
    · split
      · split
        · rw [Option.bind_assoc]
        · rfl
      · rfl
    · rfl
  · rfl
theorem rowsC_nat (t : κ) : ∀ (ps : List (Nat × AV κ Ty)) (n : Nat) (objs : Objs κ Ty) (K : List (Ty t) → Objs κ Ty → Option α) (F : α → Option R), rowsC C t objs n ps (fun a b => (K a b).bind F) = (rowsC C t objs n ps K).bind F
  | [], n, objs, K, F => rfl
  | (i, v) :: ps, n, objs, K, F => by
    simp only [rowsC]
    split
    · rfl
    · split
      · rfl
      · split
        · rfl
        · rw [← deepen_nat]
          congr 1; funext p q
          split
          · exact rowsC_nat t ps _ _ _ _
          · rfl
theorem aappend_nat (s1 : κ) (x y : AV κ Ty) (K : AV κ Ty → Objs κ Ty → Option α) (F : α → Option R) : aappend C objs s1 x y (fun a b => (K a b).bind F) = (aappend C objs s1 x y K).bind F := by
  unfold aappend
  split
  · rfl
  · rw [Option.bind_assoc]
    congr 1; funext ys
    split
    · rw [Option.bind_assoc]
    · split
      · simp only [Option.bind_assoc]
      · rfl
    · split
      · simp only [Option.bind_assoc]
      · rfl
    · rfl
theorem aslice3_nat (shp : Shp κ) (x : AV κ Ty) (h m : Int) (K : AV κ Ty → Option α) (F : α → Option R) : aslice3 C objs shp x h m (fun v => (K v).bind F) = (aslice3 C objs shp x h m K).bind F := by
  unfold aslice3
  split
  · split
    · split
      · split
        · rw [Option.bind_assoc]
        · rfl
      · rfl
    · rfl
  · rfl
theorem acopy_nat (s : κ) (x y : AV κ Ty) (K : AV κ Ty → Objs κ Ty → Option α) (F : α → Option R) : acopy C objs s x y (fun a b => (K a b).bind F) = (acopy C objs s x y K).bind F := by
  unfold acopy
  split
  · rfl
  · split
    · split
      · split
        · rw [Option.bind_assoc]
        · rfl
      · rfl
    · split
      · split
        · rw [Option.bind_assoc]
        · rfl
      · rfl
    · rfl
theorem acall_nat (S : Summ κ Ty) (bs : List Nat) (args : List (AV κ Ty)) (K : AV κ Ty → Objs κ Ty → Option α) (F : α → Option R) : acall objs S bs args (fun a b => (K a b).bind F) = (acall objs S bs args K).bind F := by
  unfold acall
  dsimp only
  split
  · rfl
  · rw [Option.bind_assoc]

theorem optK_nat {β : Type} (o : Option β) (K0 : Option α) (K1 : β → Option α) (F : α → Option R) : optK o (K0.bind F) (fun a => (K1 a).bind F) = (optK o K0 K1).bind F := by cases o <;> rfl
theorem amap_nat (shp : Shp κ) (m key : AV κ Ty) (K : Nat → (k v : κ) → List (Ty k × Ty v) → Ty k → Option α) (F : α → Option R) : amap C objs shp m key (fun i k v es x => (K i k v es x).bind F) = (amap C objs shp m key K).bind F := by
  unfold amap
  split
  · split
    · split
      · split
        · split <;> rfl
        · rfl
      · rfl
    · rfl
  · rfl
theorem alookupL_nat (shp : Shp κ) (m key : AV κ Ty) (z : Value) (K : AV κ Ty → Option α) (F : α → Option R) : alookupL C objs shp m key z (fun v => (K v).bind F) = (alookupL C objs shp m key z K).bind F := by
  unfold alookupL
  rw [← amap_nat]
  congr 1; funext _ k v es x
  rw [← optK_nat]
  congr 1; funext p
  split <;> rfl
theorem mgot_nat (objs : Objs κ Ty) (id : Nat) (k v : κ) (es : List (Ty k × Ty v)) (p : Nat × Ty v) (K : AV κ Ty → Objs κ Ty → Option α) (F : α → Option R) : mgot C objs id k v es p (fun a b => (K a b).bind F) = (mgot C objs id k v es p K).bind F := by
  unfold mgot
  split <;> rfl
theorem alookupS_nat (shp : Shp κ) (m key : AV κ Ty) (s : κ) (K : AV κ Ty → Objs κ Ty → Option α) (F : α → Option R) : alookupS C objs shp m key s (fun a b => (K a b).bind F) = (alookupS C objs shp m key s K).bind F := by
  unfold alookupS
  dsimp only
  rw [← amap_nat]
  congr 1; funext _ k v es x
  rw [← optK_nat]
  congr 1; funext p
  exact mgot_nat _ _ _ _ _ _ _ _
theorem amapEntry_nat (shp : Shp κ) (m key : AV κ Ty) (te : TI κ Ty) (K : AV κ Ty → Objs κ Ty → Option α) (F : α → Option R) : amapEntry C objs shp m key te (fun a b => (K a b).bind F) = (amapEntry C objs shp m key te K).bind F := by
  unfold amapEntry
  dsimp only
  rw [← amap_nat]
  congr 1; funext _ k v es x
  rw [← optK_nat]
  congr 1
  · split <;> rfl
  · funext p
    exact mgot_nat _ _ _ _ _ _ (fun r objs => K (.tup [r, .lit (.int .i64 (p.1 : Nat))]) objs) _
theorem mputs_nat (objs : Objs κ Ty) (v : κ) (x : AV κ Ty) (K : Ty v → Objs κ Ty → Option α) (F : α → Option R) : mputs C objs v x (fun a b => (K a b).bind F) = (mputs C objs v x K).bind F := by
  unfold mputs
  split
  · split <;> rfl
  · split
    · split <;> rfl
    · rfl
  · rfl
theorem aentryStore_nat (shp : Shp κ) (m n x : AV κ Ty) (K : Objs κ Ty → Option α) (F : α → Option R) : aentryStore C objs shp m n x (fun v => (K v).bind F) = (aentryStore C objs shp m n x K).bind F := by
  unfold aentryStore
  split
  · split
    · split
      · split
        · rw [Option.bind_assoc]
          congr 1; funext e
          exact mputs_nat _ _ _ _ _
        · split
          · rw [Option.bind_assoc]
            congr 1; funext e
            exact mputs_nat _ _ _ _ _
          · rfl
      · rfl
    · rfl
  · rfl

theorem aop_nat (o : Oper) (K : AV κ Ty → Objs κ Ty → Option α) (F : α → Option R) : aop C T Γ o env objs (fun a b => (K a b).bind F) = (aop C T Γ o env objs K).bind F := by
  unfold aop
  split
  · rfl
  · rfl
  · split
    · exact ifB_nat _ _ _
    · rfl
  · split
    · split
      · split
        · split <;> rfl
        · rfl
      · rfl
    · rfl
  · split <;> rfl
  · split
    · split
      · split <;> rfl
      · rfl
    · rfl
  · split
    · split
      · split
        · split
          · rfl
          · split
            · split <;> rfl
            · exact rowsC_nat _ _ _ _ _ _
        · rfl
      · rfl
    · rfl
  · split
    · exact aload_nat _ _ _ _
    · rfl
  · split
    · exact astore_nat _ _ _ _ _
    · rfl
  · split <;> rfl
  · split
    · split
      · split
        · split <;> rfl
        · rfl
      · exact vbin_nat _ _ _ _ _ _
    · rfl
  · split
    · split <;> rfl
    · rfl
  · split
    · split
      · split <;> rfl
      · split
        · split
          · split
            · split
              · split <;> rfl
              · rfl
            · rfl
          · rfl
        · rfl
      · split
        · split
          · split
            · split <;> rfl
            · rfl
          · rfl
        · rfl
      · rfl
    · rfl
  · split
    · split
      · split
        · split
          · rw [Option.bind_assoc]
            congr 1; funext m
            split
            · split <;> rfl
            · rfl
          · rfl
        · rfl
      · rfl
    · rfl
  · split
    · split
      · split <;> rfl
      · rfl
    · rfl
  · split
    · rfl
    · split
      · split
        · split
          · split
            · exact alookupL_nat _ _ _ _ _ _
            · exact alookupS_nat _ _ _ _ _ _
            · rfl
          · rfl
        · rfl
      · rfl
  · split
    · split
      · split
        · exact amapEntry_nat _ _ _ _ _ _
        · rfl
      · rfl
    · rfl
  · split
    · exact aentryStore_nat _ _ _ _ _ _
    · rfl
  · split
    · split
      · split
        · exact aslice_nat _ _ _ _ _ _
        · rfl
      · split
        · exact aslice3_nat _ _ _ _ _ _
        · rfl
      · rfl
    · rfl
  · split
    · split
      · split <;> rfl
      · rfl
    · rfl
  · split
    · split
      · split
        · split
          · split <;> rfl
          · rfl
        · rfl
      · rfl
    · rfl
  · split
    · exact aindexAddr_nat _ _ _ _ _
    · rfl
  · split
    · split
      · split
        · rw [Option.bind_assoc]
        · rfl
      · rfl
    · rfl
  · split
    · split <;> rfl
    · rfl
  · split
    · split
      · split
        · split
          · split <;> rfl
          · rfl
        · rfl
      · split
        · split
          · split
            · exact aappend_nat _ _ _ _ _
            · rfl
          · rfl
        · rfl
      · split
        · split
          · split
            · exact acopy_nat _ _ _ _ _
            · rfl
          · rfl
        · rfl
      · rfl
    · split
      · exact acall_nat _ _ _ _ _
      · rfl
    · rfl
  · rfl

/-- what an operation gives -/
abbrev aval (C : Cod κ Ty) (T : TypeId → Option (TI κ Ty)) (Γ : FuncId → Option (Summ κ Ty)) (o : Oper) (env : Env κ Ty) (objs : Objs κ Ty) : Option (AV κ Ty × Objs κ Ty) := aop C T Γ o env objs fun a b => some (a, b)
theorem aop_bind (o : Oper) (K : AV κ Ty → Objs κ Ty → Option R) : aop C T Γ o env objs K = (aval C T Γ o env objs).bind fun p => K p.1 p.2 := aop_nat o (fun a b => some (a, b)) fun (p : AV κ Ty × Objs κ Ty) => K p.1 p.2
theorem aop_det {o : Oper} {K : AV κ Ty → Objs κ Ty → Option R} {r : R} (h : aop C T Γ o env objs K = some r) : ∃ v objs1, aval C T Γ o env objs = some (v, objs1) ∧ K v objs1 = some r := by
  rw [aop_bind] at h
  cases hv : aval C T Γ o env objs with
  | none => rw [hv] at h; cases h
  | some p => rw [hv] at h; exact ⟨p.1, p.2, rfl, h⟩

/-! ### and it looks at nothing but its operands -/
def Agree (xs : List Operand) (env env' : Env κ Ty) : Prop := ∀ t, .tmp t ∈ xs → look env' t = look env t
theorem opnd_agree {xs : List Operand} (h : Agree xs env env') (ty : TypeId) {x : Operand} (hx : x ∈ xs) : opnd T env' ty x = opnd T env ty x := by
  cases x with
  | tmp t => exact h t hx
  | _ => rfl
theorem partsOf_agree {xs : List Operand} (h : Agree xs env env') (ty : Nat → TypeId) : ∀ (ps : List (Nat × Operand)), (∀ p ∈ ps, p.2 ∈ xs) → partsOf T env' ty ps = partsOf T env ty ps
  | [], _ => rfl
  | (i, x) :: ps, hp => by simp only [partsOf]; rw [opnd_agree h _ (hp (i, x) (by simp)), partsOf_agree h ty ps (fun p m => hp p (by simp [m]))]
theorem opnds_agree {xs : List Operand} (h : Agree xs env env') : ∀ (as : List Operand) (ts : List TypeId), (∀ a ∈ as, a ∈ xs) → opnds T env' as ts = opnds T env as ts
  | [], ts, _ => by simp [opnds]
  | a :: as, [], _ => by simp [opnds]
  | a :: as, t :: ts, hp => by simp only [opnds]; rw [opnd_agree h _ (hp a (by simp)), opnds_agree h as ts (fun p m => hp p (by simp [m]))]

theorem aop_agree {o : Oper} (h : Agree o.op.operands.toList env env') (K : AV κ Ty → Objs κ Ty → Option R) : aop C T Γ o env' objs K = aop C T Γ o env objs K ∧ footOf T Γ o env' objs = footOf T Γ o env objs := by
  have E : ∀ ty x, x ∈ o.op.operands.toList → opnd T env' ty x = opnd T env ty x := fun ty x hx => opnd_agree h ty hx
  obtain ⟨dst, op, type, pos, after, guard⟩ := o
  simp only at E h
  cases op with
  | move x => simp only [aop, footOf, E type x (by simp [Op.operands])] <;> first | exact ⟨rfl, rfl⟩ | trivial
  | assign x => simp only [aop, footOf, E type x (by simp [Op.operands])] <;> first | exact ⟨rfl, rfl⟩ | trivial
  | pick c a b => simp only [aop, footOf, E _ c (by simp [Op.operands]), E _ a (by simp [Op.operands]), E _ b (by simp [Op.operands])] <;> first | exact ⟨rfl, rfl⟩ | trivial
  | alloc t => exact ⟨rfl, rfl⟩
  | box t x => simp only [aop, footOf, E _ x (by simp [Op.operands])] <;> first | exact ⟨rfl, rfl⟩ | trivial
  | build t ps =>
    have := fun ty => partsOf_agree (T := T) h ty ps.toList (fun p hp => by simp only [Op.operands, Array.toList_map, List.mem_map]; exact ⟨p, hp, rfl⟩)
    simp only [aop, footOf, this] <;> first | exact ⟨rfl, rfl⟩ | trivial
  | buildSlice t n ps =>
    have := fun ty => partsOf_agree (T := T) h ty ps.toList (fun p hp => by simp only [Op.operands, Array.toList_map, List.mem_map]; exact ⟨p, hp, rfl⟩)
    simp only [aop, footOf, this]
    exact ⟨trivial, trivial⟩
  | load t x => simp only [aop, footOf, opIds, E _ x (by simp [Op.operands])] <;> first | exact ⟨rfl, rfl⟩ | trivial
  | store t x y => simp only [aop, footOf, opIds, E _ x (by simp [Op.operands]), E _ y (by simp [Op.operands])] <;> first | exact ⟨rfl, rfl⟩ | trivial
  | nilCheck x => simp only [aop, footOf, opIds, E _ x (by simp [Op.operands])] <;> first | exact ⟨rfl, rfl⟩ | trivial
  | binOp op t x y z => simp only [aop, footOf, opIds, E _ x (by simp [Op.operands]), E _ y (by simp [Op.operands])] <;> first | exact ⟨rfl, rfl⟩ | trivial
  | unOp op t x => simp only [aop, footOf, opIds, E _ x (by simp [Op.operands])] <;> first | exact ⟨rfl, rfl⟩ | trivial
  | convert s d x => simp only [aop, footOf, opIds, E _ x (by simp [Op.operands])] <;> first | exact ⟨rfl, rfl⟩ | trivial
  | makeSlice t x y => simp only [aop, footOf, opIds, E _ x (by simp [Op.operands]), E _ y (by simp [Op.operands])] <;> first | exact ⟨rfl, rfl⟩ | trivial
  | makeMap t r => exact ⟨rfl, rfl⟩
  | lookup t m x ok => simp only [aop, footOf, opIds, E _ m (by simp [Op.operands]), E _ x (by simp [Op.operands])] <;> first | exact ⟨rfl, rfl⟩ | trivial
  | mapEntry t m x => simp only [aop, footOf, opIds, E _ m (by simp [Op.operands]), E _ x (by simp [Op.operands])] <;> first | exact ⟨rfl, rfl⟩ | trivial
  | entryStore t m n x => simp only [aop, footOf, opIds, E _ m (by simp [Op.operands]), E _ n (by simp [Op.operands]), E _ x (by simp [Op.operands])] <;> first | exact ⟨rfl, rfl⟩ | trivial
  | slice t x lo hi mx =>
    have e1 := E t x (by simp [Op.operands])
    have e2 : ∀ l, lo = some l → opnd T env' 0 l = opnd T env 0 l := fun l hl => E _ l (by subst hl; simp [Op.operands])
    have e3 : ∀ l, hi = some l → opnd T env' 0 l = opnd T env 0 l := fun l hl => E _ l (by subst hl; simp [Op.operands])
    have e4 : ∀ l, mx = some l → opnd T env' 0 l = opnd T env 0 l := fun l hl => E _ l (by subst hl; simp [Op.operands])
    simp only [aop, footOf, opIds, e1]
    refine ⟨?_, trivial⟩
    cases lo <;> cases hi <;> cases mx <;> simp [e2, e3, e4]
  | fieldAddr s x f => simp only [aop, footOf, opIds, E _ x (by simp [Op.operands])] <;> first | exact ⟨rfl, rfl⟩ | trivial
  | field s x f => simp only [aop, footOf, opIds, E _ x (by simp [Op.operands])] <;> first | exact ⟨rfl, rfl⟩ | trivial
  | indexAddr t x y => simp only [aop, footOf, opIds, E _ x (by simp [Op.operands]), E _ y (by simp [Op.operands])] <;> first | exact ⟨rfl, rfl⟩ | trivial
  | index t x y => simp only [aop, footOf, opIds, E _ x (by simp [Op.operands]), E _ y (by simp [Op.operands])] <;> first | exact ⟨rfl, rfl⟩ | trivial
  | extract x i => simp only [aop, footOf, opIds, E _ x (by simp [Op.operands])] <;> first | exact ⟨rfl, rfl⟩ | trivial
  | call c =>
    have e0 : ∀ a ∈ c.args.toList, a ∈ (Op.call c).operands.toList := fun a ha => by simp only [Op.operands, Call.operands]; simp; exact .inr (by simpa using ha)
    have e1 := opnds_agree (T := T) h c.args.toList c.argTypes.toList e0
    simp only [aop, footOf, e1]
    refine ⟨?_, trivial⟩
    cases hc : c.callee with
    | builtin b =>
      cases b <;> try rfl
      · clear e1
        revert e0
        generalize c.args.toList = A
        generalize c.argTypes.toList = B
        intro e0
        rcases A with _ | ⟨x, _ | ⟨y, _ | ⟨z, A⟩⟩⟩ <;> rcases B with _ | ⟨t1, _ | ⟨t2, _ | ⟨t3, B⟩⟩⟩ <;> try rfl
        dsimp only
        rw [E t1 x (e0 x (by simp)), E t2 y (e0 y (by simp))]
      · clear e1
        revert e0
        generalize c.args.toList = A
        generalize c.argTypes.toList = B
        intro e0
        rcases A with _ | ⟨x, _ | ⟨y, _ | ⟨z, A⟩⟩⟩ <;> rcases B with _ | ⟨t1, _ | ⟨t2, _ | ⟨t3, B⟩⟩⟩ <;> try rfl
        dsimp only
        rw [E t1 x (e0 x (by simp)), E t2 y (e0 y (by simp))]
      · clear e1
        revert e0
        generalize c.args.toList = A
        generalize c.argTypes.toList = B
        intro e0
        rcases A with _ | ⟨x, _ | ⟨y, A⟩⟩ <;> rcases B with _ | ⟨t1, _ | ⟨t2, B⟩⟩ <;> try rfl
        dsimp only
        rw [E t1 x (e0 x (by simp))]
    | value f => cases f <;> rfl
    | invoke r m => rfl
  | _ => exact ⟨rfl, rfl⟩

end
end Km
namespace Km
open Go
set_option linter.unusedVariables false
set_option linter.unusedSimpArgs false

variable {κ : Type} {Ty : κ → Type} {R α : Type}
section
variable {C : Cod κ Ty} {T : TypeId → Option (TI κ Ty)} {Γ : FuncId → Option (Summ κ Ty)} {objs objs' : Objs κ Ty} {env env' : Env κ Ty}

/-- the same objects at these numbers -/
def Like (l : List Nat) (objs objs' : Objs κ Ty) : Prop := ∀ id ∈ l, objs'[id]? = objs[id]?
theorem Like.sub {l m : List Nat} (h : Like l objs objs') (hm : ∀ i ∈ m, i ∈ l) : Like m objs objs' := fun id hi => h id (hm id hi)
theorem slOf_like {id : Nat} (h : objs'[id]? = objs[id]?) : slOf objs' id = slOf objs id := by unfold slOf; rw [h]
theorem boxOf_like {id : Nat} (h : objs'[id]? = objs[id]?) : boxOf objs' id = boxOf objs id := by unfold boxOf; rw [h]
theorem ids_in {v : AV κ Ty} {i : Nat} (h : i ∈ ids1 v) : i ∈ idsV v := by cases v <;> first | exact h | (simp [ids1] at h)

theorem rowsOf_like {v : AV κ Ty} (h : Like (ids1 v) objs objs') : rowsOf objs' v = rowsOf objs v := by
  cases v with
  | own id => simp only [rowsOf]; exact slOf_like (h id (by simp [ids1]))
  | sub id lo hi => simp only [rowsOf]; rw [slOf_like (h id (by simp [ids1]))]
  | _ => rfl
theorem isAddr_like {v : AV κ Ty} (h : Like (idsV v) objs objs') : isAddr objs' v = isAddr objs v := by
  cases v with
  | ref id off => simp only [isAddr]; rw [boxOf_like (h id (by simp [idsV, ids2, ids1]))]
  | eref id i off => simp only [isAddr]; rw [slOf_like (h id (by simp [idsV, ids2, ids1]))]
  | _ => rfl
theorem aload_like {ti : TI κ Ty} {v : AV κ Ty} (h : Like (idsV v) objs objs') (K : AV κ Ty → Option R) : aload C objs' ti v K = aload C objs ti v K := by
  cases v with
  | ref id off => simp only [aload]; rw [boxOf_like (h id (by simp [idsV, ids2, ids1]))]
  | eref id i off => simp only [aload]; rw [slOf_like (h id (by simp [idsV, ids2, ids1]))]
  | _ => rfl
theorem aindexAddr_like {shp : Shp κ} {x i : AV κ Ty} (h : Like (idsV x) objs objs') (K : AV κ Ty → Option R) : aindexAddr C objs' shp x i K = aindexAddr C objs shp x i K := by
  unfold aindexAddr
  split
  · split
    · split
      · rename_i id; rw [slOf_like (h id (by simp [idsV, ids2, ids1]))]
      · rfl
      · rename_i id lo hi; rw [slOf_like (h id (by simp [idsV, ids2, ids1]))]
      · rfl
    · split
      · rename_i id; rw [slOf_like (h id (by simp [idsV, ids2, ids1]))]
      · rfl
    · rfl
  · rfl
theorem aslice_like {shp : Shp κ} {x : AV κ Ty} {lo hi : Option Int} (h : Like (idsV x) objs objs') (K : AV κ Ty → Option R) : aslice C objs' shp x lo hi K = aslice C objs shp x lo hi K := by
  unfold aslice
  split
  · rfl
  · split
    · rename_i id; rw [slOf_like (h id (by simp [idsV, ids2, ids1]))]
    · rfl
    · rfl
    · rfl
  · split
    · rename_i id; rw [slOf_like (h id (by simp [idsV, ids2, ids1]))]
    · rfl
  · rfl
theorem aslice3_like {shp : Shp κ} {x : AV κ Ty} {a b : Int} (h : Like (idsV x) objs objs') (K : AV κ Ty → Option R) : aslice3 C objs' shp x a b K = aslice3 C objs shp x a b K := by
  unfold aslice3
  split
  · split
    · rename_i id; rw [slOf_like (h id (by simp [idsV, ids2, ids1]))]
    · rfl
  · rfl
theorem lenOf_like {shp : Shp κ} {v : AV κ Ty} (h : Like (idsV v) objs objs') : lenOf objs' shp v = lenOf objs shp v := by
  unfold lenOf
  split
  · rfl
  · rw [rowsOf_like (h.sub fun i hi => ids_in hi)]
  · rfl
theorem prep_like {m : Mode} {v : AV κ Ty} (h : Like (ids1 v) objs objs') : prep objs' m v = prep objs m v := by
  cases m <;> simp only [prep]
  rw [rowsOf_like h]
theorem prepA_like {m : Mode} {v : AV κ Ty} (h : Like (idsV v) objs objs') : prepA objs' m v = prepA objs m v := by
  by_cases hv : ∃ cs, v = .agg cs
  · obtain ⟨cs, rfl⟩ := hv
    simp only [prepA, AV.agg.injEq]
    exact List.map_congr_left fun c hc => prep_like (h.sub fun i hi => by simp only [idsV, ids2, List.mem_flatMap]; exact ⟨c, hc, hi⟩)
  · have e : ∀ objs : Objs κ Ty, prepA objs m v = prep objs m v := fun objs => by cases v <;> first | rfl | exact absurd ⟨_, rfl⟩ hv
    rw [e, e]; exact prep_like (h.sub fun i hi => ids_in hi)
theorem prepL_like : ∀ {vs : List (AV κ Ty)} (ms : List Mode), Like (vs.flatMap idsV) objs objs' → prepL objs' vs ms = prepL objs vs ms
  | [], ms, _ => by cases ms <;> rfl
  | v :: vs, m :: ms, h => by
    simp only [prepL]
    rw [prepA_like (h.sub fun i hi => by simp [hi]), prepL_like ms (h.sub fun i hi => by simp only [List.flatMap_cons, List.mem_append]; exact .inr hi)]
  | v :: vs, [], h => by
    simp only [prepL]
    rw [prepA_like (h.sub fun i hi => by simp [hi]), prepL_like [] (h.sub fun i hi => by simp only [List.flatMap_cons, List.mem_append]; exact .inr hi)]

/-! ### what is written -/
/-- nothing changes but at these numbers, and what is new -/
def Keeps (l : List Nat) (objs objs1 : Objs κ Ty) : Prop := objs.length ≤ objs1.length ∧ ∀ id, id ∉ l → id < objs.length → objs1[id]? = objs[id]?
theorem Keeps.refl (l : List Nat) : Keeps l objs objs := ⟨Nat.le_refl _, fun _ _ _ => rfl⟩
theorem Keeps.trans {l m : List Nat} {o1 o2 : Objs κ Ty} (h : Keeps l objs o1) (h' : Keeps m o1 o2) : Keeps (l ++ m) objs o2 :=
  ⟨Nat.le_trans h.1 h'.1, fun id hn hi => by simp at hn; rw [h'.2 id hn.2 (by have := h.1; omega), h.2 id hn.1 hi]⟩
theorem Keeps.sub {l m : List Nat} {o1 : Objs κ Ty} (h : Keeps l objs o1) (hm : ∀ i ∈ l, i ∈ m) : Keeps m objs o1 := ⟨h.1, fun id hn hi => h.2 id (fun h' => hn (hm id h')) hi⟩
theorem Keeps.set {l : List Nat} {id : Nat} (h : id ∈ l) (o : AObj κ Ty) : Keeps l objs (objs.set id o) := ⟨by simp, fun k hk _ => List.getElem?_set_ne (fun e => hk (by rw [← e]; exact h))⟩
theorem Keeps.push {l : List Nat} {o1 : Objs κ Ty} (h : Keeps l objs o1) (os : List (AObj κ Ty)) : Keeps l objs (o1 ++ os) :=
  ⟨by have := h.1; simp; omega, fun id hn hi => by rw [List.getElem?_append_left (by have := h.1; omega)]; exact h.2 id hn hi⟩

theorem deepen_keeps {b0 : Bool} : ∀ {ns : List (AV κ Ty)} {objs : Objs κ Ty} {K : List (AV κ Ty) → Objs κ Ty → Option R} {r : R}, deepen C b0 objs ns K = some r → ∃ ns' o1, K ns' o1 = some r ∧ Keeps (ns.flatMap ids1) objs o1
  | [], objs, K, r, h => ⟨_, _, h, .refl _⟩
  | c :: cs, objs, K, r, h => by
    simp only [deepen] at h
    split at h
    · rename_i id
      split at h
      · split at h
        · obtain ⟨ns', o1, h1, h2⟩ := deepen_keeps h
          exact ⟨_, o1, h1, ((Keeps.set (l := [id]) (by simp) _).trans h2).sub (by simp [ids1])⟩
        · cases h
      · cases h
    · split at h
      · obtain ⟨ns', o1, h1, h2⟩ := deepen_keeps h
        exact ⟨_, o1, h1, h2.sub (by simp [ids1])⟩
      · cases h
    · obtain ⟨ns', o1, h1, h2⟩ := deepen_keeps h
      exact ⟨_, o1, h1, h2.sub (by simp [ids1])⟩
    · obtain ⟨ns', o1, h1, h2⟩ := deepen_keeps h
      exact ⟨_, o1, h1, h2.sub (by simp [ids1])⟩
    · cases h

theorem cellsOf_ids {x : AV κ Ty} {ns : List (AV κ Ty)} (h : cellsOf x = some ns) : ∀ i ∈ ns.flatMap ids1, i ∈ idsV x := by
  cases x <;> simp only [cellsOf, Option.some.injEq, reduceCtorEq] at h <;> subst h <;> intro i hi <;> first | (simp [ids1] at hi; done) | (simpa [idsV, ids2] using hi)

theorem astore_keeps {ti : TI κ Ty} {a x : AV κ Ty} {K : Objs κ Ty → Option R} {r : R} (h : astore C objs ti a x K = some r) : ∃ o1, K o1 = some r ∧ Keeps (idsV a ++ idsV x) objs o1 := by
  unfold astore at h
  split at h
  · cases h
  · rename_i ns hns
    split at h
    · cases h
    · split at h
      · split at h
        · split at h
          · exact ⟨_, h, .set (by simp [idsV, ids2, ids1]) _⟩
          · cases h
        · cases h
      · rename_i id i off
        split at h
        · obtain ⟨z, _, h⟩ := bind_some h
          obtain ⟨ns', o1, h, hk⟩ := deepen_keeps h
          split at h
          · split at h
            · split at h
              · refine ⟨_, h, ?_⟩
                refine (hk.trans (Keeps.set (l := [id]) (by simp) _)).sub ?_
                intro j hj
                simp only [List.mem_append] at hj ⊢
                rcases hj with hj | hj
                · exact .inr (cellsOf_ids hns j hj)
                · exact .inl (by simpa [idsV, ids2, ids1] using hj)
              · cases h
            · cases h
          · cases h
        · cases h
      · cases h

theorem rowsC_keeps {t : κ} : ∀ {ps : List (Nat × AV κ Ty)} {n : Nat} {objs : Objs κ Ty} {K : List (Ty t) → Objs κ Ty → Option R} {r : R}, rowsC C t objs n ps K = some r → ∃ ys o1, K ys o1 = some r ∧ Keeps (ps.flatMap fun p => idsV p.2) objs o1
  | [], n, objs, K, r, h => ⟨_, _, h, .refl _⟩
  | (i, v) :: ps, n, objs, K, r, h => by
    simp only [rowsC] at h
    split at h
    · cases h
    · split at h
      · cases h
      · rename_i ns hns
        split at h
        · cases h
        · obtain ⟨ns', o1, h, hk⟩ := deepen_keeps h
          split at h
          · obtain ⟨ys, o2, h, hk'⟩ := rowsC_keeps h
            refine ⟨_, o2, h, (hk.trans hk').sub fun i hi => ?_⟩
            simp only [List.mem_append, List.flatMap_cons] at hi ⊢
            exact hi.imp (cellsOf_ids hns i) id
          · cases h

theorem aappend_keeps {s1 : κ} {x y : AV κ Ty} {K : AV κ Ty → Objs κ Ty → Option R} {r : R} (h : aappend C objs s1 x y K = some r) : ∃ v o1, K v o1 = some r ∧ Keeps (idsV x) objs o1 := by
  unfold aappend at h
  split at h
  · cases h
  · obtain ⟨ys, _, h⟩ := bind_some h
    split at h
    · obtain ⟨zs, _, h⟩ := bind_some h
      exact ⟨_, _, h, (Keeps.refl _).push _⟩
    · split at h
      · obtain ⟨_, _, h⟩ := bind_some h
        obtain ⟨zs, _, h⟩ := bind_some h
        exact ⟨_, _, h, (Keeps.set (by simp [idsV, ids2, ids1]) _).push _⟩
      · cases h
    · split at h
      · obtain ⟨_, _, h⟩ := bind_some h
        obtain ⟨zs, _, h⟩ := bind_some h
        exact ⟨_, _, h, (Keeps.set (by simp [idsV, ids2, ids1]) _).push _⟩
      · cases h
    · cases h

theorem acopy_keeps {s1 : κ} {x y : AV κ Ty} {K : AV κ Ty → Objs κ Ty → Option R} {r : R} (h : acopy C objs s1 x y K = some r) : ∃ v o1, K v o1 = some r ∧ Keeps (idsV x ++ idsV y) objs o1 := by
  unfold acopy at h
  split at h
  · cases h
  · split at h
    · split at h
      · split at h
        · obtain ⟨_, _, h⟩ := bind_some h
          exact ⟨_, _, h, Keeps.set (by simp [idsV, ids2, ids1]) _⟩
        · cases h
      · cases h
    · split at h
      · split at h
        · obtain ⟨_, _, h⟩ := bind_some h
          exact ⟨_, _, h, Keeps.set (by simp [idsV, ids2, ids1]) _⟩
        · cases h
      · cases h
    · cases h
theorem settle_keeps (id : Nat) (objs : Objs κ Ty) : Keeps (within objs [id]) objs (settle C id objs) := by
  unfold settle
  split
  · rename_i k v es i j hid
    split
    · split
      · exact .refl _
      · split
        · refine ⟨by simp, fun q hq _ => ?_⟩
          simp only [within, List.flatMap_cons, List.flatMap_nil, hid, idsO, List.append_nil, List.mem_append, List.mem_singleton, not_or] at hq
          rw [List.getElem?_set_ne (Ne.symm hq.1), List.getElem?_set_ne (Ne.symm hq.2)]
        · exact .refl _
    · exact .refl _
  · exact .refl _
theorem amap_inv {shp : Shp κ} {m key : AV κ Ty} {K : Nat → (k v : κ) → List (Ty k × Ty v) → Ty k → Option R} {r : R} (h : amap C objs shp m key K = some r) : ∃ id k v es x, m = .mapv id ∧ K id k v es x = some r := by
  unfold amap at h
  split at h
  · split at h
    · split at h
      · split at h
        · split at h
          · exact ⟨_, _, _, _, _, rfl, h⟩
          · cases h
        · cases h
      · cases h
    · cases h
  · cases h
theorem optK_some {α : Type} {o : Option α} {K0 : Option R} {K1 : α → Option R} {r : R} (h : optK o K0 K1 = some r) : K0 = some r ∨ ∃ a, K1 a = some r := by
  cases o with
  | none => exact .inl h
  | some a => exact .inr ⟨a, h⟩
theorem mgot_keeps {id : Nat} {k v : κ} {es : List (Ty k × Ty v)} {p : Nat × Ty v} {K : AV κ Ty → Objs κ Ty → Option R} {r : R} (h : mgot C objs id k v es p K = some r) : ∃ x o1, K x o1 = some r ∧ Keeps [id] objs o1 := by
  unfold mgot at h
  split at h
  · exact ⟨_, _, h, .refl _⟩
  · exact ⟨_, _, h, (Keeps.set (by simp) _).push _⟩
  · cases h
theorem within_self {objs : Objs κ Ty} {l : List Nat} {i : Nat} (h : i ∈ l) : i ∈ within objs l := by simp [within, h]
theorem alookupS_keeps {shp : Shp κ} {m key : AV κ Ty} {s : κ} {K : AV κ Ty → Objs κ Ty → Option R} {r : R} (h : alookupS C objs shp m key s K = some r) : ∃ x o1, K x o1 = some r ∧ Keeps (within objs (idsV m)) objs o1 := by
  unfold alookupS at h
  dsimp only at h
  obtain ⟨id, k, v, es, x, rfl, h⟩ := amap_inv h
  have hs := settle_keeps (C := C) id objs
  rcases optK_some h with h | ⟨p, h⟩
  · exact ⟨_, _, h, hs⟩
  · obtain ⟨y, o1, h1, h2⟩ := mgot_keeps h
    exact ⟨y, o1, h1, (hs.trans h2).sub fun q hq => by
      simp only [List.mem_append, List.mem_singleton] at hq
      rcases hq with hq | rfl
      · exact hq
      · exact within_self (by simp [idsV, ids2, ids1])⟩
theorem amapEntry_keeps {shp : Shp κ} {m key : AV κ Ty} {te : TI κ Ty} {K : AV κ Ty → Objs κ Ty → Option R} {r : R} (h : amapEntry C objs shp m key te K = some r) : ∃ x o1, K x o1 = some r ∧ Keeps (within objs (idsV m)) objs o1 := by
  unfold amapEntry at h
  dsimp only at h
  obtain ⟨id, k, v, es, x, rfl, h⟩ := amap_inv h
  have hs := settle_keeps (C := C) id objs
  have hsub : ∀ q ∈ within objs [id] ++ [id], q ∈ within objs (idsV (AV.mapv (κ := κ) (Ty := Ty) id)) := fun q hq => by
    simp only [List.mem_append, List.mem_singleton] at hq
    rcases hq with hq | rfl
    · exact hq
    · exact within_self (by simp [idsV, ids2, ids1])
  rcases optK_some h with h | ⟨p, h⟩
  · split at h
    · exact ⟨_, _, h, (hs.trans (Keeps.set (l := [id]) (by simp [mapId]) _)).sub hsub⟩
    · cases h
  · obtain ⟨y, o1, h1, h2⟩ := mgot_keeps h
    exact ⟨_, o1, h1, (hs.trans h2).sub hsub⟩
theorem mputs_keeps {v : κ} {x : AV κ Ty} {K : Ty v → Objs κ Ty → Option R} {r : R} (h : mputs C objs v x K = some r) : ∃ y o1, K y o1 = some r ∧ Keeps (idsV x) objs o1 := by
  unfold mputs at h
  split at h
  · split at h
    · exact ⟨_, _, h, .refl _⟩
    · cases h
  · split at h
    · split at h
      · exact ⟨_, _, h, Keeps.set (by simp [idsV, ids2, ids1]) _⟩
      · cases h
    · cases h
  · cases h
theorem aentryStore_keeps {shp : Shp κ} {m n x : AV κ Ty} {K : Objs κ Ty → Option R} {r : R} (h : aentryStore C objs shp m n x K = some r) : ∃ o1, K o1 = some r ∧ Keeps (idsV m ++ idsV x) objs o1 := by
  unfold aentryStore at h
  split at h
  · rename_i id kk q
    split at h
    · split at h
      · have key : ∀ {k' v' : κ} {es : List (Ty k' × Ty v')} , ((idx es q).bind fun e => mputs C objs v' x fun y objs => K (objs.set id (.mp k' v' (es.set q.toNat (e.1, y)) none))) = some r → ∃ o1, K o1 = some r ∧ Keeps (idsV (AV.mapv (κ := κ) (Ty := Ty) id) ++ idsV x) objs o1 := fun h => by
          obtain ⟨e, _, h⟩ := bind_some h
          obtain ⟨y, o1, h1, h2⟩ := mputs_keeps h
          exact ⟨_, h1, (h2.trans (Keeps.set (l := idsV (AV.mapv (κ := κ) (Ty := Ty) id)) (by simp [idsV, ids2, ids1]) _)).sub fun q hq => by
            simp only [List.mem_append] at hq ⊢; exact hq.symm⟩
        split at h
        · exact key h
        · split at h
          · exact key h
          · cases h
      · cases h
    · cases h
  · cases h
theorem alookupL_like {shp : Shp κ} {m key : AV κ Ty} {z : Value} (h : Like (idsV m) objs objs') (K : AV κ Ty → Option R) : alookupL C objs' shp m key z K = alookupL C objs shp m key z K := by
  unfold alookupL amap
  split
  · rename_i id
    rw [h id (by simp [idsV, ids2, ids1])]
  · rfl

theorem acall_keeps {S : Summ κ Ty} {bs : List Nat} {args : List (AV κ Ty)} {K : AV κ Ty → Objs κ Ty → Option R} {r : R} (h : acall objs S bs args K = some r) :
    ∃ v o1, K v o1 = some r ∧ Keeps (reach objs (addN [] (args.flatMap idsV))) objs o1 := by
  unfold acall at h
  dsimp only at h
  split at h
  · cases h
  · obtain ⟨q, _, h⟩ := bind_some h
    refine ⟨_, _, h, Keeps.push ⟨by rw [backO_length]; exact Nat.le_refl _, fun id hn hi => backO_out _ _ _ _ _ hn⟩ _⟩

/-! ### quiet calls -/
theorem ren1_free {g g' : Nat → Option Nat} {v : AV κ Ty} (h : ids1 v = []) : ren1 g v = ren1 g' v := by cases v <;> first | rfl | (simp [ids1] at h)
theorem ren2_free {g g' : Nat → Option Nat} {v : AV κ Ty} (h : ids2 v = []) : ren2 g v = ren2 g' v := by
  by_cases hv : ∃ cs, v = .agg cs
  · obtain ⟨cs, rfl⟩ := hv
    simp only [ren2, AV.agg.injEq]
    exact List.map_congr_left fun c hc => ren1_free (by simp only [ids2, List.flatMap_eq_nil_iff] at h; exact h c hc)
  · have e : ∀ g, ren2 g v = ren1 g v := fun g => by cases v <;> first | rfl | exact absurd ⟨_, rfl⟩ hv
    rw [e, e]; exact ren1_free (by cases v <;> first | exact h | exact absurd ⟨_, rfl⟩ hv)
theorem renV_free {g g' : Nat → Option Nat} {v : AV κ Ty} (h : idsV v = []) : renV g v = renV g' v := by
  by_cases hv : ∃ vs, v = .tup vs
  · obtain ⟨vs, rfl⟩ := hv
    simp only [renV, AV.tup.injEq]
    exact List.map_congr_left fun c hc => ren2_free (by simp only [idsV, List.flatMap_eq_nil_iff] at h; exact h c hc)
  · have e : ∀ g, renV g v = ren2 g v := fun g => by cases v <;> first | rfl | exact absurd ⟨_, rfl⟩ hv
    rw [e, e]; exact ren2_free (by cases v <;> first | exact h | exact absurd ⟨_, rfl⟩ hv)

theorem isNil_iff {α : Type} {l : List α} : isNil l = true ↔ l = [] := by cases l <;> simp [isNil]

/-- a summary that says 'quiet' gives nothing of its own back -/
def QuietOk (Γ : FuncId → Option (Summ κ Ty)) : Prop := ∀ f S, Γ f = some S → S.quiet = true → ∀ r, (S.ret r).2 = [] ∧ idsV (S.ret r).1 = []

theorem acall_quiet {S : Summ κ Ty} {bs : List Nat} {args : List (AV κ Ty)} (hS : ∀ r, (S.ret r).2 = [] ∧ idsV (S.ret r).1 = []) (ha : args.flatMap idsV = []) {v : AV κ Ty} {o1 : Objs κ Ty}
    (h : (acall objs S bs args fun a b => some (a, b)) = some (v, o1)) : o1 = objs ∧ ∀ objs' : Objs κ Ty, (acall objs' S bs args fun a b => some (a, b)) = some (v, objs') := by
  have hl : ∀ objs : Objs κ Ty, reach objs (addN [] (args.flatMap idsV)) = [] := fun objs => by rw [ha]; rfl
  unfold acall at h ⊢
  simp only [hl, List.map_nil, List.length_nil, List.drop_zero] at h ⊢
  split at h
  · cases h
  · obtain ⟨q, hq, h⟩ := bind_some h
    obtain ⟨h1, h2⟩ := hS q
    simp only [h1, List.map_nil, List.append_nil, backO, Option.some.injEq, Prod.mk.injEq] at h
    refine ⟨h.2.symm, fun objs' => ?_⟩
    rename_i hd
    simp only [hd, hq, Option.bind_some, h1, List.map_nil, List.append_nil, backO, Option.some.injEq, Prod.mk.injEq, and_true]
    rw [← h.1]
    exact renV_free h2

theorem opnd_ids (ty ty' : TypeId) (x : Operand) : idsV (opnd T env ty x) = idsV (opnd T env ty' x) := by
  have key : ∀ v : Value, idsV (opnd T env ty (.const v)) = [] := fun v => by
    unfold opnd; dsimp only
    split
    · split
      · split <;> rfl
      · rfl
    · rfl
    · rfl
    · rfl
  have key' : ∀ v : Value, idsV (opnd T env ty' (.const v)) = [] := fun v => by
    unfold opnd; dsimp only
    split
    · split
      · split <;> rfl
      · rfl
    · rfl
    · rfl
    · rfl
  cases x with
  | const v => rw [key, key']
  | _ => rfl
theorem partsOf_ids (f g : Nat → TypeId) : ∀ (ps : List (Nat × Operand)), ((partsOf T env f ps).flatMap fun p => idsV p.2) = (partsOf T env g ps).flatMap fun p => idsV p.2
  | [] => rfl
  | (i, x) :: ps => by simp only [partsOf, List.flatMap_cons, partsOf_ids f g ps, opnd_ids (f i) (g i) x]

end
end Km
