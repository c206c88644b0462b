/- A part of the proof: an abstract machine over the program (sound by its theorems), or definitions printed by it. There is no condition. -/
import Derived.Test.YtpedakafdiejfaaKmOps6
namespace Km
open Go
set_option linter.unusedVariables false
set_option linter.unusedSimpArgs false

variable {κ : Type} {Ty : κ → Type} {R : Type}
section
variable {P : Program} {C : Cod κ Ty} {T : TypeId → Option (TI κ Ty)}
variable {Mut : Nat → Prop} {Lent : Org κ Ty} {w0 w w' : World} {ρ ρ' : Nat → Loc} {env : Env κ Ty} {objs objs' objs1 : Objs κ Ty} {tm : Array Value}

theorem flat_get {α : Type} {l : List α} : ∀ (n q : Nat), q < n * l.length → (List.replicate n l).flatten[q]? = l[q % l.length]?
  | 0, q, h => by simp at h
  | n + 1, q, h => by
    rw [List.replicate_succ, List.flatten_cons]
    have hl : 0 < l.length := by
      rcases Nat.eq_zero_or_pos l.length with e | e
      · rw [e] at h; simp at h
      · exact e
    by_cases hq : q < l.length
    · rw [List.getElem?_append_left hq, Nat.mod_eq_of_lt hq]
    · rw [List.getElem?_append_right (by omega), flat_get n (q - l.length) (by rw [Nat.add_mul] at h; omega), ← Nat.mod_eq_sub_mod (by omega)]

/-- as many elements as one likes, each the zero -/
theorem rows_zero (HC : CodOk C) {s : κ} {z : Ty s} {n : Nat} {zc : List (AV κ Ty)} {us : Nat → Option Value} {vs : List Value} (hdec : C.enc s z = zc) (hc : Cells C w Mut ρ objs zc vs) (hu : ∀ q, q < n * C.sz s → us q = vs[q % C.sz s]?) :
    RowsAt C w Mut ρ objs s (List.replicate n z) n us := by
  have hlen : vs.length = C.sz s := by rw [hc.1, ← hdec, HC.len]
  refine ⟨by simp, fun i x j cl hx hj => ?_, fun q hq => ?_⟩
  · have hi := (List.getElem?_eq_some_iff.mp hx).1
    simp at hi
    have hxz : x = z := by rw [List.getElem?_replicate, if_pos hi] at hx; exact (Option.some.inj hx).symm
    subst hxz
    have hjs : j < C.sz s := by have := (List.getElem?_eq_some_iff.mp hj).1; rwa [HC.len] at this
    rw [hdec] at hj
    have hv : vs[j]? = some (vs[j]'(by omega)) := List.getElem?_eq_getElem _
    refine ⟨_, ?_, hc.2.2 j cl _ hj hv⟩
    rw [hu _ (row_lt hi hjs), Nat.mul_add_mod_of_lt hjs]
    exact hv
  · have hp : 0 < C.sz s := by
      rcases Nat.eq_zero_or_pos (C.sz s) with e | e
      · rw [e] at hq; simp at hq
      · exact e
    have hv : vs[q % C.sz s]? = some (vs[q % C.sz s]'(by rw [hlen]; exact Nat.mod_lt _ hp)) := List.getElem?_eq_getElem _
    exact ⟨_, by rw [hu q hq]; exact hv, hc.2.1 _ _ hv⟩

theorem room_some {b : Nat} {n : Int} {m : Nat} (h : room b n = some m) : 0 ≤ n ∧ n * b ≤ 140737488355328 ∧ m = n.toNat := by
  unfold room at h; split at h
  · cases h; exact ⟨by omega, by omega, rfl⟩
  · cases h

theorem wrap_small {n : Int} (h0 : 0 ≤ n) (h1 : n ≤ 140737488355328) : IntKind.i64.wrap n = n := by
  have e1 : (2 : Int) ^ IntKind.i64.bits = 18446744073709551616 := by decide
  have e2 : (2 : Int) ^ (IntKind.i64.bits - 1) = 9223372036854775808 := by decide
  have e3 : n % 18446744073709551616 = n := by omega
  unfold IntKind.wrap
  simp only [e1, e2, e3]
  rw [if_neg (by simp; omega)]

theorem makeSlice_sound (HT : TOk P C T) (HE : EOk P C T) (HC : CodOk C) (S : SRel C Mut Lent w0 ρ env objs tm w) {t e : TypeId} {ti te : TI κ Ty} {s : κ} (ht : T t = some ti) (hs : ti.shp = .slice e s) (hte : T e = some te) {k k' : IntKind} {n : Int} {m : Nat} {z : Ty s}
    (hr : room (C.by' s) n = some m) (hdec : C.dec s te.zero = some z) :
    ∃ u' w' ρ', (Instr.makeSlice t (.int k n) (.int k' n)).run P w = .ok u' w' ∧ SRel C Mut Lent w0 ρ' env (objs ++ [.sl s (List.replicate m z)]) tm w' ∧ VRel C w' Mut ρ' (objs ++ [.sl s (List.replicate m z)]) (.own objs.length) u' := by
  obtain ⟨ie, zv, b1, b2, b3, b4, b5, b6, b7, b8⟩ := elem_zero HT HE ht hs
  obtain ⟨r1, r2, rfl⟩ := room_some hr
  have hn : n ≤ 140737488355328 := by
    have : n * 1 ≤ n * (C.by' s : Int) := Int.mul_le_mul_of_nonneg_left (by omega) r1
    omega
  have hw := wrap_small r1 hn
  obtain ⟨z', q1, q2⟩ := zero_cells (C := C) (Mut := Mut) (ρ := ρ) (objs := objs) HT hte w
  have hzz : z' = zv := by
    have : (zeroValue e).run P w = .ok zv w := by simp [zeroValue, runTI b2, b5]
    rw [this] at q1; cases q1; rfl
  subst hzz
  have hb48 : ¬ ((ie.bytes : Int) * n > 2 ^ 48) := by
    rw [b4, Int.mul_comm, show (2 : Int) ^ 48 = 281474976710656 by decide]; omega
  refine ⟨.slice (some (at' w.heap.size 0)) n.toNat n.toNat, w.alloc (.cells ((Array.range (n.toNat * C.sz s)).map fun i => z'.cells[i % z'.cells.size]!) e), upd ρ objs.length ⟨w.heap.size, 0, n.toNat⟩, ?_, S.newSl e (rows_zero HC (HC.dec _ _ _ hdec) q2 fun q hq => ?_), ?_⟩
  · simp only [Instr.makeSlice, Sem.run_bind, run_underlying b1, Result.andThen_ok, asInt, asIntOf, Sem.run_pure, runTI b2, hw]
    rw [if_neg (by simp; omega)]
    simp only [Sem.run_bind, run_askRoom, Result.andThen_ok, runSz b2, b3]
    by_cases h0 : n.toNat * C.sz s = 0
    · simp only [h0, if_true, Sem.run_pure, Result.andThen_ok, Sem.run_bind]
      have e0 : Array.range 0 = #[] := rfl
      simp [newRow, World.alloc_eq, at', e0]
    · simp only [h0, if_false, Sem.run_bind, q1, Sem.run_pure, Result.andThen_ok]
      simp [newRow, World.alloc_eq, at']
  · rw [Array.getElem?_map, Array.getElem?_range, if_pos hq]
    have hp : 0 < C.sz s := by
      rcases Nat.eq_zero_or_pos (C.sz s) with e | e
      · rw [e] at hq; simp at hq
      · exact e
    have hm := Nat.mod_lt q hp
    simp [b6, hm]
  · have := VRel.own (C := C) (w := w.alloc (.cells ((Array.range (n.toNat * C.sz s)).map fun i => z'.cells[i % z'.cells.size]!) e)) (Mut := Mut) (ρ := upd ρ objs.length ⟨w.heap.size, 0, n.toNat⟩) (push_new objs (.sl s (List.replicate n.toNat z))) (A := some (at' w.heap.size 0)) (fun _ => by rw [upd_same])
    rw [upd_same, List.length_replicate] at this
    exact this

theorem allocBox_sound (HT : TOk P C T) (S : SRel C Mut Lent w0 ρ env objs tm w) {t : TypeId} {ti : TI κ Ty} (ht : T t = some ti) :
    ∃ u' w' ρ', (Instr.alloc t true (.tuple #[])).run P w = .ok u' w' ∧ SRel C Mut Lent w0 ρ' env (objs ++ [.box ti.zero]) tm w' ∧ VRel C w' Mut ρ' (objs ++ [.box ti.zero]) (.ref objs.length 0) u' := by
  obtain ⟨z, q1, q2⟩ := zero_cells (C := C) (Mut := Mut) (ρ := ρ) (objs := objs) HT ht w
  refine ⟨.pointer (some (at' w.heap.size 0)), w.alloc (.cells z.cells t), _, ?_, S.newBox t q2, ?_⟩
  · simp [Instr.alloc, q1, newVar, newRow, World.alloc_eq, at']
  · have := VRel.ref (C := C) (w := w.alloc (.cells z.cells t)) (Mut := Mut) (ρ := upd ρ objs.length ⟨w.heap.size, 0, 0⟩) (off := 0) (push_new objs (.box ti.zero))
    rw [upd_same] at this
    exact this

theorem allocArr_sound (HT : TOk P C T) (HC : CodOk C) (S : SRel C Mut Lent w0 ρ env objs tm w) {t e : TypeId} {ti te : TI κ Ty} {s : κ} {n : Nat} {z : Ty s} (ht : T t = some ti) (hs : ti.shp = .arr n e s) (hte : T e = some te) (hn : 1 ≤ n) (hdec : C.dec s te.zero = some z) :
    ∃ u' w' ρ', (Instr.alloc t true (.tuple #[])).run P w = .ok u' w' ∧ SRel C Mut Lent w0 ρ' env (objs ++ [.sl s (List.replicate n z)]) tm w' ∧ VRel C w' Mut ρ' (objs ++ [.sl s (List.replicate n z)]) (.eref objs.length 0 0) u' := by
  obtain ⟨zv, q1, q2⟩ := zero_cells (C := C) (Mut := Mut) (ρ := ρ) (objs := objs) HT ht w
  obtain ⟨zo, p1, p2⟩ := zero_cells (C := C) (Mut := Mut) (ρ := ρ) (objs := objs) HT hte w
  obtain ⟨h1, _, te', h2, h3, h4⟩ := HT.arr t ti n e s ht hs
  rw [hte] at h2; cases h2
  have hl : zv.cells.toList.length = n * C.sz s := by rw [q2.1, h4]; simp [h3]
  have hz : ∀ q, q < n * C.sz s → ti.zero[q]? = te.zero[q % C.sz s]? := fun q hq => by rw [h4, flat_get n q (by rw [h3]; exact hq), h3]
  refine ⟨.pointer (some (at' w.heap.size 0)), w.alloc (.cells zv.cells t), _, ?_, S.newSl t (cap := n) ⟨by simp, fun i x j cl hx hj => ?_, fun q hq => ?_⟩, ?_⟩
  · simp [Instr.alloc, q1, newVar, newRow, World.alloc_eq, at']
  · have hi := (List.getElem?_eq_some_iff.mp hx).1
    simp at hi
    have hxz : x = z := by rw [List.getElem?_replicate, if_pos hi] at hx; exact (Option.some.inj hx).symm
    subst hxz
    have hjs : j < C.sz s := by have := (List.getElem?_eq_some_iff.mp hj).1; rwa [HC.len] at this
    rw [HC.dec _ _ _ hdec] at hj
    have hlt := row_lt (n := n) hi hjs
    have hzq := hz _ hlt
    rw [Nat.mul_add_mod_of_lt hjs, hj] at hzq
    have hv : zv.cells.toList[i * C.sz s + j]? = some (zv.cells.toList[i * C.sz s + j]'(by rw [hl]; exact hlt)) := List.getElem?_eq_getElem _
    exact ⟨_, by rw [← Array.getElem?_toList]; exact hv, q2.2.2 _ cl _ hzq hv⟩
  · have hv : zv.cells.toList[q]? = some (zv.cells.toList[q]'(by rw [hl]; exact hq)) := List.getElem?_eq_getElem _
    exact ⟨_, by rw [← Array.getElem?_toList]; exact hv, q2.2.1 _ _ hv⟩
  · have := VRel.eref (C := C) (w := w.alloc (.cells zv.cells t)) (Mut := Mut) (ρ := upd ρ objs.length ⟨w.heap.size, 0, n⟩) (i := 0) (off := 0) (push_new objs (.sl s (List.replicate n z))) (by simp; omega)
    rw [upd_same] at this
    simpa using this

end
end Km
