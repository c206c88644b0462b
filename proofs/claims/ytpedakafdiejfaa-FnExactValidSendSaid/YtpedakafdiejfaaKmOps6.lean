/- A part of the proof: an abstract machine over the program (sound by its theorems), or definitions printed by it. There is no condition. -/
import Derived.Test.YtpedakafdiejfaaKmOps5
namespace Km
open Go
set_option linter.unusedVariables false
set_option linter.unusedSimpArgs false

variable {κ : Type} {Ty : κ → Type} {R : Type}
section
variable {P : Program} {C : Cod κ Ty} {T : TypeId → Option (TI κ Ty)}
variable {Mut : Nat → Prop} {Lent : Org κ Ty} {w0 w w' : World} {ρ ρ' : Nat → Loc} {env : Env κ Ty} {objs objs' objs1 : Objs κ Ty} {tm : Array Value}

theorem Parts.weaker (h : Weaker objs objs') : ∀ {ps : List (Nat × AV κ Ty)} {qs : List (Nat × Value)}, Parts C w Mut ρ objs ps qs → Parts C w Mut ρ objs' ps qs
  | [], [], _ => trivial
  | (i, x) :: ps, (j, u) :: qs, ⟨h1, h2, h3⟩ => ⟨h1, h.rel h2, h3.weaker h⟩

theorem rowsC_sound (HC : CodOk C) {t : κ} : ∀ (ps : List (Nat × AV κ Ty)) (qs : List (Nat × Value)) (us : Array Value) (objs : Objs κ Ty) (K : List (Ty t) → Objs κ Ty → Option R) (r : R) (n : Nat),
    SRel C Mut Lent w0 ρ env objs tm w → Parts C w Mut ρ objs ps qs → us.size = (n + ps.length) * C.sz t → rowsC C t objs n ps K = some r →
    ∃ ys objs' us', K ys objs' = some r ∧ SRel C Mut Lent w0 ρ env objs' tm w ∧ Weaker objs objs' ∧ Instr.fill (fun i => some (i * C.sz t, C.sz t)) us qs = some us' ∧ us'.size = us.size ∧ ys.length = ps.length ∧
      (∀ q, q < n * C.sz t → us'[q]? = us[q]?) ∧
      (∀ (i : Nat) (y : Ty t) (j : Nat) (cl : AV κ Ty), ys[i]? = some y → (C.enc t y)[j]? = some cl → ∃ v, us'[(n + i) * C.sz t + j]? = some v ∧ VRel C w Mut ρ objs' cl v) ∧
      (∀ q, n * C.sz t ≤ q → q < us.size → ∃ v, us'[q]? = some v ∧ isCell v = true)
  | [], [], us, objs, K, r, n, S, _, hsz, h => by
    refine ⟨[], objs, us, h, S, .refl _, rfl, rfl, rfl, fun q _ => rfl, fun i y j cl hx => by simp at hx, fun q h1 h2 => ?_⟩
    simp at hsz; omega
  | (i, x) :: ps, (i', u) :: qs, us, objs, K, r, n, S, hp, hsz, h => by
    obtain ⟨rfl, hx, hrest⟩ := hp
    simp only [rowsC] at h
    split at h
    · cases h
    · rename_i hin
      have hin := Nat.eq_of_beq_eq_true hin
      subst hin
      split at h
      · cases h
      · rename_i ns hns
        split at h
        · cases h
        · rename_i hl
          have hl := Nat.eq_of_beq_eq_true hl
          have hc := cellsOf_rel hns hx
          obtain ⟨ns', objs1, h, S1, hc1, hw1⟩ := deepen_sound HC ns _ objs _ _ S hc h
          split at h
          · rename_i y hdec
            have henc := HC.dec _ _ _ hdec
            have husz : u.cells.size = C.sz t := by have := hc.1; simp at this; omega
            simp only [List.length_cons] at hsz
            have hle : i * C.sz t + C.sz t ≤ us.size := by
              rw [hsz, show i + (ps.length + 1) = (i + 1) + ps.length by omega, Nat.add_mul (i + 1), Nat.add_mul i 1]; omega
            have hf := fold_splice u.cells.toList 0 us (i * C.sz t) (by simp; omega)
            simp only [Nat.add_zero] at hf
            generalize hus1 : u.cells.zipIdx.foldl (fun cs (c, j) => cs.setIfInBounds (i * C.sz t + j) c) us = us1
            have hus1' : us1.toList = splice us.toList (i * C.sz t) u.cells.toList := by
              rw [← hus1, ← Array.foldl_toList, Array.toList_zipIdx]; exact hf
            have hsz1 : us1.size = us.size := by
              have := congrArg List.length hus1'; rw [splice_length] at this; simpa using this
            have hget : ∀ q, us1[q]? = if i * C.sz t ≤ q ∧ q < i * C.sz t + C.sz t then u.cells[q - i * C.sz t]? else us[q]? := fun q => by
              rw [← Array.getElem?_toList, hus1', splice_get _ _ _ _ (by simp; omega)]
              simp [husz]
            obtain ⟨ys, objs', us', g1, g2, g3, g4, g5, g6, g7, g8, g9⟩ := rowsC_sound HC ps qs us1 objs1 _ r (i + 1) S1 (hrest.weaker hw1) (by rw [hsz1, hsz]; congr 1; omega) h
            refine ⟨y :: ys, objs', us', g1, g2, hw1.trans g3, ?_, by omega, by simp [g6], fun q hq => ?_, fun k z j cl hk hj => ?_, fun q hq1 hq2 => ?_⟩
            · simp only [Instr.fill]
              rw [if_neg (by simp [husz]; omega), hus1]; exact g4
            · rw [g7 q (by rw [Nat.add_mul]; omega), hget, if_neg (by omega)]
            · cases k with
              | zero =>
                simp only [List.getElem?_cons_zero, Option.some.injEq] at hk
                subst hk
                have hjs : j < C.sz t := by have := (List.getElem?_eq_some_iff.mp hj).1; rwa [HC.len] at this
                rw [henc] at hj
                have hu : u.cells.toList[j]? = some (u.cells.toList[j]'(by simp; omega)) := List.getElem?_eq_getElem _
                refine ⟨_, ?_, g3.rel (hc1.2.2 j cl _ hj hu)⟩
                rw [Nat.add_zero, g7 _ (by rw [Nat.add_mul]; omega), hget, if_pos (by omega)]
                rw [show i * C.sz t + j - i * C.sz t = j by omega, ← Array.getElem?_toList]; exact hu
              | succ k =>
                obtain ⟨v, a1, a2⟩ := g8 k z j cl (by simpa using hk) hj
                exact ⟨v, by rw [← a1]; congr 1; rw [show i + (k + 1) = i + 1 + k by omega], a2⟩
            · by_cases hq3 : (i + 1) * C.sz t ≤ q
              · exact g9 q hq3 (by omega)
              · rw [Nat.add_mul] at hq3
                have hu : u.cells.toList[q - i * C.sz t]? = some (u.cells.toList[q - i * C.sz t]'(by simp; omega)) := List.getElem?_eq_getElem _
                refine ⟨_, ?_, hc.2.1 _ _ hu⟩
                rw [g7 q (by rw [Nat.add_mul]; omega), hget, if_pos (by omega), ← Array.getElem?_toList]; exact hu
          · cases h
  | [], _ :: _, _, _, _, _, _, _, h, _, _ => h.elim
  | _ :: _, [], _, _, _, _, _, _, h, _, _ => h.elim

/-- a slice literal -/
theorem buildSlice_sound (HT : TOk P C T) (HE : EOk P C T) (HC : CodOk C) (S : SRel C Mut Lent w0 ρ env objs tm w) {t e : TypeId} {ti : TI κ Ty} {s : κ} (ht : T t = some ti) (hs : ti.shp = .slice e s) {n : Nat} {ps : List (Nat × AV κ Ty)} {qs : List (Nat × Value)}
    (hp : Parts C w Mut ρ objs ps qs) (hn : ps.length = n) (hlim : n * C.sz s ≤ 16777216) {K : List (Ty s) → Objs κ Ty → Option R} {r : R} (h : rowsC C s objs 0 ps K = some r) :
    ∃ ys objs1 u' w' ρ', K ys objs1 = some r ∧ (Instr.buildSlice t n qs.toArray).run P w = .ok u' w' ∧ SRel C Mut Lent w0 ρ' env (objs1 ++ [.sl s ys]) tm w' ∧ VRel C w' Mut ρ' (objs1 ++ [.sl s ys]) (.own objs1.length) u' := by
  obtain ⟨ie, z, b1, b2, b3, b4, b5, b6, b7, b8⟩ := elem_zero HT HE ht hs
  have hzv : (zeroValue e).run P w = .ok z w := by simp [zeroValue, runTI b2, b5]
  let us : Array Value := (Array.range (n * C.sz s)).map fun i => (if n * C.sz s = 0 then #[] else z.cells)[i % (if n * C.sz s = 0 then #[] else z.cells).size]!
  obtain ⟨ys, objs1, us', g1, g2, g3, g4, g5, g6, g7, g8, g9⟩ := rowsC_sound HC ps qs us objs K r 0 S hp (by simp [us, hn]) h
  have hus : us.size = n * C.sz s := by simp [us]
  refine ⟨ys, objs1, .slice (some (at' w.heap.size 0)) n n, w.alloc (.cells us' e), upd ρ objs1.length ⟨w.heap.size, 0, n⟩, g1, ?_, g2.newSl e ⟨by omega, fun i x j cl hx hj => ?_, fun q hq => ?_⟩, ?_⟩
  · have h24 : ¬ (n * C.sz s > 2 ^ 24) := by rw [show (2 : Nat) ^ 24 = 16777216 by decide]; omega
    simp only [Instr.buildSlice, Sem.run_bind, run_underlying b1, Result.andThen_ok, runSz b2, b3]
    rw [if_neg h24]
    simp only [Sem.run_bind, Sem.run_pure, Result.andThen_ok, Sem.run_ite, hzv]
    by_cases h0 : n * C.sz s = 0
    · simp only [h0, if_true, Result.andThen_ok, List.toList_toArray]
      have e1 : (Array.range 0).map (fun x => (#[] : Array Value)[x % (#[] : Array Value).size]!) = us := by simp [us, h0]
      rw [e1, g4]
      rfl
    · simp only [h0, if_false, Result.andThen_ok, List.toList_toArray]
      have e1 : (Array.range (n * C.sz s)).map (fun x => z.cells[x % z.cells.size]!) = us := by simp [us, h0]
      rw [e1, g4]
      rfl
  · obtain ⟨v, a1, a2⟩ := g8 i x j cl hx hj
    exact ⟨v, by simpa using a1, a2⟩
  · obtain ⟨v, a1, a2⟩ := g9 q (by omega) (by omega)
    exact ⟨v, a1, a2⟩
  · have := VRel.own (C := C) (w := w.alloc (.cells us' e)) (Mut := Mut) (ρ := upd ρ objs1.length ⟨w.heap.size, 0, n⟩) (push_new objs1 (.sl s ys)) (A := some (at' w.heap.size 0)) (fun _ => by rw [upd_same])
    rw [upd_same, g6, hn] at this
    exact this

end
end Km
