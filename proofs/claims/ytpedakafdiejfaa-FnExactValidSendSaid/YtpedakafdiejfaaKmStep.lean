/- A part of the proof: an abstract machine over the program (sound by its theorems), or definitions printed by it. There is no condition. -/
import Derived.Test.YtpedakafdiejfaaKmCall3
import Derived.Test.YtpedakafdiejfaaKmConv
namespace Km
open Go
set_option linter.unusedVariables false
set_option linter.unusedSimpArgs false

variable {κ : Type} {Ty : κ → Type} {R : Type}
section
variable {P : Program} {C : Cod κ Ty} {T : TypeId → Option (TI κ Ty)} {Γ : FuncId → Option (Summ κ Ty)}
variable {Mut : Nat → Prop} {Lent : Org κ Ty} {w0 w w' : World} {ρ ρ' ρ2 : Nat → Loc} {env : Env κ Ty} {objs objs' objs2 : Objs κ Ty} {a : Act}
variable {next : Act → World → Prop} {Q : Exit → Act → World → Prop} {o : Oper}

/-- all that is known of the program -/
structure Known (P : Program) (C : Cod κ Ty) (T : TypeId → Option (TI κ Ty)) (Γ : FuncId → Option (Summ κ Ty)) : Prop where
  ty : TOk P C T
  el : EOk P C T
  cod : CodOk C
  fn : ∀ f S, Γ f = some S → SummOk P C f S

theorem opnds_rel (HT : TOk P C T) (S : SRel C Mut Lent w0 ρ env objs a.tmps w) : ∀ (xs : List Operand) (ts : List TypeId), xs.length = ts.length → (xs.map a.eval).length = (opnds T env xs ts).length ∧
    ∀ (j : Nat) (x : AV κ Ty) (u : Value), (opnds T env xs ts)[j]? = some x → (xs.map a.eval)[j]? = some u → VRel C w Mut ρ objs x u
  | [], [], _ => ⟨rfl, fun j x u h => by simp [opnds] at h⟩
  | [], _ :: _, h => by simp at h
  | _ :: _, [], h => by simp at h
  | x :: xs, t :: ts, h => by
    obtain ⟨h1, h2⟩ := opnds_rel HT S xs ts (by simpa using h)
    refine ⟨by simp [opnds] at h1 ⊢; exact h1, fun j y u hj hu => ?_⟩
    cases j with
    | zero => simp [opnds] at hj hu; subst hj; subst hu; exact opnd_rel HT S t x
    | succ j => exact h2 j y u (by simpa [opnds] using hj) (by simpa using hu)

theorem lenOf_sound (HT : TOk P C T) (HC : CodOk C) (S : SRel C Mut Lent w0 ρ env objs a.tmps w) {t ty : TypeId} {ti : TI κ Ty} (ht : T t = some ti) {x : AV κ Ty} {u : Value} {n : Int} (hx : VRel C w Mut ρ objs x u) (h : lenOf objs ti.shp x = some n) :
    (Builtin.len_ #[t] ty #[u]).run P w = .ok (.int .i64 n) w := by
  unfold lenOf at h
  split at h
  · rename_i hs
    have hu := HT.str t ti ht hs
    split at h
    · obtain ⟨rfl, _⟩ := lit_inv hx
      cases h
      simp only [Builtin.len_, List.getElem?_toArray, List.getElem?_cons_zero, Sem.run_bind, run_underlying hu, Result.andThen_ok]
      rfl
    · cases h
  · rename_i e s hs
    obtain ⟨hu, _⟩ := HT.slice t ti e s ht hs
    split at h
    · rename_i t' xs hr
      obtain ⟨A, c, blk, off, rfl, _⟩ := rowsOf_rel HC S hx hr
      cases h
      simp only [Builtin.len_, List.getElem?_toArray, List.getElem?_cons_zero, Sem.run_bind, run_underlying hu, Result.andThen_ok]
      rfl
    · cases h
  · cases h

theorem opt_rel (HT : TOk P C T) (S : SRel C Mut Lent w0 ρ env objs a.tmps w) {x : Option Operand} {b : Option Int}
    (h : (match x with | none => some none | some l => (match opnd T env 0 l with | .lit (.int _ n) => some (some n) | _ => none) : Option (Option Int)) = some b) : BRel b (x.map a.eval) := by
  cases x with
  | none => cases h; exact .none
  | some y =>
    simp only at h
    split at h
    · rename_i k n he
      cases h
      have := opnd_rel HT S 0 y
      rw [he] at this
      obtain ⟨hu, _⟩ := lit_inv this
      simp only [Option.map_some, hu]
      exact .some k n
    · cases h

theorem run_exec {u : Value} {x : Sem Value} (hx : execOp a.eval o = (do pure (.value (← x)))) (h : x.run P w = .ok u w') : (execOp a.eval o).run P w = .ok (.value u) w' := by
  rw [hx]; simp [h]
theorem run_execU {x : Sem Unit} (hx : execOp a.eval o = (do x; pure .skip)) (h : x.run P w = .ok () w') : (execOp a.eval o).run P w = .ok .skip w' := by
  rw [hx]; simp [h]

theorem aop_sound (H : Known P C T Γ) (S : SRel C Mut Lent w0 ρ env objs a.tmps w) {K : AV κ Ty → Objs κ Ty → Option R} {r : R} (h : aop C T Γ o env objs K = some r)
    (hn : ∀ v objs' ρ' u w', K v objs' = some r → SRel C Mut Lent w0 ρ' env objs' a.tmps w' → VRel C w' Mut ρ' objs' v u → next (a.put o.dst u) w') : o.wp P a w next Q := by
  unfold aop at h
  split at h
  · rename_i x ho -- move
    exact wp_value (by simp only [execOp, ho]; rfl) (hn _ _ ρ _ w h S (opnd_rel H.ty S _ x))
  · rename_i x ho -- assign
    exact wp_value (by simp only [execOp, ho]; rfl) (hn _ _ ρ _ w h S (opnd_rel H.ty S _ x))
  · rename_i c x y ho -- pick
    split at h
    · rename_i t hc
      have h := ifB_some h
      have hcu := opnd_rel H.ty S 0 c
      rw [hc] at hcu
      obtain ⟨hcu, _⟩ := lit_inv hcu
      refine wp_value (u := if t = true then a.eval x else a.eval y) (w' := w) ?_ (hn _ _ ρ _ w h S ?_)
      · simp only [execOp, ho, hcu, asBool]; rfl
      · cases t
        · exact opnd_rel H.ty S _ y
        · exact opnd_rel H.ty S _ x
    · cases h
  · rename_i t ho -- alloc
    split at h
    · rename_i ti ht
      split at h
      · rename_i n e s hs
        split at h
        · rename_i te hte hle
          split at h
          · rename_i z hz
            obtain ⟨u', w', ρ', g1, g2, g3⟩ := allocArr_sound (P := P) H.ty H.cod S ht hs hte (Nat.le_of_ble_eq_true hle) hz
            exact wp_value (run_exec (by simp only [execOp, ho]) g1) (hn _ _ ρ' _ w' h g2 g3)
          · cases h
        · cases h
      · obtain ⟨u', w', ρ', g1, g2, g3⟩ := allocBox_sound (P := P) H.ty S ht
        exact wp_value (run_exec (by simp only [execOp, ho]) g1) (hn _ _ ρ' _ w' h g2 g3)
    · cases h
  · rename_i t x ho -- box
    split at h
    · rename_i cs hc
      have hx := opnd_rel H.ty S t x
      have hcs := cellsOf_rel hc hx
      refine wp_value (u := .pointer (some (at' w.heap.size 0))) (w' := w.alloc (.cells (a.eval x).cells t)) ?_ (hn _ _ _ _ _ h (S.newBox t hcs) ?_)
      · simp only [execOp, ho]
        simp [Instr.box, newVar, newRow, World.alloc_eq, at']
      · have := VRel.ref (C := C) (w := w.alloc (.cells (a.eval x).cells t)) (Mut := Mut) (ρ := upd ρ objs.length ⟨w.heap.size, 0, 0⟩) (off := 0) (push_new objs (.box cs))
        rw [upd_same] at this
        exact this
    · cases h
  · rename_i t ps ho -- build
    split at h
    · rename_i ti ht
      split at h
      · rename_i fs hs
        split at h
        · rename_i cs hf
          obtain ⟨us, g1, g2⟩ := build_sound (P := P) H.ty ht hs (partsOf_rel H.ty S _ ps.toList) hf
          refine wp_value (run_exec (x := Instr.build t (ps.map fun (i, x) => (i, a.eval x))) (by simp only [execOp, ho]) ?_) (hn _ _ ρ _ w h S g2.agg)
          rw [← g1]; congr 2
          apply Array.ext'; simp
        · cases h
      · cases h
    · cases h
  · rename_i t n ps ho -- buildSlice
    split at h
    · rename_i ti ht
      split at h
      · rename_i e s hs
        split at h
        · rename_i hb
          simp only [Bool.and_eq_true] at hb
          have hpl : ∀ (ps : List (Nat × Operand)) (ty : Nat → TypeId), (partsOf T env ty ps).length = ps.length := fun ps ty => by
            induction ps with
            | nil => rfl
            | cons p ps ih => obtain ⟨i, x⟩ := p; simp [partsOf, ih]
          obtain ⟨ys, objs1, u', w', ρ', g1, g2, g3, g4⟩ := buildSlice_sound (P := P) H.ty H.el H.cod S ht hs (n := n) (partsOf_rel H.ty S (fun _ => e) ps.toList) (by rw [hpl]; exact Nat.eq_of_beq_eq_true hb.1) (Nat.le_of_ble_eq_true hb.2) h
          refine wp_value (run_exec (x := Instr.buildSlice t n (ps.map fun (i, x) => (i, a.eval x))) (by simp only [execOp, ho]) ?_) (hn _ _ ρ' _ w' g1 g3 g4)
          rw [← g2]; congr 2
          apply Array.ext'; simp
        · cases h
      · cases h
    · cases h
  · rename_i t x ho -- load
    split at h
    · rename_i ti ht
      obtain ⟨v, u', g1, g2, g3⟩ := aload_sound (P := P) H.ty H.cod S ht (opnd_rel H.ty S 0 x) h
      exact wp_value (run_exec (by simp only [execOp, ho]) g2) (hn _ _ ρ _ w g1 S g3)
    · cases h
  · rename_i t x y ho -- store
    split at h
    · rename_i ti ht
      obtain ⟨objs', w', g1, g2, g3⟩ := astore_sound (P := P) H.ty H.cod S ht (opnd_rel H.ty S 0 x) (opnd_rel H.ty S t y) h
      exact wp_skip' (run_execU (by simp only [execOp, ho]) g2) (hn _ _ ρ _ w' g1 g3 .undef)
    · cases h
  · rename_i x ho -- nilCheck
    split at h
    · rename_i ha
      have hx := opnd_rel H.ty S o.type x
      obtain ⟨b, k, hu⟩ := addr_pointer ha hx
      exact wp_value (by simp only [execOp, ho, hu]; rfl) (hn _ _ ρ _ w h S (hu ▸ hx))
    · cases h
  · rename_i op t x y ty ho -- binOp
    split at h
    · rename_i ti ht
      obtain ⟨v, u, g1, g2, g3⟩ := vbin_sound (P := P) H.ty ht x y (opnd_rel H.ty S t x) (opnd_rel H.ty S t y) h
      exact wp_value (run_exec (x := do eqGuard op t x y (a.eval x) (a.eval y); binOp op t (a.eval x) (a.eval y)) (by simp only [execOp, ho]) g2) (hn _ _ ρ _ w g1 S g3)
    · cases h
  · rename_i op t x ho -- unOp
    split at h
    · split at h
      · rename_i b hb
        have hx := opnd_rel H.ty S o.type x
        rw [hb] at hx
        obtain ⟨hu, _⟩ := lit_inv hx
        exact wp_value (run_exec (x := Op.unary .not (a.eval x)) (by simp only [execOp, ho]) (by rw [hu]; rfl)) (hn _ _ ρ _ w h S (.lit rfl))
      · cases h
    · cases h
  · rename_i s d x ho -- convert
    split at h
    · rename_i ti td hti htd
      split at h
      · rename_i k k' n hk hx0
        split at h
        · rename_i k2 hk2
          have hx := opnd_rel H.ty S o.type x
          rw [hx0] at hx
          obtain ⟨hu, _⟩ := lit_inv hx
          have u1 := H.ty.int s ti _ hti hk2
          have u2 := H.ty.int d td _ htd hk
          refine wp_value (run_exec (x := convert s d (a.eval x)) (by simp only [execOp, ho]) (u := .int k (k.wrap n)) ?_) (hn _ _ ρ _ w h S (.lit rfl))
          rw [hu]
          simp [convert, run_underlying u1, run_underlying u2, Conv.intToInt]
        · cases h
      · rename_i hk
        split at h
        · rename_i e s' hs
          split at h
          · rename_i te t xs hte hrows
            split at h
            · rename_i k hk2
              split at h
              · split at h
                · rename_i bs hbs
                  have hx := opnd_rel H.ty S o.type x
                  obtain ⟨A, n, c, hu, hrun⟩ := rows_bytes (P := P) H.cod S hx hrows hbs
                  have u1 := (H.ty.slice s ti e s' hti hs).1
                  have u2 := H.ty.int e te _ hte hk2
                  have u3 := H.ty.str d td htd hk
                  refine wp_value (run_exec (x := convert s d (a.eval x)) (by simp only [execOp, ho]) (u := .string (bstr bs)) ?_) (hn _ _ ρ _ w h S (.lit rfl))
                  rw [hu] at hrun ⊢
                  rw [run_convert_bytes_string w s d e A n c u1 u2 u3]
                  exact hrun
                · cases h
              · cases h
            · cases h
          · cases h
        · cases h
      · cases h
    · cases h
  · rename_i t n c ho -- makeSlice
    split at h
    · rename_i ti ht
      split at h
      · rename_i e s hs
        split at h
        · rename_i te hte
          split at h
          · rename_i k p k' q hp hq
            replace h := bind_some h
            obtain ⟨m, hm, h⟩ := h
            split at hm
            · rename_i he
              subst he
              split at h
              · rename_i z hz
                have h1 := opnd_rel H.ty S 0 n
                have h2 := opnd_rel H.ty S 0 c
                rw [hp] at h1
                rw [hq] at h2
                obtain ⟨e1, _⟩ := lit_inv h1
                obtain ⟨e2, _⟩ := lit_inv h2
                obtain ⟨u', w', ρ', g1, g2, g3⟩ := makeSlice_sound (P := P) (k := k) (k' := k') H.ty H.el H.cod S ht hs hte hm hz
                exact wp_value (run_exec (x := Instr.makeSlice t (a.eval n) (a.eval c)) (by simp only [execOp, ho]) (by rw [e1, e2]; exact g1)) (hn _ _ ρ' _ w' h g2 g3)
              · cases h
            · cases hm
          · cases h
        · cases h
      · cases h
    · cases h
  · rename_i t x lo hi mx ho -- slice
    split at h
    · rename_i ti ht
      split at h
      · split at h
        · rename_i l m hl hm
          have b1 := opt_rel H.ty S hl
          have b2 := opt_rel H.ty S hm
          obtain ⟨v, u', g1, g2, g3⟩ := aslice_sound (P := P) H.ty H.cod S ht (opnd_rel H.ty S t x) b1 b2 h
          exact wp_value (run_exec (x := Instr.sliceAt t (a.eval x) (lo.map a.eval) (hi.map a.eval) ((none : Option Operand).map a.eval)) (by simp only [execOp, ho]) g2) (hn _ _ ρ _ w g1 S g3)
        · cases h
      · cases h
    · cases h
  · rename_i s x f ho -- fieldAddr
    split at h
    · rename_i ti ht
      split at h
      · rename_i fs hs
        split at h
        · rename_i v ha hv
          obtain ⟨fields, hu, hfs, hfi⟩ := H.ty.struct s ti fs ht hs
          have hx := opnd_rel H.ty S 0 x
          obtain ⟨b, k, hp⟩ := addr_pointer ha hx
          rw [hp] at hx
          have hd : ∃ d t, fs[f]? = some (d, t) := by
            unfold afield at hv
            split at hv
            · cases hv
            · rename_i d t hd; exact ⟨d, t, hd⟩
          obtain ⟨d, t, hd⟩ := hd
          have hr := afield_rel hd ha hv hx
          have hfd : ∃ fl, fields[f]? = some fl ∧ fl.offset = d ∧ fl ∈ fields.toList := by
            rw [← hfs] at hd
            simp only [List.getElem?_map, Option.map_eq_some_iff] at hd
            obtain ⟨fl, e1, e2⟩ := hd
            refine ⟨fl, by rw [← Array.getElem?_toList]; exact e1, by simpa using congrArg Prod.fst e2, List.mem_of_getElem? e1⟩
          obtain ⟨fl, f1, f2, f3⟩ := hfd
          obtain ⟨i, i1, i2⟩ := hfi fl f3
          refine wp_value (run_exec (x := Instr.fieldAt s (a.eval x) f) (by simp only [execOp, ho]) (u := .pointer (some (at' b (k + d)))) ?_) (hn _ _ ρ _ w h S hr)
          rw [hp]
          simp only [Instr.fieldAt, Sem.run_bind, run_underlying hu, Result.andThen_ok, f1, Instr.sureAddr, Sem.run_pure, fieldPlace, runSz i1]
          rw [if_neg i2]
          simp [add_at, f2]
        · cases h
      · cases h
    · cases h
  · rename_i s x f ho -- field
    split at h
    · rename_i ti cs ht hc
      split at h
      · rename_i fs hs
        split at h
        · rename_i d t hd
          split at h
          · rename_i tf htf
            split at h
            · rename_i v hv
              obtain ⟨fields, hu, hfs, hfi⟩ := H.ty.struct s ti fs ht hs
              have hx := opnd_rel H.ty S s x
              rw [hc] at hx
              have hfd : ∃ fl, fields[f]? = some fl ∧ fl.offset = d ∧ fl.type = t := by
                rw [← hfs] at hd
                simp only [List.getElem?_map, Option.map_eq_some_iff] at hd
                obtain ⟨fl, e1, e2⟩ := hd
                exact ⟨fl, by rw [← Array.getElem?_toList]; exact e1, by simpa using congrArg Prod.fst e2, by simpa using congrArg Prod.snd e2⟩
              obtain ⟨fl, f1, f2, f3⟩ := hfd
              generalize hux : a.eval x = ux at hx
              cases hx with
              | agg hl hcell hrel =>
                rename_i us
                obtain ⟨u, g1, g2⟩ := part_sound (P := P) H.ty htf (d := d) ⟨hl, hcell, hrel⟩ hv
                refine wp_value (run_exec (x := Instr.field s (a.eval x) f) (by simp only [execOp, ho]) (u := u) ?_) (hn _ _ ρ _ w h S g2)
                rw [hux]
                simp only [Instr.field, Sem.run_bind, run_underlying hu, Result.andThen_ok, f1, asAgg, Sem.run_pure, f2, f3]
                exact g1
            · cases h
          · cases h
        · cases h
      · cases h
    · cases h
  · rename_i t x i ho -- indexAddr
    split at h
    · rename_i ti ht
      obtain ⟨v, u', g1, g2, g3⟩ := aindexAddr_sound (P := P) H.ty H.cod S ht (opnd_rel H.ty S t x) (opnd_rel H.ty S 0 i) h
      exact wp_value (run_exec (by simp only [execOp, ho]) g2) (hn _ _ ρ _ w g1 S g3)
    · cases h
  · rename_i t x i ho -- index
    split at h
    · rename_i ti ht
      split at h
      · rename_i hs
        split at h
        · rename_i s k n hx0 hi0
          obtain ⟨c, hc, h⟩ := bind_some h
          have h1 := opnd_rel H.ty S t x
          have h2 := opnd_rel H.ty S 0 i
          rw [hx0] at h1
          rw [hi0] at h2
          obtain ⟨e1, _⟩ := lit_inv h1
          obtain ⟨e2, _⟩ := lit_inv h2
          have hu := H.ty.str t ti ht hs
          unfold bidx at hc
          split at hc
          · cases hc
          · rename_i hneg
            refine wp_value (run_exec (x := Instr.index t (a.eval x) (a.eval i)) (by simp only [execOp, ho]) (u := .int .u8 c.toNat) ?_) (hn _ _ ρ _ w h S (.lit rfl))
            rw [e1, e2]
            simp only [Instr.index, asIntOf, Sem.run_bind, Sem.run_pure, Result.andThen_ok, run_underlying hu]
            rw [if_pos (by omega), hc]
            rfl
        · cases h
      · cases h
    · cases h
  · rename_i t i ho -- extract
    split at h
    · rename_i vs hv
      split at h
      · rename_i v hi
        have hx := opnd_rel H.ty S 0 t
        rw [hv] at hx
        generalize hux : a.eval t = ux at hx
        cases hx with
        | tup hl hrel =>
          rename_i us
          have hlt := (List.getElem?_eq_some_iff.mp hi).1
          have hu : us[i]? = some (us[i]'(by omega)) := List.getElem?_eq_getElem _
          refine wp_value (run_exec (x := Instr.extract (a.eval t) i) (by simp only [execOp, ho]) (u := us[i]'(by omega)) ?_) (hn _ _ ρ _ w h S (hrel i v _ hi hu))
          rw [hux]
          simp [Instr.extract, hu]
      · cases h
    · cases h
  · rename_i c ho -- call
    split at h
    · rename_i b hb
      split at h
      · -- len
        split at h
        · rename_i x t hx ht0
          split at h
          · rename_i ti ht
            split at h
            · rename_i n hlen
              have hr := opnd_rel H.ty S t x
              refine wp_value (u := .int .i64 n) (w' := w) ?_ (hn _ _ ρ _ w h S (.lit rfl))
              have ha : c.args = #[x] := by apply Array.ext'; exact hx
              have hat : c.argTypes = #[t] := by apply Array.ext'; exact ht0
              have := lenOf_sound (P := P) H.ty H.cod S (ty := o.type) ht hr hlen
              simp only [execOp, ho, resolve, hb, invoke, builtin, ha, hat, Sem.run_bind, Sem.run_pure, Result.andThen_ok]
              simp [this]
            · cases h
          · cases h
        · cases h
      · -- append
        split at h
        · rename_i x y t1 t2 hx ht0
          split at h
          · rename_i i1 i2 h1 h2
            split at h
            · rename_i e1 s1 e2 s2 hs1 hs2
              obtain ⟨v, objs', u', w', ρ', g1, g2, g3, g4⟩ := aappend_sound (P := P) (ty := o.type) H.ty H.el H.cod S h1 h2 hs1 hs2 (opnd_rel H.ty S t1 x) (opnd_rel H.ty S t2 y) h
              refine wp_value (u := u') (w' := w') ?_ (hn _ _ ρ' _ w' g1 g3 g4)
              have ha : c.args = #[x, y] := by apply Array.ext'; exact hx
              have hat : c.argTypes = #[t1, t2] := by apply Array.ext'; exact ht0
              simp only [execOp, ho, resolve, hb, invoke, builtin, ha, hat, Sem.run_bind, Sem.run_pure, Result.andThen_ok]
              simp [g2]
            · cases h
          · cases h
        · cases h
      · cases h
    · rename_i f hf
      split at h
      · rename_i Sm hlen hΓ
        have hS := H.fn f Sm hΓ
        obtain ⟨o1, o2⟩ := opnds_rel H.ty S c.args.toList c.argTypes.toList (Nat.eq_of_beq_eq_true hlen)
        obtain ⟨⟨fn, f1, f2, f3⟩, _⟩ := hS
        have hcall := acall_sound (P := P) H.cod S (H.fn f Sm hΓ) o1 o2 h
        have hex : (execOp a.eval o).run P w = .ok (.enter f (c.args.toList.map a.eval).toArray) w := by
          simp only [execOp, ho, resolve, hf, Act.eval, Deferred.ofValue, invoke, Sem.run_bind, Sem.run_pure, Result.andThen_ok, callFunc, run_program, f1]
          have f3' : fn.body.isNone = false := by cases hb : fn.body <;> simp_all
          have f2' : ¬ (fn.name = "runtime.NumGoroutine") := by simpa using f2
          simp [f2', f3']
          apply Array.ext'; simp
        simp only [Oper.wp, hex, Oper.upon]
        refine hcall.mono ?_
        rintro e w' ⟨v, u, objs', ρ', rfl, g1, g2, g3⟩
        exact hn _ _ ρ' _ w' g1 g2 g3
      · cases h
    · cases h
  · cases h

end
end Km
