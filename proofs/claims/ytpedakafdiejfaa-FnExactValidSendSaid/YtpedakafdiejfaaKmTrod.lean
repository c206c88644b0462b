/- A part of the proof: an abstract machine over the program (sound by its theorems), or definitions printed by it. There is no condition. -/
import Derived.Test.YtpedakafdiejfaaKmRow
import Derived.ChangeArms
namespace Km
open Go
set_option linter.unusedVariables false
set_option linter.unusedSimpArgs false
variable {κ : Type} {Ty : κ → Type} {R : Type} {P : Program} {C : Cod κ Ty} {T : TypeId → Option (TI κ Ty)} {H : Type} {enc : TypeId × Value → H}

/-- a typed value of this type, as cells -/
def shaped (C : Cod κ Ty) (T : TypeId → Option (TI κ Ty)) : Nat → TypeId → List (AV κ Ty) → Prop
  | 0, _, _ => False
  | n + 1, t, avs => match T t with
    | none => False
    | some ti => match ti.shp with
      | .int k => ∃ i, avs = [.lit (.int k i)] ∧ (Lit.int k i).wf = true
      | .bool => ∃ b, avs = [.lit (.bool b)]
      | .str => ∃ s, avs = [.lit (.string s)] ∧ s.size ≤ maxLen
      | .slice e s => ∃ xs : List (Ty s), avs = [.inl false s xs] ∧ xs.length ≤ maxLen ∧ ∀ x ∈ xs, shaped C T n e (C.enc s x)
      | .struct fs => avs.length = ti.size ∧ ∀ f ∈ fs, ∃ tf, T f.2 = some tf ∧ shaped C T n f.2 ((avs.drop f.1).take tf.size)
      | _ => False

def plainShp : Shp κ → Bool | .int _ => true | .bool => true | .str => true | .slice .. => true | .struct _ => true | _ => false
/-- the fields lie one behind the other -/
def laid (T : TypeId → Option (TI κ Ty)) : Nat → List (Nat × TypeId) → Option Nat
  | n, [] => some n
  | n, (d, t) :: fs => match T t with
    | some ti => (match Nat.beq d n && plainShp ti.shp with | true => laid T (n + ti.size) fs | false => none)
    | none => none

theorem cellsOf_size (HT : TOk P C T) {t : TypeId} {ti : TI κ Ty} (h : T t = some ti) : P.cellsOf t = ti.size := by
  obtain ⟨i, z, h1, h2, _⟩ := HT.info t ti h
  simp [Program.cellsOf, h1, h2]

variable {W : World} {base : Nat} {sp : Nat → Bool} {held : Bool} {ρ : Nat → Loc}

theorem cells_append {as bs : List (AV κ Ty)} {us vs : List Value} {w : World} {Mut : Nat → Prop} {objs : Objs κ Ty} (h : Cells C w Mut ρ objs as us) (h' : Cells C w Mut ρ objs bs vs) : Cells C w Mut ρ objs (as ++ bs) (us ++ vs) := by
  obtain ⟨h1, h2, h3⟩ := h
  obtain ⟨g1, g2, g3⟩ := h'
  refine ⟨by simp [h1, g1], fun j u hj => ?_, fun j cl u hj hu => ?_⟩
  · by_cases hlt : j < us.length
    · rw [List.getElem?_append_left hlt] at hj; exact h2 j u hj
    · rw [List.getElem?_append_right (by omega)] at hj; exact g2 _ u hj
  · by_cases hlt : j < us.length
    · rw [List.getElem?_append_left hlt] at hu
      rw [List.getElem?_append_left (by omega)] at hj
      exact h3 j cl u hj hu
    · rw [List.getElem?_append_right (by omega)] at hu
      rw [List.getElem?_append_right (by omega), ← h1] at hj
      exact g3 _ cl u hj hu

theorem cells_one {a : AV κ Ty} {u : Value} {w : World} {Mut : Nat → Prop} {objs : Objs κ Ty} (hc : isCell u = true) (h : VRel C w Mut ρ objs a u) : Cells C w Mut ρ objs [a] [u] :=
  ⟨rfl, fun j v hj => by
    cases j with
    | zero => simp at hj; subst hj; exact hc
    | succ j => simp at hj, fun j cl v a b => by
    cases j with
    | zero => simp at a b; subst a; subst b; exact h
    | succ j => simp at a⟩

theorem trod_fields (HT : TOk P C T) {n : Nat} {cs : List Value} (ih : ∀ (t : TypeId) (cs : List Value) (x : DataW H × List MemPlace) (ti : TI κ Ty), T t = some ti → plainShp ti.shp = true → DataW.trod enc P W base sp held n t cs = some x → ∃ avs, shaped C T n t avs ∧ Cells C W (fun _ => False) ρ [] avs cs) :
    ∀ (fs : List (Nat × TypeId)) (off tot : Nat), laid T off fs = some tot → cs.length = tot → (∀ f ∈ fs, ∃ x, DataW.trod enc P W base sp held n f.2 ((cs.drop f.1).take (P.cellsOf f.2)) = some x) →
      off ≤ tot ∧ ∃ avs : List (AV κ Ty), Cells C W (fun _ => False) ρ [] avs (cs.drop off) ∧ ∀ f ∈ fs, off ≤ f.1 ∧ ∃ tf, T f.2 = some tf ∧ shaped C T n f.2 ((avs.drop (f.1 - off)).take tf.size)
  | [], off, tot, hl, hlen, _ => by
    simp only [laid, Option.some.injEq] at hl
    subst hl
    refine ⟨Nat.le_refl _, [], ?_, fun f hf => by simp at hf⟩
    rw [List.drop_eq_nil_of_le (by omega)]
    exact ⟨rfl, fun j u h => by simp at h, fun j cl u h => by simp at h⟩
  | (d, t) :: fs, off, tot, hl, hlen, h => by
    simp only [laid] at hl
    split at hl
    · rename_i ti hti
      split at hl
      · rename_i hb
        simp only [Bool.and_eq_true] at hb
        have hd := Nat.eq_of_beq_eq_true hb.1
        subst hd
        obtain ⟨k1, avs2, k2, k3⟩ := trod_fields HT ih fs (d + ti.size) tot hl hlen (fun f hf => h f (List.mem_cons_of_mem _ hf))
        obtain ⟨x, hx⟩ := h (d, t) (List.mem_cons_self ..)
        dsimp only at hx
        rw [cellsOf_size HT hti] at hx
        obtain ⟨avs1, g1, g2⟩ := ih t _ x ti hti hb.2 hx
        have hl1 : avs1.length = ti.size := by rw [← g2.1]; simp; omega
        refine ⟨by omega, avs1 ++ avs2, ?_, fun f hf => ?_⟩
        · have := cells_append g2 k2
          rwa [show (cs.drop d).take ti.size ++ cs.drop (d + ti.size) = cs.drop d by rw [← List.drop_drop]; exact List.take_append_drop _ _] at this
        · simp only [List.mem_cons] at hf
          rcases hf with rfl | hf
          · refine ⟨Nat.le_refl _, ti, hti, ?_⟩
            dsimp only
            rw [Nat.sub_self, List.drop_zero, ← hl1, List.take_left']
            · exact g1
            · rfl
          · obtain ⟨m1, tf, m2, m3⟩ := k3 f hf
            refine ⟨by omega, tf, m2, ?_⟩
            rw [List.drop_append, List.drop_eq_nil_of_le (by omega), List.nil_append, hl1, show f.1 - d - ti.size = f.1 - (d + ti.size) by omega]
            exact m3
      · cases hl
    · cases hl

/-- what the codec must be able to tell of a table's slices -/
structure FullC (C : Cod κ Ty) (T : TypeId → Option (TI κ Ty)) : Prop where
  laid : ∀ t ti fs, T t = some ti → ti.shp = .struct fs → laid T 0 fs = some ti.size
  elem : ∀ t ti e s, T t = some ti → ti.shp = .slice e s → ∃ te, T e = some te ∧ plainShp te.shp = true
  full : ∀ t ti e s n avs, T t = some ti → ti.shp = .slice e s → shaped C T n e avs → ∃ x, C.enc s x = avs
  sz : ∀ s, 0 < C.sz s
  bor : ∀ s, C.bor s = false

theorem choose_list {α : Type} {p : Nat → α → Prop} : ∀ (n : Nat), (∀ i, i < n → ∃ x, p i x) → ∃ xs : List α, xs.length = n ∧ ∀ i x, xs[i]? = some x → p i x
  | 0, _ => ⟨[], rfl, fun i x h => by simp at h⟩
  | n + 1, h => by
    obtain ⟨xs, h1, h2⟩ := choose_list n (fun i hi => h i (by omega))
    obtain ⟨x, hx⟩ := h n (by omega)
    refine ⟨xs ++ [x], by simp [h1], fun i y hy => ?_⟩
    by_cases hi : i < n
    · rw [List.getElem?_append_left (by omega)] at hy; exact h2 i y hy
    · rw [List.getElem?_append_right (by omega)] at hy
      have hlt := (List.getElem?_eq_some_iff.mp hy).1
      simp at hlt
      have : i = n := by omega
      subst this
      rw [h1] at hy; simp at hy; subst hy; exact hx

theorem cells?_get {w : World} {a : Addr} {n : Nat} {cs : List Value} (h : w.cells? base a n = some cs) : cs.length = n ∧ ∀ i, i < n → w.cell? (a.add i) = cs[i]? := by
  unfold World.cells? at h
  split at h
  · exact ⟨by simpa using mapM_some_length h, fun i hi => mapM_some_get h i i (by simp [hi])⟩
  · cases h

/-- what a row's reading of the arguments found, as typed values -/
theorem trod_shaped (HT : TOk P C T) (HC : CodOk C) (HF : FullC C T) : ∀ (fuel : Nat) (t : TypeId) (cs : List Value) (x : DataW H × List MemPlace) (ti : TI κ Ty), T t = some ti → plainShp ti.shp = true →
    DataW.trod enc P W base sp held fuel t cs = some x → ∃ avs, shaped C T fuel t avs ∧ Cells C W (fun _ => False) ρ [] avs cs
  | 0, t, cs, x, ti, _, _, h => by simp [DataW.trod] at h
  | fuel + 1, t, cs, x, ti, ht, hp, h => by
    cases hs : ti.shp with
    | int k =>
      obtain ⟨n, rfl, _, hw⟩ := DataW.trod_int (HT.int t ti k ht hs) h
      exact ⟨[.lit (.int k n)], by simp only [shaped, ht, hs]; exact ⟨n, rfl, hw⟩, cells_one rfl (.lit rfl)⟩
    | bool =>
      obtain ⟨b, rfl, _⟩ := DataW.trod_bool (HT.bool t ti ht hs) h
      exact ⟨[.lit (.bool b)], by simp only [shaped, ht, hs]; exact ⟨b, rfl⟩, cells_one rfl (.lit rfl)⟩
    | str =>
      obtain ⟨s, rfl, _, hl⟩ := DataW.trod_string (HT.str t ti ht hs) h
      exact ⟨[.lit (.string s)], by simp only [shaped, ht, hs]; exact ⟨s, rfl, hl⟩, cells_one rfl (.lit rfl)⟩
    | struct fs =>
      obtain ⟨fields, u1, u2, u3⟩ := HT.struct t ti fs ht hs
      obtain ⟨xs, n, hn, _, hl, hxl, hx⟩ := DataW.trod_struct u1 h
      cases hn
      rw [cellsOf_size HT ht] at hl
      obtain ⟨_, avs, k1, k2⟩ := trod_fields (ρ := ρ) HT (trod_shaped HT HC HF fuel) fs 0 ti.size (HF.laid t ti fs ht hs) hl (fun f hf => by
        rw [← u2, List.mem_map] at hf
        obtain ⟨fl, hfl, rfl⟩ := hf
        obtain ⟨i, hi⟩ := List.getElem?_of_mem hfl
        have hi' : fields[i]? = some fl := by simpa using hi
        have hlt := (Array.getElem?_eq_some_iff.mp hi').1
        have := hx i fl hi'
        exact ⟨xs[i]'(by omega), by rw [this]; exact List.getElem?_eq_getElem _⟩)
      rw [List.drop_zero] at k1
      refine ⟨avs, ?_, k1⟩
      simp only [shaped, ht, hs]
      refine ⟨by rw [← k1.1]; exact hl, fun f hf => ?_⟩
      obtain ⟨_, tf, m1, m2⟩ := k2 f hf
      exact ⟨tf, m1, by simpa using m2⟩
    | slice e s =>
      obtain ⟨u1, i, hi, hi2, _⟩ := HT.slice t ti e s ht hs
      obtain ⟨te, hte, hpe⟩ := HF.elem t ti e s ht hs
      have hsz : P.cellsOf e = C.sz s := by simp [Program.cellsOf, hi, hi2]
      rcases DataW.trod_slice u1 h with ⟨rfl, _⟩ | ⟨a, len, cap, elems, rest, n, hn, rfl, _, hb, hlc, hcap, hel, hget, _⟩
      · refine ⟨[.inl false s []], by simp only [shaped, ht, hs]; exact ⟨[], rfl, Nat.zero_le _, fun x hx => by simp at hx⟩, cells_one rfl ?_⟩
        exact .inl (xs := []) (blk := 0) (off := 0) (vals := fun _ _ => Go.undef) (fun _ => HF.bor s) (Nat.le_refl _) (fun h => absurd rfl h) (fun i x j cl hx => by simp at hx) (fun i x j cl hx => by simp at hx)
      · cases hn
        have hrow : ∀ i, i < len → ∃ y : Ty s, shaped C T fuel e (C.enc s y) ∧ ∃ us, Cells C W (fun _ => False) ρ [] (C.enc s y) us ∧ us.length = C.sz s ∧ ∀ j, j < C.sz s → W.cell? ((a.add (i * C.sz s)).add j) = us[j]? := fun i hi' => by
          have h1 := hget i hi'
          rw [hsz, List.getElem?_eq_getElem (by omega), Option.bind_eq_some_iff] at h1
          obtain ⟨us, h2, h3⟩ := h1
          obtain ⟨avs, k1, k2⟩ := trod_shaped HT HC HF fuel e us _ te hte hpe h3
          obtain ⟨y, rfl⟩ := HF.full t ti e s fuel avs ht hs k1
          obtain ⟨g1, g2⟩ := cells?_get h2
          exact ⟨y, k1, us, k2, g1, g2⟩
        obtain ⟨ys, hy1, hy2⟩ := choose_list len hrow
        have hspot : ys ≠ [] → a = at' a.block a.off ∧ a.block < W.heap.size := fun hne => by
          have hpos := List.length_pos_iff.mpr hne
          obtain ⟨_, us, _, hul, hu⟩ := hy2 0 ys[0] (List.getElem?_eq_getElem hpos)
          have h0 := hu 0 (HF.sz s)
          have hsz0 := HF.sz s
          rw [List.getElem?_eq_getElem (by omega)] at h0
          simp only [Nat.zero_mul, Addr.add, if_true] at h0
          refine ⟨?_, cell_lt h0⟩
          obtain ⟨ab, ao, asp⟩ := a
          cases asp with
          | none => rfl
          | some q =>
            simp only [World.cell?] at h0
            split at h0
            · simp at h0
            · cases h0
        refine ⟨[.inl false s ys], by
          simp only [shaped, ht, hs]
          exact ⟨ys, rfl, by omega, fun x hx => by
            obtain ⟨i, hi'⟩ := List.getElem?_of_mem hx
            exact (hy2 i x hi').1⟩, cells_one rfl ?_⟩
        have hadd : ys ≠ [] → ∀ i j, (a.add (i * C.sz s)).add j = at' a.block (a.off + i * C.sz s + j) := fun hne i j => by
          obtain ⟨e1, _⟩ := hspot hne
          rw [e1, add_at, add_at]
        have := VRel.inl (C := C) (w := W) (Mut := fun _ => False) (ρ := ρ) (objs := []) (b := false) (t := s) (xs := ys) (A := some a) (c := cap) (blk := a.block) (off := a.off)
          (vals := fun i j => (W.cell? ((a.add (i * C.sz s)).add j)).getD Go.undef) (fun _ => HF.bor s) (by omega)
          (fun hne => ⟨congrArg some (hspot hne).1, (hspot hne).2, fun hx => by
            rcases hx with ⟨k, hk⟩ | ⟨_, hk⟩
            · simp [FootAt] at hk
            · exact hk⟩)
          (fun i x j cl hx hj => by
            have hne : ys ≠ [] := List.ne_nil_of_mem (List.mem_of_getElem? hx)
            obtain ⟨_, us, k1, k2, k3⟩ := hy2 i x hx
            have hjl := (List.getElem?_eq_some_iff.mp hj).1
            rw [HC.len] at hjl
            have := k3 j hjl
            rw [← hadd hne, this, List.getElem?_eq_getElem (by omega)]; rfl)
          (fun i x j cl hx hj => by
            obtain ⟨_, us, k1, k2, k3⟩ := hy2 i x hx
            have hjl := (List.getElem?_eq_some_iff.mp hj).1
            rw [HC.len] at hjl
            have := k3 j hjl
            rw [this, List.getElem?_eq_getElem (by omega)]
            exact k1.2.2 j cl _ hj (List.getElem?_eq_getElem (by omega)))
        rw [hy1] at this
        exact this
    | arr n e s => rw [hs] at hp; cases hp
    | other => rw [hs] at hp; cases hp

def rowLaid (T : TypeId → Option (TI κ Ty)) (e : Nat × TI κ Ty) : Bool := match e.2.shp with
  | .struct fs => (match laid T 0 fs with | some n => Nat.beq n e.2.size | none => false)
  | .slice e2 _ => (match T e2 with | some te => plainShp te.shp | none => false)
  | _ => true
theorem FullC.of {C : Cod κ Ty} {l : List (Nat × TI κ Ty)} (h1 : l.all (rowLaid (lookT l)) = true) (h2 : ∀ e ∈ l, ∀ e2 s n avs, e.2.shp = .slice e2 s → shaped C (lookT l) n e2 avs → ∃ x, C.enc s x = avs) (h3 : ∀ s, 0 < C.sz s) (h4 : ∀ s, C.bor s = false) : FullC C (lookT l) := by
  have key : ∀ t ti, lookT l t = some ti → rowLaid (lookT l) (t, ti) = true := fun t ti ht => (List.all_eq_true.mp h1) _ (lookT_mem ht)
  refine ⟨fun t ti fs ht hs => ?_, fun t ti e s ht hs => ?_, fun t ti e s n avs ht hs => h2 _ (lookT_mem ht) e s n avs hs, h3, h4⟩
  · have := key t ti ht
    simp only [rowLaid, hs] at this
    split at this
    · rename_i n hn; rw [hn, Nat.eq_of_beq_eq_true this]
    · cases this
  · have := key t ti ht
    simp only [rowLaid, hs] at this
    split at this
    · rename_i te hte; exact ⟨te, hte, this⟩
    · cases this
end Km
