/- A part of the proof: an abstract machine over the program (sound by its theorems), or definitions printed by it. There is no condition. -/
import Derived.Test.YtpedakafdiejfaaKmXFn
import Derived.Test.YtpedakafdiejfaaKmPure
namespace Km.X
open Go Km
set_option linter.unusedVariables false
set_option linter.unusedSimpArgs false

theorem markText_l (d : Nat) : ∀ (n : Nat) (acc : ByteArray), n < 10 ^ d → acc.size + d ≤ 1000 → d ≤ 18 → ∃ s, s.size ≤ 1001 ∧ ∀ k, d + 1 ≤ k → laws_markText_l4 k (n : Int) acc = some s := by
  induction d with
  | zero =>
    intro n acc hn ha _
    have : n = 0 := by simpa using hn
    subst this
    refine ⟨⟨#[109]⟩ ++ acc, by rw [ba_size_append]; show 1 + acc.size ≤ _; omega, fun k hk => ?_⟩
    obtain ⟨k, rfl⟩ : ∃ j, k = j + 1 := ⟨k - 1, by omega⟩
    simp only [laws_markText_l4]
    rw [show decide (((0 : Nat) : Int) > 0) = false by simp]
    dsimp only
    rw [sadd_ok (by show 1 + acc.size ≤ _; omega)]; rfl
  | succ d ih =>
    intro n acc hn ha hd
    by_cases h0 : n = 0
    · subst h0
      refine ⟨⟨#[109]⟩ ++ acc, by rw [ba_size_append]; show 1 + acc.size ≤ _; omega, fun k hk => ?_⟩
      obtain ⟨k, rfl⟩ : ∃ j, k = j + 1 := ⟨k - 1, by omega⟩
      simp only [laws_markText_l4]
      rw [show decide (((0 : Nat) : Int) > 0) = false by simp]
      dsimp only
      rw [sadd_ok (by show 1 + acc.size ≤ _; omega)]; rfl
    · have hsz : (bstr [IntKind.wrap .u8 (IntKind.wrap .i64 (48 + (n : Int).tmod 10))]).size = 1 := bstr_size _
      obtain ⟨s, hs, h⟩ := ih (n / 10) (bstr [IntKind.wrap .u8 (IntKind.wrap .i64 (48 + (n : Int).tmod 10))] ++ acc) (by rw [Nat.pow_succ] at hn; omega) (by rw [ba_size_append, hsz]; omega) (by omega)
      refine ⟨s, hs, fun k hk => ?_⟩
      obtain ⟨k, rfl⟩ : ∃ j, k = j + 1 := ⟨k - 1, by omega⟩
      have hpow : 10 ^ (d + 1) ≤ 10 ^ 18 := Nat.pow_le_pow_right (by omega) hd
      simp only [laws_markText_l4]
      rw [show decide ((n : Int) > 0) = true by simp; omega]
      dsimp only
      rw [qrem_ok (by omega)]; dsimp only [Option.bind_some]
      rw [sadd_ok (by rw [hsz]; omega)]; dsimp only [Option.bind_some]
      rw [qdiv_ok (by omega)]; dsimp only [Option.bind_some]
      rw [w64 (n := (n : Int).tdiv 10) (by rw [Int.tdiv_eq_ediv_of_nonneg (by omega)]; omega), show (n : Int).tdiv 10 = ((n / 10 : Nat) : Int) by rw [Int.tdiv_eq_ediv_of_nonneg (by omega)]; simp]
      exact h k (by omega)

theorem markText_ok (n : Nat) (h : n < 10 ^ 18) : ∃ s, ∀ k, 20 ≤ k → laws_markText k (n : Int) = some s := by
  obtain ⟨s, _, hs⟩ := markText_l 18 n ⟨#[]⟩ h (by show 0 + 18 ≤ _; omega) (by omega)
  by_cases h0 : n = 0
  · subst h0; exact ⟨⟨#[109, 48]⟩, fun k hk => rfl⟩
  · refine ⟨s, fun k hk => ?_⟩
    unfold laws_markText
    rw [show decide ((n : Int) ≤ 0) = false by simp; omega]
    exact hs k (by omega)
/-- the text of mark n -/
def mt (n : Nat) : ByteArray := (laws_markText 20 n).getD ⟨#[]⟩
theorem markText_mt {n : Nat} (h : n < 10 ^ 18) {k : Nat} (hk : 20 ≤ k) : laws_markText k (n : Int) = some (mt n) := by
  obtain ⟨s, hs⟩ := markText_ok n h
  rw [hs k hk, mt, hs 20 (by omega)]; rfl

/-- parts, marked from m on -/
def markP : Nat → List DPart → List DPart
  | _, [] => []
  | m, _ :: ps => ⟨mt m, ((m + 1 : Int).tmod 3 == 0)⟩ :: markP (m + 2) ps
theorem markP_length : ∀ (m : Nat) (ps : List DPart), (markP m ps).length = ps.length
  | _, [] => rfl
  | m, _ :: ps => by simp [markP, markP_length (m + 2) ps]

theorem markPartS_l : ∀ (rest done : List DPart) (m k : Nat), m + 2 * rest.length < 10 ^ 17 → done.length + rest.length < 10 ^ 17 → 21 + rest.length ≤ k →
    laws_markPartS_l2 k (m : Int) (done.length : Int) (done ++ rest) = some (((m + 2 * rest.length : Nat) : Int), done ++ markP m rest)
  | [], done, m, k, h1, h2, hk => by
    obtain ⟨k, rfl⟩ : ∃ j, k = j + 1 := ⟨k - 1, by omega⟩
    simp only [laws_markPartS_l2]
    rw [show decide ((done.length : Int) < ((done ++ ([] : List DPart)).length : Int)) = false by simp]
    simp [markP]
  | p :: rest, done, m, k, h1, h2, hk => by
    simp only [List.length_cons] at h1 h2 hk
    obtain ⟨k, rfl⟩ : ∃ j, k = j + 1 := ⟨k - 1, by omega⟩
    simp only [laws_markPartS_l2]
    rw [show decide ((done.length : Int) < ((done ++ p :: rest).length : Int)) = true by simp; omega]
    dsimp only
    rw [markText_mt (by omega) (by omega)]; dsimp only [Option.bind_some]
    have hlt : done.length < (done ++ p :: rest).length := by simp
    rw [idx_at hlt]; dsimp only [Option.bind_some]
    simp only [Int.toNat_natCast]
    rw [List.getElem?_eq_getElem hlt]; dsimp only [Option.bind_some]
    rw [w64 (n := (m : Int) + 1) (by omega), qrem_ok (by omega)]; dsimp only [Option.bind_some]
    have hset : ∀ q, (done ++ p :: rest).set done.length q = done ++ q :: rest := fun q => by simp
    rw [hset]
    have hlt2 : ∀ q : DPart, done.length < (done ++ q :: rest).length := fun q => by simp
    rw [idx_at (hlt2 _)]; dsimp only [Option.bind_some]
    rw [List.getElem?_eq_getElem (hlt2 _)]; dsimp only [Option.bind_some]
    have hset2 : ∀ q r, (done ++ q :: rest).set done.length r = done ++ r :: rest := fun q r => by simp
    rw [hset2]
    rw [w64 (n := (m : Int) + 1 + 1) (by omega), w64 (n := (done.length : Int) + 1) (by omega)]
    simp only [List.getElem_append_right (Nat.le_refl _), Nat.sub_self, List.getElem_cons_zero]
    have := markPartS_l rest (done ++ [⟨mt m, ((m + 1 : Int).tmod 3 == 0)⟩]) (m + 2) k (by omega) (by simp; omega) (by omega)
    simp only [List.length_append, List.length_cons, List.length_nil, List.append_assoc, List.cons_append, List.nil_append] at this
    rw [show (m : Int) + 1 + 1 = ((m + 2 : Nat) : Int) by omega, show (done.length : Int) + 1 = ((done.length + (0 + 1) : Nat) : Int) by omega, this]
    simp only [markP, List.length_cons, Option.some.injEq, Prod.mk.injEq, and_true]
    omega

theorem heldPartS_l : ∀ (rest done : List DPart) (m k : Nat), m + 2 * rest.length < 10 ^ 17 → done.length + rest.length < 10 ^ 17 → 21 + rest.length ≤ k →
    laws_heldPartS_l2 k (done ++ markP m rest) (m : Int) (done.length : Int) = some ((m + 2 * rest.length : Nat) : Int)
  | [], done, m, k, h1, h2, hk => by
    obtain ⟨k, rfl⟩ : ∃ j, k = j + 1 := ⟨k - 1, by omega⟩
    rw [show markP m [] = [] from rfl]
    simp only [laws_heldPartS_l2]
    rw [show decide ((done.length : Int) < ((done ++ ([] : List DPart)).length : Int)) = false by simp]
    simp
  | p :: rest, done, m, k, h1, h2, hk => by
    simp only [List.length_cons] at h1 h2 hk
    obtain ⟨k, rfl⟩ : ∃ j, k = j + 1 := ⟨k - 1, by omega⟩
    rw [show markP m (p :: rest) = (⟨mt m, ((m + 1 : Int).tmod 3 == 0)⟩ : DPart) :: markP (m + 2) rest from rfl]
    simp only [laws_heldPartS_l2]
    have hlt : done.length < (done ++ (⟨mt m, ((m + 1 : Int).tmod 3 == 0)⟩ : DPart) :: markP (m + 2) rest).length := by simp
    rw [show decide ((done.length : Int) < ((done ++ (⟨mt m, ((m + 1 : Int).tmod 3 == 0)⟩ : DPart) :: markP (m + 2) rest).length : Int)) = true by simp; omega]
    dsimp only
    rw [idx_at hlt]; dsimp only [Option.bind_some]
    rw [markText_mt (by omega) (by omega)]; dsimp only [Option.bind_some]
    simp only [List.getElem_append_right (Nat.le_refl _), Nat.sub_self, List.getElem_cons_zero, beq_self_eq_true, Bool.not_true]
    rw [w64 (n := (m : Int) + 1) (by omega), qrem_ok (by omega)]; dsimp only [Option.bind_some]
    simp only [beq_self_eq_true, Bool.not_true]
    rw [w64 (n := (m : Int) + 1 + 1) (by omega), w64 (n := (done.length : Int) + 1) (by omega)]
    have := heldPartS_l rest (done ++ [⟨mt m, ((m + 1 : Int).tmod 3 == 0)⟩]) (m + 2) k (by omega) (by simp; omega) (by omega)
    simp only [List.length_append, List.length_cons, List.length_nil, List.append_assoc, List.cons_append, List.nil_append] at this
    rw [show (m : Int) + 1 + 1 = ((m + 2 : Nat) : Int) by omega, show (done.length : Int) + 1 = ((done.length + (0 + 1) : Nat) : Int) by omega, this]
    simp only [List.length_cons, Option.some.injEq]
    omega

theorem eqPart_refl (k : Nat) (p : DPart) : laws_eqPart k p p = some true := by simp [laws_eqPart]
theorem eqPartS_l (xs : List DPart) (hx : xs.length < 10 ^ 17) : ∀ (d j k : Nat), j + d = xs.length → d + 1 ≤ k → laws_eqPartS_l4 k xs xs (j : Int) = some true
  | 0, j, k, h, hk => by
    obtain ⟨k, rfl⟩ : ∃ j, k = j + 1 := ⟨k - 1, by omega⟩
    simp only [laws_eqPartS_l4]
    rw [show decide ((j : Int) < (xs.length : Int)) = false by simp; omega]
  | d + 1, j, k, h, hk => by
    obtain ⟨k, rfl⟩ : ∃ j, k = j + 1 := ⟨k - 1, by omega⟩
    simp only [laws_eqPartS_l4]
    rw [show decide ((j : Int) < (xs.length : Int)) = true by simp; omega]
    dsimp only
    have hlt : j < xs.length := by omega
    rw [idx_at hlt]; dsimp only [Option.bind_some]
    rw [eqPart_refl]; simp only [Option.bind_some, Bool.not_true]
    rw [w64 (n := (j : Int) + 1) (by omega)]
    exact eqPartS_l xs hx d (j + 1) k (by omega) (by omega)
theorem eqPartS_refl (xs : List DPart) (hx : xs.length < 10 ^ 17) (k : Nat) (hk : xs.length + 1 ≤ k) : laws_eqPartS k xs xs = some true := by
  unfold laws_eqPartS
  simp only [bne_self_eq_false]
  exact eqPartS_l xs hx xs.length 0 k (by omega) hk

theorem cut_same_l : ∀ (k : Nat) (m : ByteArray) (out : List DPart), impl_Cut_l4 k m out = spec_Cut_l4 k m out
  | 0, _, _ => rfl
  | k + 1, m, out => by simp only [impl_Cut_l4, spec_Cut_l4, cut_same_l k]
theorem cut_same (k : Nat) (m : ByteArray) : impl_Cut k m = spec_Cut k m := by simp only [impl_Cut, spec_Cut, cut_same_l k]

theorem cut_l : ∀ (d : Nat) (m : ByteArray) (out : List DPart), m.size ≤ 20 * d + 20 → out.length + d ≤ 1000 → ∃ ps, ps.length ≤ out.length + d + 1 ∧ ∀ k, d + 1 ≤ k → spec_Cut_l4 k m out = some ps
  | d, m, out, h, ho => by
    by_cases hs : m.size ≤ 20
    · refine ⟨out ++ [⟨m, true⟩], by simp, fun k hk => ?_⟩
      obtain ⟨k, rfl⟩ : ∃ j, k = j + 1 := ⟨k - 1, by omega⟩
      simp only [spec_Cut_l4]
      rw [show decide ((m.size : Int) > 20) = false by simp; omega]
      dsimp only
      rw [app_ok (by simp; omega)]; rfl
    · match d, h, ho with
      | 0, h, ho => omega
      | d + 1, h, ho =>
        obtain ⟨ps, hps, hk⟩ := cut_l d (m.extract 20 m.size) (out ++ [⟨m.extract 0 20, false⟩]) (by simp; omega) (by simp; omega)
        refine ⟨ps, by simp at hps; omega, fun k hkk => ?_⟩
        obtain ⟨k, rfl⟩ : ∃ j, k = j + 1 := ⟨k - 1, by omega⟩
        simp only [spec_Cut_l4]
        rw [show decide ((m.size : Int) > 20) = true by simp; omega]
        dsimp only
        rw [wnd_ok (by omega)]; dsimp only [Option.bind_some]
        rw [app_ok (by simp; omega)]; dsimp only [Option.bind_some]
        rw [wnd_ok (by omega)]; dsimp only [Option.bind_some]
        exact hk k (by omega)
theorem cut_ok (m : ByteArray) : ∃ ps, ps.length ≤ 20 ∧ ∀ k, 15 ≤ k → spec_Cut k m = some ps := by
  by_cases h : m.size > 200
  · refine ⟨[], by simp, fun k hk => ?_⟩
    unfold spec_Cut
    rw [show decide ((m.size : Int) > 200) = true by simp; omega]
  · obtain ⟨ps, h1, h2⟩ := cut_l 10 m [] (by omega) (by simp)
    refine ⟨ps, by simp at h1; omega, fun k hk => ?_⟩
    unfold spec_Cut
    rw [show decide ((m.size : Int) > 200) = false by simp; omega]
    exact h2 k (by omega)

theorem exactCut (m : ByteArray) : laws_FnExactCut 100 m = some true := by
  obtain ⟨ps, hp, hc⟩ := cut_ok m
  unfold laws_FnExactCut
  split
  · rfl
  · rw [hc 100 (by omega), cut_same, hc 100 (by omega)]; simp only [Option.bind_some]
    rw [eqPartS_refl ps (by omega) 100 (by omega)]; simp only [Option.bind_some, Bool.not_true]
    have hm : laws_markPartS 100 ps 1 = some (((1 + 2 * ps.length : Nat) : Int), markP 1 ps) := by
      have := markPartS_l ps [] 1 100 (by omega) (by simp; omega) (by omega)
      simpa [laws_markPartS] using this
    have hh : laws_heldPartS 100 (markP 1 ps) 1 = some ((1 + 2 * ps.length : Nat) : Int) := by
      have := heldPartS_l ps [] 1 100 (by omega) (by simp; omega) (by omega)
      simpa [laws_heldPartS] using this
    rw [hm]; simp only [Option.bind_some]
    rw [hh]; simp only [Option.bind_some, bne_self_eq_false]
    rw [show decide (((1 + 2 * ps.length : Nat) : Int) < 0) = false by simp; omega]
end Km.X
