/- A part of the proof: an abstract machine over the program (sound by its theorems), or definitions printed by it. There is no condition. -/
import Derived.Test.YtpedakafdiejfaaKmXSend
namespace Km.X
open Go Km
set_option linter.unusedVariables false
set_option linter.unusedSimpArgs false

theorem szItem_ok (k : Nat) (x : DItem) (a : Int) (ha : 0 ≤ a ∧ a ≤ 1048576) (hx : wfDItem x) : ∃ r, laws_szItem k x a = some r ∧ -1 ≤ r ∧ r ≤ 1048576 := by
  have h1 : x.Part.Text.size ≤ 2 ^ 63 - 1 := hx.1.1
  unfold laws_szItem laws_szPart
  rw [w64 (n := a - (x.Part.Text.size : Int)) (by omega)]
  by_cases h : a - (x.Part.Text.size : Int) < 0
  · rw [show decide (a - (x.Part.Text.size : Int) < 0) = true by simpa using h]
    exact ⟨-1, rfl, by omega, by omega⟩
  · rw [show decide (a - (x.Part.Text.size : Int) < 0) = false by simpa using h]
    simp only [Option.bind_some]
    rw [show decide (a - (x.Part.Text.size : Int) < 0) = false by simpa using h]
    exact ⟨_, rfl, by omega, by omega⟩
theorem szItemS_l (xs : List DItem) (hx : xs.length ≤ 1048576) (hw : ∀ x ∈ xs, wfDItem x) : ∀ (d j k : Nat) (a : Int), j + d = xs.length → d + 1 ≤ k → 0 ≤ a ∧ a ≤ 1048576 → ∃ r, laws_szItemS_l5 k xs a (j : Int) = some r ∧ -1 ≤ r ∧ r ≤ 1048576
  | 0, j, k, a, h, hk, ha => by
    obtain ⟨k, rfl⟩ : ∃ j, k = j + 1 := ⟨k - 1, by omega⟩
    simp only [laws_szItemS_l5]
    rw [show decide ((j : Int) < (xs.length : Int)) = false by simp; omega]
    exact ⟨a, rfl, by omega, by omega⟩
  | d + 1, j, k, a, h, hk, ha => by
    obtain ⟨k, rfl⟩ : ∃ j, k = j + 1 := ⟨k - 1, by omega⟩
    simp only [laws_szItemS_l5]
    rw [show decide ((j : Int) < (xs.length : Int)) = true by simp; omega]
    dsimp only
    have hlt : j < xs.length := by omega
    rw [idx_at hlt]; dsimp only [Option.bind_some]
    obtain ⟨r, h1, h2, h3⟩ := szItem_ok k xs[j] a ha (hw _ (List.getElem_mem hlt))
    rw [h1]; dsimp only [Option.bind_some]
    by_cases hr : r < 0
    · rw [show decide (r < 0) = true by simpa using hr]
      exact ⟨-1, rfl, by omega, by omega⟩
    · rw [show decide (r < 0) = false by simpa using hr]
      dsimp only
      rw [w64 (n := (j : Int) + 1) (by omega), show (j : Int) + 1 = ((j + 1 : Nat) : Int) by omega]
      exact szItemS_l xs hx hw d (j + 1) k r (by omega) (by omega) (by omega)
theorem szSend_ok (s : DSend) (h : wfDSend s) {k : Nat} (hk : 1048576 + 1 ≤ k) : ∃ r, laws_szSend k s 1048576 = some r ∧ (0 ≤ r → s.Items.length ≤ 1048576) := by
  obtain ⟨_, h1, h2⟩ := h
  have h1' : s.Items.length ≤ 2 ^ 63 - 1 := h1
  unfold laws_szSend laws_szItemS
  rw [w64 (n := 1048576 - (s.Items.length : Int)) (by omega)]
  by_cases h : 1048576 - (s.Items.length : Int) < 0
  · rw [show decide (1048576 - (s.Items.length : Int) < 0) = true by simpa using h]
    exact ⟨-1, rfl, by omega⟩
  · rw [show decide (1048576 - (s.Items.length : Int) < 0) = false by simpa using h]
    dsimp only
    obtain ⟨r, g1, g2, g3⟩ := szItemS_l s.Items (by omega) (fun x hx => h2 x hx) s.Items.length 0 k (1048576 - (s.Items.length : Int)) (by omega) (by omega) (by omega)
    rw [show (0 : Int) = ((0 : Nat) : Int) from rfl, g1]; dsimp only [Option.bind_some]
    by_cases hr : r < 0
    · rw [show decide (r < ((0 : Nat) : Int)) = true by simpa using hr]
      exact ⟨-1, rfl, by omega⟩
    · rw [show decide (r < ((0 : Nat) : Int)) = false by simpa using hr]
      exact ⟨r, rfl, by omega⟩
theorem in_same (k : Nat) (a b c : Int) : impl_in k a b c = spec_l1In k a b c := rfl
theorem validSend_same_l (xs : List DItem) (b : Int) : ∀ (k : Nat) (j : Int), impl_ValidSend_l4 k xs (xs.length : Int) j = spec_ValidSend_l4 k j b xs
  | 0, _ => rfl
  | k + 1, j => by simp only [impl_ValidSend_l4, spec_ValidSend_l4, validSend_same_l xs b k, in_same]
theorem validSend_same (k : Nat) (s : DSend) : impl_ValidSend k s = spec_ValidSend k s := by
  simp only [impl_ValidSend, spec_ValidSend, in_same, validSend_same_l s.Items s.Base]
end Km.X
