/- A part of the proof: an abstract machine over the program (sound by its theorems), or definitions printed by it. There is no condition. -/
import Derived.Test.YtpedakafdiejfaaKmXSend2
namespace Km.X
open Go Km
set_option linter.unusedVariables false
set_option linter.unusedSimpArgs false
theorem l1In_some (k : Nat) (a b c : Int) : ∃ r, spec_l1In k a b c = some r := by
  unfold spec_l1In; split <;> exact ⟨_, rfl⟩
theorem validSend_l (xs : List DItem) (b : Int) (hx : xs.length ≤ 10 ^ 15) : ∀ (d j k : Nat), j + d = xs.length → d + 1 ≤ k → ∃ r, spec_ValidSend_l4 k (j : Int) b xs = some r
  | 0, j, k, h, hk => by
    obtain ⟨k, rfl⟩ : ∃ j, k = j + 1 := ⟨k - 1, by omega⟩
    simp only [spec_ValidSend_l4]
    rw [show decide ((j : Int) < (xs.length : Int)) = false by simp; omega]
    exact ⟨_, rfl⟩
  | d + 1, j, k, h, hk => by
    obtain ⟨k, rfl⟩ : ∃ j, k = j + 1 := ⟨k - 1, by omega⟩
    simp only [spec_ValidSend_l4]
    rw [show decide ((j : Int) < (xs.length : Int)) = true by simp; omega]
    dsimp only
    have hlt : j < xs.length := by omega
    rw [idx_at hlt]; dsimp only [Option.bind_some]
    obtain ⟨r, hr⟩ := validSend_l xs b hx d (j + 1) k (by omega) (by omega)
    obtain ⟨q, hq⟩ := l1In_some k xs[j].Since (-1) 3
    rw [w64 (n := (j : Int) + 1) (by omega), show (j : Int) + 1 = ((j + 1 : Nat) : Int) by omega, hr, hq]
    dsimp only [Option.bind_some]
    repeat' (first | exact ⟨_, rfl⟩ | split)
theorem validSend_some (s : DSend) (hx : s.Items.length ≤ 10 ^ 15) {k : Nat} (hk : s.Items.length + 1 ≤ k) : ∃ r, spec_ValidSend k s = some r := by
  unfold spec_ValidSend
  obtain ⟨r, hr⟩ := validSend_l s.Items s.Base hx s.Items.length 0 k (by omega) hk
  obtain ⟨q, hq⟩ := l1In_some k s.Base 0 1000000
  rw [show (0 : Int) = ((0 : Nat) : Int) from rfl] at *
  rw [hr, hq]
  dsimp only [Option.bind_some]
  repeat' (first | exact ⟨_, rfl⟩ | split)
theorem eqSend_refl (s : DSend) (hx : s.Items.length < 10 ^ 17) {k : Nat} (hk : s.Items.length + 1 ≤ k) : laws_eqSend k s s = some true := by
  unfold laws_eqSend
  rw [eqItemS_refl s.Items hx hk]
  simp
theorem exact_FnExactValidSend (a : DSend) (h : wfDSend a) : ∃ k, laws_FnExactValidSend k a = some true := by
  refine ⟨2000000, ?_⟩
  obtain ⟨r, h1, h2⟩ := szSend_ok a h (k := 2000000) (by omega)
  unfold laws_FnExactValidSend
  rw [h1]; dsimp only [Option.bind_some]
  by_cases hr : r < 0
  · rw [show decide (r < 0) = true by simpa using hr]
  · rw [show decide (r < 0) = false by simpa using hr]
    have hl := h2 (by omega)
    dsimp only
    rw [toSend_id a (by omega) (by omega)]; dsimp only [Option.bind_some]
    obtain ⟨q, hq⟩ := validSend_some a (by omega) (k := 2000000) (by omega)
    rw [validSend_same, hq]; dsimp only [Option.bind_some]
    rw [eqSend_refl a (by omega) (by omega)]
    simp
end Km.X
