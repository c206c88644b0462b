/- A part of the proof: an abstract machine over the program (sound by its theorems), or definitions printed by it. There is no condition. -/
import Derived.Test.YtpedakafdiejfaaKmXFn
import Derived.Test.YtpedakafdiejfaaKmXRd
import Derived.Test.YtpedakafdiejfaaKmPure
import Derived.Test.YtpedakafdiejfaaKmXCut
namespace Km.X
open Go Km
set_option linter.unusedVariables false
set_option linter.unusedSimpArgs false

theorem toItem_id (k : Nat) (x : DItem) : laws_toItem k x = some x := rfl
theorem toItemS_l (xs : List DItem) (hx : xs.length < 2 ^ 62) : ∀ (d j k : Nat) (ys : List DItem), j + d = xs.length → ys.length = xs.length → d + 1 ≤ k →
    laws_toItemS_l3 k xs (j : Int) ys = some (ys.take j ++ xs.drop j)
  | 0, j, k, ys, h, hy, hk => by
    obtain ⟨k, rfl⟩ : ∃ i, k = i + 1 := ⟨k - 1, by omega⟩
    simp only [laws_toItemS_l3]
    rw [show decide ((j : Int) < (xs.length : Int)) = false by simp; omega]
    rw [List.drop_eq_nil_of_le (by omega), List.take_of_length_le (by omega), List.append_nil]
  | d + 1, j, k, ys, h, hy, hk => by
    obtain ⟨k, rfl⟩ : ∃ i, k = i + 1 := ⟨k - 1, by omega⟩
    simp only [laws_toItemS_l3]
    rw [show decide ((j : Int) < (xs.length : Int)) = true by simp; omega]
    have hlt : j < xs.length := by omega
    have hlt2 : j < ys.length := by omega
    dsimp only
    rw [idx_at hlt]; dsimp only [Option.bind_some]
    rw [toItem_id]; dsimp only [Option.bind_some]
    rw [idx_at hlt2]; dsimp only [Option.bind_some]
    rw [Int.toNat_natCast, List.getElem?_eq_getElem hlt2]; dsimp only [Option.bind_some]
    rw [w64 (n := (j : Int) + 1) (by omega), show (j : Int) + 1 = ((j + 1 : Nat) : Int) by omega]
    rw [toItemS_l xs hx d (j + 1) k _ (by omega) (by simpa using hy) (by omega)]
    congr 1
    rw [List.take_add_one, List.getElem?_set_self hlt2, List.take_set, List.set_eq_of_length_le (by simp; omega), List.drop_eq_getElem_cons hlt]
    simp
theorem toItemS_id (xs : List DItem) (hx : xs.length * 40 ≤ 140737488355328) {k : Nat} (hk : xs.length + 1 ≤ k) : laws_toItemS k xs = some xs := by
  unfold laws_toItemS
  rw [if_pos rfl]
  have : room 40 (xs.length : Int) = some xs.length := by
    unfold room
    rw [if_pos (by omega)]; simp
  rw [this]; dsimp only [Option.bind_some]
  have := toItemS_l xs (by omega) xs.length 0 k (List.replicate xs.length ⟨⟨⟨#[]⟩, false⟩, false, 0⟩) (by omega) (by simp) hk
  simpa using this
theorem toSend_id (s : DSend) (hx : s.Items.length * 40 ≤ 140737488355328) {k : Nat} (hk : s.Items.length + 1 ≤ k) : laws_toSend k s = some s := by
  unfold laws_toSend
  rw [toItemS_id s.Items hx hk]; rfl
theorem eqItem_refl (k : Nat) (x : DItem) : laws_eqItem k x x = some true := by simp [laws_eqItem, eqPart_refl]
theorem eqItemS_l (xs : List DItem) (hx : xs.length < 10 ^ 17) : ∀ (d j k : Nat), j + d = xs.length → d + 1 ≤ k → laws_eqItemS_l4 k xs xs (j : Int) = some true
  | 0, j, k, h, hk => by
    obtain ⟨k, rfl⟩ : ∃ j, k = j + 1 := ⟨k - 1, by omega⟩
    simp only [laws_eqItemS_l4]
    rw [show decide ((j : Int) < (xs.length : Int)) = false by simp; omega]
  | d + 1, j, k, h, hk => by
    obtain ⟨k, rfl⟩ : ∃ j, k = j + 1 := ⟨k - 1, by omega⟩
    simp only [laws_eqItemS_l4]
    rw [show decide ((j : Int) < (xs.length : Int)) = true by simp; omega]
    dsimp only
    have hlt : j < xs.length := by omega
    rw [idx_at hlt]; dsimp only [Option.bind_some]
    rw [eqItem_refl]; simp only [Option.bind_some, Bool.not_true]
    rw [w64 (n := (j : Int) + 1) (by omega)]
    exact eqItemS_l xs hx d (j + 1) k (by omega) (by omega)
theorem eqItemS_refl (xs : List DItem) (hx : xs.length < 10 ^ 17) {k : Nat} (hk : xs.length + 1 ≤ k) : laws_eqItemS k xs xs = some true := by
  unfold laws_eqItemS
  simp only [bne_self_eq_false]
  exact eqItemS_l xs hx xs.length 0 k (by omega) hk
end Km.X
