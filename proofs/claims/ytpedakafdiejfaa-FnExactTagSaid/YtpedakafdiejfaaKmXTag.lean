/- A part of the proof: an abstract machine over the program (sound by its theorems), or definitions printed by it. There is no condition. -/
import Derived.Test.YtpedakafdiejfaaKmXFn
import Derived.Test.YtpedakafdiejfaaKmPure
namespace Km.X
open Go Km
set_option linter.unusedVariables false
set_option linter.unusedSimpArgs false

theorem bstr_fold (bs : List Int) : ∀ (s : ByteArray), bs.foldl (fun r n => r.push (UInt8.ofNat n.toNat)) s = s ++ bstr bs := by
  induction bs with
  | nil => intro s; simp [bstr]
  | cons b bs ih =>
    intro s
    simp only [List.foldl_cons, bstr]
    rw [ih, ih]
    apply ByteArray.ext; apply Array.ext'
    simp
theorem bstr_cons (b : Int) (bs : List Int) : bstr [b] ++ bstr bs = bstr (b :: bs) := by
  have := bstr_fold bs (bstr [b])
  rw [← this]; rfl

/-- the w lowest bytes, the highest first -/
def bytesL : Nat → Nat → List Int
  | 0, _ => []
  | w + 1, n => bytesL w (n / 256) ++ [((n % 256 : Nat) : Int)]
theorem bytesL_length : ∀ (w n : Nat), (bytesL w n).length = w
  | 0, _ => rfl
  | w + 1, n => by simp [bytesL, bytesL_length w]
theorem bytesL_drop (d : Nat) : ∀ (w n : Nat), (bytesL (w + d) n).drop d = bytesL w n
  | 0, n => by
    rw [Nat.zero_add, List.drop_eq_nil_of_le (by rw [bytesL_length]; exact Nat.le_refl _)]; rfl
  | w + 1, n => by
    rw [show w + 1 + d = (w + d) + 1 by omega]
    simp only [bytesL]
    rw [List.drop_append_of_le_length (by rw [bytesL_length]; omega), bytesL_drop d w]

theorem wu8 (n : Nat) : IntKind.wrap .u8 (n : Int) = ((n % 256 : Nat) : Int) := by rw [IntKind.wrap_u8]; omega
theorem wu64 {n : Int} (h : 0 ≤ n ∧ n ≤ 18446744073709551615) : IntKind.wrap .u64 n = n := IntWalk.u64_in n h
theorem wu64_range (n : Int) : 0 ≤ IntKind.wrap .u64 n ∧ IntKind.wrap .u64 n ≤ 18446744073709551615 := by
  simp only [IntKind.wrap, IntKind.signed, IntKind.bits, Bool.false_and]
  rw [if_neg (by simp)]; omega

theorem specTag_l11 : ∀ (d w i n : Nat) (tail : List Int) (k : Nat), i + d = w → w ≤ 8 → n ≤ 18446744073709551615 → tail.length + d ≤ 100 → d + 1 ≤ k →
    spec_Tag_l11 k (w : Int) (n : Int) (bstr tail) (i : Int) = some (bstr (bytesL d n ++ tail))
  | 0, w, i, n, tail, k, h, hw, hn, ht, hk => by
    obtain ⟨k, rfl⟩ : ∃ j, k = j + 1 := ⟨k - 1, by omega⟩
    simp only [spec_Tag_l11]
    rw [show decide ((i : Int) < (w : Int)) = false by simp; omega]
    rfl
  | d + 1, w, i, n, tail, k, h, hw, hn, ht, hk => by
    obtain ⟨k, rfl⟩ : ∃ j, k = j + 1 := ⟨k - 1, by omega⟩
    simp only [spec_Tag_l11]
    rw [show decide ((i : Int) < (w : Int)) = true by simp; omega]
    dsimp only
    rw [qrem_ok (by omega)]; dsimp only [Option.bind_some]
    rw [show (n : Int).tmod 256 = ((n % 256 : Nat) : Int) by rw [Int.tmod_eq_emod_of_nonneg (by omega)]; simp, wu8, Nat.mod_mod]
    rw [sadd_ok (by rw [bstr_size, bstr_size]; simp; omega), bstr_cons]; dsimp only [Option.bind_some]
    rw [qdiv_ok (by omega)]; dsimp only [Option.bind_some]
    rw [show (n : Int).tdiv 256 = ((n / 256 : Nat) : Int) by rw [Int.tdiv_eq_ediv_of_nonneg (by omega)]; simp]
    rw [wu64 (n := ((n / 256 : Nat) : Int)) (by omega), w64 (n := (i : Int) + 1) (by omega), show (i : Int) + 1 = ((i + 1 : Nat) : Int) by omega]
    rw [specTag_l11 d w (i + 1) (n / 256) (((n % 256 : Nat) : Int) :: tail) k (by omega) hw (by omega) (by simp; omega) (by omega)]
    simp [bytesL]

theorem implTag_l11 : ∀ (d w n : Nat) (b : List Int) (k : Nat), b.length = 8 → d ≤ 8 → 1 ≤ w → w ≤ 8 → n ≤ 18446744073709551615 → d + 1 ≤ k →
    impl_Tag_l11 k (w : Int) (n : Int) ((d : Int) - 1) b = some (bstr ((bytesL d n ++ b.drop d).drop (8 - w)))
  | 0, w, n, b, k, hb, hd, hw1, hw, hn, hk => by
    obtain ⟨k, rfl⟩ : ∃ j, k = j + 1 := ⟨k - 1, by omega⟩
    simp only [impl_Tag_l11]
    rw [show decide (((0 : Nat) : Int) - 1 ≥ 0) = false by simp]
    dsimp only
    rw [if_pos hb, w64 (n := 8 - (w : Int)) (by omega), wnd_ok (by omega)]
    simp only [Option.bind_some, bytesL, List.nil_append, List.drop_zero, dcut]
    rw [show ((8 : Int) - (w : Int)).toNat = 8 - w by omega, show Int.toNat 8 = 8 from rfl, List.take_of_length_le (by omega)]
  | d + 1, w, n, b, k, hb, hd, hw1, hw, hn, hk => by
    obtain ⟨k, rfl⟩ : ∃ j, k = j + 1 := ⟨k - 1, by omega⟩
    simp only [impl_Tag_l11]
    rw [show ((d + 1 : Nat) : Int) - 1 = (d : Int) by omega]
    rw [show decide ((d : Int) ≥ 0) = true by simp]
    dsimp only
    have hlt : d < b.length := by omega
    rw [if_pos hb, idx_at hlt]; dsimp only [Option.bind_some]
    rw [Int.toNat_natCast, List.getElem?_eq_getElem hlt]; dsimp only [Option.bind_some]
    have hs : shift .shr .u64 (n : Int) 8 = some ((n / 256 : Nat) : Int) := by
      simp only [shift]
      rw [if_neg (by omega)]
      congr 1
      show (n : Int).fdiv (2 ^ (min 8 64)) = _
      rw [Int.fdiv_eq_ediv_of_nonneg _ (by simp)]
      simp
    rw [hs]; dsimp only [Option.bind_some]
    rw [w64 (n := (d : Int) - 1) (by omega), wu8]
    rw [implTag_l11 d w (n / 256) _ k (by simpa using hb) (by omega) hw1 hw (by omega) (by omega)]
    congr 3
    simp only [bytesL, List.append_assoc, List.cons_append, List.nil_append]
    congr 1
    rw [List.drop_eq_getElem_cons (by simpa using hlt), List.drop_set_of_lt (by omega)]
    simp

/-- both hash the same -/
theorem tag_l6 (all : ByteArray) (w : Int) : ∀ (d i : Nat) (v : Int), i + d = all.size → all.size ≤ 10000000 → 0 ≤ v ∧ v ≤ 18446744073709551615 → ∃ v' : Nat, v' ≤ 18446744073709551615 ∧ ∀ k,
    spec_Tag_l6 (k + d + 1) w all v (i : Int) = spec_Tag_l11 k w (v' : Int) (bstr []) ((0 : Nat) : Int) ∧ impl_Tag_l6 (k + d + 1) w v all (i : Int) = impl_Tag_l11 k w (v' : Int) (((8 : Nat) : Int) - 1) (List.replicate 8 0)
  | 0, i, v, h, hs, hv => by
    refine ⟨v.toNat, by omega, fun k => ?_⟩
    simp only [Nat.add_zero, spec_Tag_l6, impl_Tag_l6]
    rw [show decide ((i : Int) < (all.size : Int)) = false by simp; omega, show ((v.toNat : Nat) : Int) = v by omega]
    exact ⟨rfl, rfl⟩
  | d + 1, i, v, h, hs, hv => by
    have hlt : i < all.size := by omega
    have hb : bidx all (i : Int) = some all[i] := by
      unfold bidx
      rw [if_neg (by omega)]; simp [hlt]
    obtain ⟨v', h1, h2⟩ := tag_l6 all w d (i + 1) (IntKind.wrap .u64 ((bitsXor .u64 v (IntKind.wrap .u64 (all[i].toNat : Int))) * 1099511628211)) (by omega) hs (wu64_range _)
    refine ⟨v', h1, fun k => ?_⟩
    have := h2 k
    rw [show k + (d + 1) + 1 = (k + d + 1) + 1 by omega]
    simp only [spec_Tag_l6, impl_Tag_l6]
    rw [show decide ((i : Int) < (all.size : Int)) = true by simp; omega]
    dsimp only
    rw [hb]; dsimp only [Option.bind_some]
    rw [w64 (n := (i : Int) + 1) (by omega), show (i : Int) + 1 = ((i + 1 : Nat) : Int) by omega]
    exact this

theorem tag_same (a b : ByteArray) (w : Int) (ha : a.size ≤ 1048576) (hb : b.size ≤ 1048576) : ∃ s, spec_Tag 3000000 a b w = some s ∧ impl_Tag 3000000 a b w = some s := by
  unfold spec_Tag impl_Tag spec_l1In
  by_cases h1 : w < 1
  · refine ⟨⟨#[]⟩, ?_, ?_⟩
    · rw [show decide (w ≥ 1) = false by simp; omega]; rfl
    · rw [show decide (w < 1) = true by simp; omega]
  · by_cases h2 : w > 8
    · refine ⟨⟨#[]⟩, ?_, ?_⟩
      · rw [show decide (w ≥ 1) = true by simp; omega, show decide (w ≤ 8) = false by simp; omega]; rfl
      · rw [show decide (w < 1) = false by simp; omega, show decide (w > 8) = true by simp; omega]
    · rw [show decide (w ≥ 1) = true by simp; omega, show decide (w ≤ 8) = true by simp; omega, show decide (w < 1) = false by simp; omega, show decide (w > 8) = false by simp; omega]
      simp only [Option.bind_some, Bool.not_true]
      by_cases h3 : (b.size : Int) > 30
      · rw [show decide ((b.size : Int) > 30) = true by simpa using h3]
        exact ⟨_, rfl, rfl⟩
      · rw [show decide ((b.size : Int) > 30) = false by simpa using h3]
        dsimp only
        have e0 : (⟨#[0]⟩ : ByteArray).size = 1 := rfl
        rw [sadd_ok (by rw [e0]; omega)]; simp only [Option.bind_some]
        rw [sadd_ok (by rw [ba_size_append, e0]; omega)]; simp only [Option.bind_some]
        have hsz : (b ++ ⟨#[0]⟩ ++ a).size = b.size + 1 + a.size := by rw [ba_size_append, ba_size_append, e0]
        generalize b ++ ⟨#[0]⟩ ++ a = all at hsz ⊢
        obtain ⟨v', hv, h⟩ := tag_l6 all w all.size 0 14695981039346656037 (by omega) (by omega) (by omega)
        obtain ⟨k, hk⟩ : ∃ k, 3000000 = k + all.size + 1 := ⟨3000000 - all.size - 1, by omega⟩
        have hk' : 100 ≤ k := by omega
        obtain ⟨g1, g2⟩ := h k
        rw [← hk] at g1 g2
        rw [show (0 : Int) = ((0 : Nat) : Int) from rfl, g1, g2]
        obtain ⟨n, rfl⟩ : ∃ n : Nat, w = n := ⟨w.toNat, by omega⟩
        refine ⟨bstr (bytesL n v' ++ []), specTag_l11 n n 0 v' [] k (by omega) (by omega) hv (by simp; omega) (by omega), ?_⟩
        rw [implTag_l11 8 n v' (List.replicate 8 0) k (by simp) (by omega) (by omega) (by omega) hv (by omega)]
        congr 2
        have := bytesL_drop (8 - n) n v'
        rw [show n + (8 - n) = 8 by omega] at this
        simp [this]

theorem exactTag (a b : ByteArray) (w : Int) : laws_FnExactTag 3000000 a b w = some true := by
  unfold laws_FnExactTag
  by_cases h1 : (a.size : Int) > 1048576
  · rw [show decide ((a.size : Int) > 1048576) = true by simpa using h1]
  · rw [show decide ((a.size : Int) > 1048576) = false by simpa using h1]
    by_cases h2 : (b.size : Int) > 1048576
    · rw [show decide ((b.size : Int) > 1048576) = true by simpa using h2]
    · rw [show decide ((b.size : Int) > 1048576) = false by simpa using h2]
      obtain ⟨s, e1, e2⟩ := tag_same a b w (by omega) (by omega)
      rw [e1, e2]
      simp
end Km.X
