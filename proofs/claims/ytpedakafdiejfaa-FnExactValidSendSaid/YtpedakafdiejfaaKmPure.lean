/- A part of the proof: an abstract machine over the program (sound by its theorems), or definitions printed by it. There is no condition. -/
import Derived.Test.YtpedakafdiejfaaKmTab
import Derived.IntWalk
namespace Km
open Go
theorem sadd_ok {x y : ByteArray} (h : x.size + y.size ≤ 140737488355328) : sadd x y = some (x ++ y) := by simp [sadd, h]
theorem app_ok {α : Type} {b : Nat} {xs ys : List α} (h : (xs.length + ys.length) * b ≤ 140737488355328) : app b xs ys = some (xs ++ ys) := by simp [app, h]
theorem wnd_ok {n : Nat} {lo hi : Int} (h : 0 ≤ lo ∧ lo ≤ hi ∧ hi ≤ n) : wnd n lo hi = some (lo.toNat, hi.toNat) := by simp [wnd, h]
theorem idx_nat {α : Type} (xs : List α) (i : Nat) : idx xs (i : Int) = xs[i]? := by
  unfold idx
  rw [if_neg (by omega)]; simp
theorem idx_at {α : Type} {xs : List α} {i : Nat} (h : i < xs.length) : idx xs (i : Int) = some xs[i] := by rw [idx_nat]; exact List.getElem?_eq_getElem h
theorem qrem_ok {a b : Int} (h : b ≠ 0) : qrem a b = some (a.tmod b) := by simp [qrem, h]
theorem qdiv_ok {a b : Int} (h : b ≠ 0) : qdiv a b = some (a.tdiv b) := by simp [qdiv, h]
theorem w64 {n : Int} (h : -9223372036854775808 ≤ n ∧ n ≤ 9223372036854775807) : IntKind.wrap .i64 n = n := by rw [IntKind.wrap_i64]; omega
theorem ba_size_append (x y : ByteArray) : (x ++ y).size = x.size + y.size := by simp
theorem bstr_size (bs : List Int) : (bstr bs).size = bs.length := by
  have : ∀ (bs : List Int) (s : ByteArray), (bs.foldl (fun r n => r.push (UInt8.ofNat n.toNat)) s).size = s.size + bs.length := by
    intro bs
    induction bs with
    | nil => intro s; simp
    | cons b bs ih => intro s; simp only [List.foldl_cons, ih, ByteArray.size_push, List.length_cons]; omega
  unfold bstr; rw [this]; simp
end Km
