/- A part of the proof of FnExactNewWorld: plain laws of these functions. There is no condition. -/
import Derived.Test.YthafpbpfnkncmaaKyPureExactNewWorld2
import Derived.Test.YthafpbpfnkncmaaKxDef2
namespace Km.X
open Go Km
set_option linter.unusedVariables false
set_option linter.unusedSimpArgs false
set_option maxRecDepth 10000
/-! ### two ends marked, and none -/
def nwMk : List DEnd := [⟨1, false, 3, 4, 5, true, ⟨7, []⟩, ⟨8, [], ⟨#[109, 57]⟩, []⟩⟩, ⟨10, false, 12, 13, 14, true, ⟨16, []⟩, ⟨17, [], ⟨#[109, 49, 56]⟩, []⟩⟩]
theorem Wp.of_fuel {R : Type} {f : Nat → Option R} {r : R} (N : Nat) (h : ∀ n, f (n + N) = some r) : Wp f (· = r) :=
  ⟨r, rfl, N, fun n hn => by have := h (n - N); rwa [Nat.sub_add_cancel hn] at this⟩
theorem nw_mark : Wp (fun k => laws_markEndS k [newM 1, newM 2] 1) (· = (19, nwMk)) := Wp.of_fuel 40 (fun n => by kernel_rfl)
theorem nw_held : Wp (fun k => laws_heldEndS k nwMk 1) (· = 19) := Wp.of_fuel 40 (fun n => by kernel_rfl)
theorem nw_par (b : Int) : Wp (fun k => laws_markParcelS k [] b) (· = (b, [])) := Wp.of_fuel 5 (fun n => by kernel_rfl)
theorem nw_rec (b : Int) : Wp (fun k => laws_markRecordS k [] b) (· = (b, [])) := Wp.of_fuel 5 (fun n => by kernel_rfl)
theorem nw_parh (b : Int) : Wp (fun k => laws_heldParcelS k [] b) (· = b) := Wp.of_fuel 5 (fun n => by kernel_rfl)
theorem nw_rech (b : Int) : Wp (fun k => laws_heldRecordS k [] b) (· = b) := Wp.of_fuel 5 (fun n => by kernel_rfl)
theorem nw_markN : Wp (fun k => laws_markEndS k [] 1) (· = (1, [])) := Wp.of_fuel 5 (fun n => by kernel_rfl)
theorem nw_heldN : Wp (fun k => laws_heldEndS k [] 1) (· = 1) := Wp.of_fuel 5 (fun n => by kernel_rfl)
theorem nw_sm (b : ByteArray) (wd : Int) (hb : b.size ≤ 1048576) : smWorld (newW b wd) := by
  unfold newW
  split
  · exact ⟨by dsimp only; omega, ⟨by simp, fun y hy => by
      simp only [List.mem_cons, List.not_mem_nil, or_false] at hy
      rcases hy with rfl | rfl <;> exact newM_sm _⟩, ⟨by simp, fun y hy => by cases hy⟩, by simp [noB_size], ⟨by simp, fun y hy => by cases hy⟩, ⟨by simp, fun y hy => by cases hy⟩⟩
  · exact ⟨by simp [noWorld, noB_size], ⟨by simp [noWorld], fun y hy => by cases hy⟩, ⟨by simp [noWorld], fun y hy => by cases hy⟩, by simp [noWorld, noB_size], ⟨by simp [noWorld], fun y hy => by cases hy⟩, ⟨by simp [noWorld], fun y hy => by cases hy⟩⟩
theorem exact_FnExactNewWorld (b : ByteArray) (wd : Int) (h0 : b.size ≤ maxLen) (h1 : wf_int wd) : ∃ k, laws_FnExactNewWorld k b wd = some true := by
  refine Wp.exists ?_
  unfold laws_FnExactNewWorld
  refine Wp.dec (fun _ => Wp.ret rfl) (fun hs => ?_)
  refine Wp.bind (specNewW_ok b wd) (fun _ e => ?_); subst e
  refine Wp.bind (implNewW_ok b wd) (fun _ e => ?_); subst e
  have hq := eqWorld_ok _ (nw_sm b wd (by omega))
  refine Wp.bind hq (fun _ e => ?_); subst e
  simp only [Bool.not_true, cond_false]
  have key : ∃ K L, Wp (fun k => laws_markWorld k (newW b wd) 1) (· = (K, L, [], [], [])) ∧ 0 ≤ K ∧ ∀ ky w f, Wp (fun k => laws_heldWorld k (⟨ky, w, L, [], f, [], []⟩ : DWorld) 1) (· = K) := by
    have mk : ∀ w : DWorld, w.Flight = [] → w.Given = [] → w.Taken = [] → ∀ (K : Int) L, 0 ≤ K → Wp (fun k => laws_markEndS k w.Ends 1) (· = (K, L)) → Wp (fun k => laws_heldEndS k L 1) (· = K) → ∃ K L, Wp (fun k => laws_markWorld k w 1) (· = (K, L, [], [], [])) ∧ 0 ≤ K ∧ ∀ ky v f, Wp (fun k => laws_heldWorld k (⟨ky, v, L, [], f, [], []⟩ : DWorld) 1) (· = K) := fun w f1 f2 f3 K L hK hm hh => by
      refine ⟨K, L, ?_, hK, fun ky v f => ?_⟩
      · unfold laws_markWorld
        rw [f1, f2, f3]
        refine Wp.bind hm (fun _ e => ?_); subst e
        refine Wp.bind (nw_par K) (fun _ e => ?_); subst e
        refine Wp.bind (nw_rec K) (fun _ e => ?_); subst e
        refine Wp.bind (nw_rec K) (fun _ e => ?_); subst e
        exact Wp.ret rfl
      · unfold laws_heldWorld
        refine Wp.bind hh (fun _ e => ?_); subst e
        refine Wp.dec (fun g => by omega) (fun _ => ?_)
        refine Wp.bind (nw_parh _) (fun _ e => ?_); subst e
        refine Wp.dec (fun g => by omega) (fun _ => ?_)
        refine Wp.bind (nw_rech _) (fun _ e => ?_); subst e
        refine Wp.dec (fun g => by omega) (fun _ => ?_)
        refine Wp.bind (nw_rech _) (fun _ e => ?_); subst e
        exact Wp.dec (fun g => by omega) (fun _ => Wp.ret rfl)
    unfold newW
    split
    · exact mk _ rfl rfl rfl 19 nwMk (by omega) nw_mark nw_held
    · exact mk _ rfl rfl rfl 1 [] (by omega) nw_markN nw_heldN
  obtain ⟨K, L, k1, k2, k3⟩ := key
  refine Wp.bind k1 (fun _ e => ?_); subst e
  refine Wp.bind (k3 _ _ _) (fun _ e => ?_); subst e
  refine Wp.dec (fun g => by omega) (fun _ => ?_)
  simp only [cbne, if_true]
  refine Wp.bind (implNewW_ok b wd) (fun _ e => ?_); subst e
  refine Wp.bind hq (fun _ e => ?_); subst e
  simp only [Bool.not_true, cond_false]
  refine Wp.bind (k3 _ _ _) (fun _ e => ?_); subst e
  refine Wp.dec (fun g => by omega) (fun _ => ?_)
  simp only [cbne, if_true]
  exact Wp.ret rfl
end Km.X
