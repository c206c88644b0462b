import Derived.Test.YthafpbpfnkncmaaKyPureExactNewWorld3
import Derived.Test.YthafpbpfnkncmaaKmSeat
import Derived.Test.YthafpbpfnkncmaaKmFnExactNewWorld
import Derived.Test.YthafpbpfnkncmaaRows
import Derived.WalkKit
import Derived.ProofKit
import Derived.OpenShut
import Derived.ShutString
import Derived.ChangeOld
import Derived.Carry
import Derived.Below
import Derived.SizedLaws
/- The law FnExactNewWorld returns true for all arguments. There is no condition. -/
namespace Go.Proofs.Ythafpbpfnkncmaa.fnExactNewWorld
open Go.ChangeShapes Go.WideShapes Go.ChangeAt Go.RowKit
open Go.ChangeMaps (open_string shut_string)
set_option linter.unusedVariables false
set_option linter.unusedSimpArgs false
theorem own : ownKnob Try.prog.godebug = none := by kernel_rfl
theorem laidOut : laidOutB Try.prog = true := by kernel_rfl
set_option maxRecDepth 100000 in
theorem lifted (os : Os) (started : os.Started) (H : Type) (enc : TypeId × Value → H) :
    ReturnsInHanded {} Try.checked os 6 .any (Rows.fnExactNewWorldSpec.pre6 enc Try.prog Try.f6 Rows.fnExactNewWorldRow.domain false) (Rows.fnExactNewWorldSpec.post enc Try.prog Try.f6 false true false false) := by
  refine returnsInHanded_of_change_sized (C := Try.checked) own started (by kernel_rfl) Try.func6
    (ChangeSpec.witness6 (enc := enc) (C := Try.checked) false ⟨#[], #[.string ByteArray.empty, .int .i64 0], []⟩ 8 (by kernel_rfl) (by kernel_rfl) (by kernel_rfl) (by kernel_rfl)) ?_
  intro W base args ds gs before hval0 hW hcnd hsz0 _
  have hval : ∀ (j : Nat) t v, Try.f6.params[j]? = some t → args[j]? = some v → Value.okWide Try.prog W .any base t v := hval0
  have hW' := hW
  obtain ⟨p, q, hA0, hV, rfl, hfz, hnd⟩ := hW
  have hA : DataW.TrodAll enc Try.prog W 0 (fun _ => true) true Try.f6.params.toList args.toList ds p := hA0
  rw [Try.params6] at hA hval
  obtain ⟨v0, vs0, d0, ds0, p0, q0, hargs, rfl, rfl, h0, r0⟩ := trodAll_cons hA
  obtain ⟨v1, vs1, d1, ds1, p1, q1, rfl, rfl, rfl, h1, r1⟩ := trodAll_cons r0
  obtain ⟨rfl, rfl, rfl⟩ := trodAll_nil r1
  obtain rfl : args = #[v0, v1] := by cases args; simp_all
  obtain ⟨rfl, rfl⟩ := trodVars_none hV
  have k0 := h0
  have lt0 : ∀ x ∈ p0, x.block < W.heap.size := by obtain ⟨m, hm⟩ := k0; exact DataW.trod_lt m _ _ _ hm
  obtain ⟨b0, rfl⟩ := okWide_string Try.underlying9 (hval 0 9 _ rfl rfl)
  obtain ⟨fu0, hf0⟩ := h0
  obtain ⟨av0, sh0, ce0⟩ := Km.trod_shaped (ρ := fun _ => ⟨0, 0, 0, Km.noSub⟩) Km.X.tok Km.X.codOk Km.X.fullC fu0 _ _ _ _ (rfl : Km.X.T 9 = some _) rfl hf0
  obtain ⟨x0, rfl, w0⟩ := Km.X.sh9 sh0
  have re0 := ce0.2.2 0 _ _ rfl rfl
  have k1 := h1
  have lt1 : ∀ x ∈ p1, x.block < W.heap.size := by obtain ⟨m, hm⟩ := k1; exact DataW.trod_lt m _ _ _ hm
  obtain ⟨b1, rfl⟩ := okWide_int Try.underlying3 (hval 1 3 _ rfl rfl)
  obtain ⟨fu1, hf1⟩ := h1
  obtain ⟨av1, sh1, ce1⟩ := Km.trod_shaped (ρ := fun _ => ⟨0, 0, 0, Km.noSub⟩) Km.X.tok Km.X.codOk Km.X.fullC fu1 _ _ _ _ (rfl : Km.X.T 3 = some _) rfl hf1
  obtain ⟨x1, rfl, w1⟩ := Km.X.sh3 sh1
  have re1 := ce1.2.2 0 _ _ rfl rfl
  obtain ⟨k, hk⟩ := Km.X.exact_FnExactNewWorld x0 x1 w0 w1
  refine ((Km.X.ok_laws_FnExactNewWorld k).calls (args := [.lit (.string x0), .lit (.int .i64 x1)]) (r := true) (Eq.trans (by kernel_rfl) hk) (vals := #[.string b0, .int .i64 b1]) (w := W) rfl (fun j x u hx hu => by
    match j, hx, hu with
    | 0, hx, hu => simp at hx hu; subst hx; subst hu; exact re0
    | 1, hx, hu => simp at hx hu; subst hx; subst hu; exact re1
    | (_ + 2), hx, _ => simp at hx) (v := .bool true) rfl).mono fun e W' ⟨he, bel⟩ => ?_
  subst he
  exact ⟨_, rfl, _, _, _, [], _, [], hW', trodAll_mk1 (shut_bool Try.underlying4 _), (trodAll_cons_mk (Below.trod laidOut (by kernel_rfl) (of_decide_eq_true (by kernel_rfl)) k0 bel lt0) (trodAll_cons_mk (Below.trod laidOut (by kernel_rfl) (of_decide_eq_true (by kernel_rfl)) k1 bel lt1) trodAll_mk0)), rfl, bel.frame _, fun h => by cases h⟩
theorem over : Rows.fnExactNewWorldRow.holds Try.pinned (OpenSpec.ofChange Rows.fnExactNewWorldSpec) :=
  OpenClaim.holds_of_wide 6 Try.f6 rfl rfl rfl rfl rfl rfl rfl ⟨rfl, rfl, rfl, rfl, rfl⟩ rfl rfl rfl rfl rfl (by kernel_rfl) Try.func6 (by kernel_rfl)
    (of_decide_eq_true (by kernel_rfl)) (by unfold Func.isWrapper; first | (rw [if_pos (by decide +kernel)]; kernel_rfl) | (rw [if_neg (by decide +kernel)]; exact ⟨rfl, rfl⟩))
    (fun os started H enc _ => lifted os started H enc)
theorem proved : Rows.FnExactNewWorldSaid := over
#print axioms proved
end Go.Proofs.Ythafpbpfnkncmaa.fnExactNewWorld
namespace Go.Proofs.Ythafpbpfnkncmaa
/-- The row, under a short name, for the claim. -/
theorem fnExactNewWorld_holds : Rows.FnExactNewWorldSaid := fnExactNewWorld.proved
end Go.Proofs.Ythafpbpfnkncmaa
