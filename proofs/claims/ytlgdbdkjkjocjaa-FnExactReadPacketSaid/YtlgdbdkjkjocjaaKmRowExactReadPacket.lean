import Derived.Test.YtlgdbdkjkjocjaaKyPureExactReadPacket
import Derived.Test.YtlgdbdkjkjocjaaKmSeat
import Derived.Test.YtlgdbdkjkjocjaaKmFnExactReadPacket
import Derived.Test.YtlgdbdkjkjocjaaRows
import Derived.WalkKit
import Derived.ProofKit
import Derived.OpenShut
import Derived.ShutString
import Derived.ChangeOld
import Derived.Carry
import Derived.Below
import Derived.SizedLaws
/- The law FnExactReadPacket returns true for all arguments. There is no condition. -/
namespace Go.Proofs.Ytlgdbdkjkjocjaa.fnExactReadPacket
open Go.ChangeShapes Go.WideShapes Go.ChangeAt Go.RowKit
open Go.ChangeMaps (open_string shut_string)
set_option linter.unusedVariables false
set_option linter.unusedSimpArgs false
theorem own : ownKnob Try.prog.godebug = none := by kernel_rfl
theorem laidOut : laidOutB Try.prog = true := by kernel_rfl
set_option maxRecDepth 100000 in
theorem lifted (os : Os) (started : os.Started) (H : Type) (enc : TypeId × Value → H) :
    ReturnsInHanded {} Try.checked os 5 .any (Rows.fnExactReadPacketSpec.pre6 enc Try.prog Try.f5 Rows.fnExactReadPacketRow.domain false) (Rows.fnExactReadPacketSpec.post enc Try.prog Try.f5 false true false false) := by
  refine returnsInHanded_of_change_sized (C := Try.checked) own started (by kernel_rfl) Try.func5
    (ChangeSpec.witness6 (enc := enc) (C := Try.checked) false ⟨#[], #[.string ByteArray.empty, .string ByteArray.empty, .int .i64 0], []⟩ 8 (by kernel_rfl) (by kernel_rfl) (by kernel_rfl) (by kernel_rfl)) ?_
  intro W base args ds gs before hval0 hW hcnd hsz0 _
  have hval : ∀ (j : Nat) t v, Try.f5.params[j]? = some t → args[j]? = some v → Value.okWide Try.prog W .any base t v := hval0
  have hW' := hW
  obtain ⟨p, q, hA0, hV, rfl, hfz, hnd⟩ := hW
  have hA : DataW.TrodAll enc Try.prog W 0 (fun _ => true) true Try.f5.params.toList args.toList ds p := hA0
  rw [Try.params5] at hA hval
  obtain ⟨v0, vs0, d0, ds0, p0, q0, hargs, rfl, rfl, h0, r0⟩ := trodAll_cons hA
  obtain ⟨v1, vs1, d1, ds1, p1, q1, rfl, rfl, rfl, h1, r1⟩ := trodAll_cons r0
  obtain ⟨v2, vs2, d2, ds2, p2, q2, rfl, rfl, rfl, h2, r2⟩ := trodAll_cons r1
  obtain ⟨rfl, rfl, rfl⟩ := trodAll_nil r2
  obtain rfl : args = #[v0, v1, v2] := by cases args; simp_all
  obtain ⟨rfl, rfl⟩ := trodVars_none hV
  have k0 := h0
  have lt0 : ∀ x ∈ p0, x.block < W.heap.size := by obtain ⟨m, hm⟩ := k0; exact DataW.trod_lt m _ _ _ hm
  obtain ⟨b0, rfl⟩ := okWide_string Try.underlying9 (hval 0 9 _ rfl rfl)
  obtain ⟨fu0, hf0⟩ := h0
  obtain ⟨av0, sh0, ce0⟩ := Km.trod_shaped (ρ := fun _ => ⟨0, 0, 0⟩) Km.X.tok Km.X.codOk Km.X.fullC fu0 _ _ _ _ (rfl : Km.X.T 9 = some _) rfl hf0
  obtain ⟨x0, rfl, w0⟩ := Km.X.sh9 sh0
  have re0 := ce0.2.2 0 _ _ rfl rfl
  have k1 := h1
  have lt1 : ∀ x ∈ p1, x.block < W.heap.size := by obtain ⟨m, hm⟩ := k1; exact DataW.trod_lt m _ _ _ hm
  obtain ⟨b1, rfl⟩ := okWide_string Try.underlying9 (hval 1 9 _ rfl rfl)
  obtain ⟨fu1, hf1⟩ := h1
  obtain ⟨av1, sh1, ce1⟩ := Km.trod_shaped (ρ := fun _ => ⟨0, 0, 0⟩) Km.X.tok Km.X.codOk Km.X.fullC fu1 _ _ _ _ (rfl : Km.X.T 9 = some _) rfl hf1
  obtain ⟨x1, rfl, w1⟩ := Km.X.sh9 sh1
  have re1 := ce1.2.2 0 _ _ rfl rfl
  have k2 := h2
  have lt2 : ∀ x ∈ p2, x.block < W.heap.size := by obtain ⟨m, hm⟩ := k2; exact DataW.trod_lt m _ _ _ hm
  obtain ⟨b2, rfl⟩ := okWide_int Try.underlying3 (hval 2 3 _ rfl rfl)
  obtain ⟨fu2, hf2⟩ := h2
  obtain ⟨av2, sh2, ce2⟩ := Km.trod_shaped (ρ := fun _ => ⟨0, 0, 0⟩) Km.X.tok Km.X.codOk Km.X.fullC fu2 _ _ _ _ (rfl : Km.X.T 3 = some _) rfl hf2
  obtain ⟨x2, rfl, w2⟩ := Km.X.sh3 sh2
  have re2 := ce2.2.2 0 _ _ rfl rfl
  obtain ⟨k, hk⟩ := Km.X.exact_FnExactReadPacket x0 x1 x2 w0 w1 w2
  refine ((Km.X.ok_laws_FnExactReadPacket k).calls (args := [.lit (.string x0), .lit (.string x1), .lit (.int .i64 x2)]) (r := true) hk (vals := #[.string b0, .string b1, .int .i64 b2]) (w := W) rfl (fun j x u hx hu => by
    match j, hx, hu with
    | 0, hx, hu => simp at hx hu; subst hx; subst hu; exact re0
    | 1, hx, hu => simp at hx hu; subst hx; subst hu; exact re1
    | 2, hx, hu => simp at hx hu; subst hx; subst hu; exact re2
    | (_ + 3), hx, _ => simp at hx) (v := .bool true) rfl).mono fun e W' ⟨he, bel⟩ => ?_
  subst he
  exact ⟨_, rfl, _, _, _, [], _, [], hW', trodAll_mk1 (shut_bool Try.underlying4 _), (trodAll_cons_mk (Below.trod laidOut (by kernel_rfl) (of_decide_eq_true (by kernel_rfl)) k0 bel lt0) (trodAll_cons_mk (Below.trod laidOut (by kernel_rfl) (of_decide_eq_true (by kernel_rfl)) k1 bel lt1) (trodAll_cons_mk (Below.trod laidOut (by kernel_rfl) (of_decide_eq_true (by kernel_rfl)) k2 bel lt2) trodAll_mk0))), rfl, bel.frame _, fun h => by cases h⟩
theorem over : Rows.fnExactReadPacketRow.holds Try.pinned (OpenSpec.ofChange Rows.fnExactReadPacketSpec) :=
  OpenClaim.holds_of_wide 5 Try.f5 rfl rfl rfl rfl rfl rfl rfl ⟨rfl, rfl, rfl, rfl, rfl⟩ rfl rfl rfl rfl rfl (by kernel_rfl) Try.func5 (by kernel_rfl)
    (of_decide_eq_true (by kernel_rfl)) (by unfold Func.isWrapper; first | (rw [if_pos (by decide +kernel)]; kernel_rfl) | (rw [if_neg (by decide +kernel)]; exact ⟨rfl, rfl⟩))
    (fun os started H enc _ => lifted os started H enc)
theorem proved : Rows.FnExactReadPacketSaid := over
#print axioms proved
end Go.Proofs.Ytlgdbdkjkjocjaa.fnExactReadPacket
namespace Go.Proofs.Ytlgdbdkjkjocjaa
/-- The row, under a short name, for the claim. -/
theorem fnExactReadPacket_holds : Rows.FnExactReadPacketSaid := fnExactReadPacket.proved
end Go.Proofs.Ytlgdbdkjkjocjaa
