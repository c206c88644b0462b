import Derived.Test.YtnhnpggoknepfaaKyPureExactEndTake
import Derived.Test.YtnhnpggoknepfaaKmSeat
import Derived.Test.YtnhnpggoknepfaaKmFnExactEndTake
import Derived.Test.YtnhnpggoknepfaaRows
import Derived.WalkKit
import Derived.ProofKit
import Derived.OpenShut
import Derived.ShutString
import Derived.ChangeOld
import Derived.Carry
import Derived.Below
import Derived.SizedLaws
/- The law FnExactEndTake returns true for all arguments. There is no condition. -/
namespace Go.Proofs.Ytnhnpggoknepfaa.fnExactEndTake
open Go.ChangeShapes Go.WideShapes Go.ChangeAt Go.RowKit
open Go.ChangeMaps (open_string shut_string)
set_option linter.unusedVariables false
set_option linter.unusedSimpArgs false
theorem own : ownKnob Try.prog.godebug = none := by kernel_rfl
theorem laidOut : laidOutB Try.prog = true := by kernel_rfl
set_option maxRecDepth 100000 in
theorem lifted (os : Os) (started : os.Started) (H : Type) (enc : TypeId × Value → H) :
    ReturnsInHanded {} Try.checked os 3 .any (Rows.fnExactEndTakeSpec.pre6 enc Try.prog Try.f3 Rows.fnExactEndTakeRow.domain false) (Rows.fnExactEndTakeSpec.post enc Try.prog Try.f3 false true false false) := by
  refine returnsInHanded_of_change_sized (C := Try.checked) own started (by kernel_rfl) Try.func3
    (ChangeSpec.witness6 (enc := enc) (C := Try.checked) false ⟨#[], #[.agg #[.int .i64 0, .bool false, .int .i64 0, .int .i64 0, .int .i64 0, .bool false, .int .i64 0, .slice none 0 0, .int .i64 0, .slice none 0 0, .string ByteArray.empty, .slice none 0 0], .agg #[.int .i64 0, .int .i64 0, .int .i64 0, .int .i64 0, .int .i64 0, .int .i64 0, .int .i64 0, .bool false, .string ByteArray.empty]], []⟩ 8 (by kernel_rfl) (by kernel_rfl) (by kernel_rfl) (by kernel_rfl)) ?_
  intro W base args ds gs before hval0 hW hcnd hsz0 _
  have hval : ∀ (j : Nat) t v, Try.f3.params[j]? = some t → args[j]? = some v → Value.okWide Try.prog W .any base t v := hval0
  have hW' := hW
  obtain ⟨p, q, hA0, hV, rfl, hfz, hnd⟩ := hW
  have hA : DataW.TrodAll enc Try.prog W 0 (fun _ => true) true Try.f3.params.toList args.toList ds p := hA0
  rw [Try.params3] at hA hval
  obtain ⟨v0, vs0, d0, ds0, p0, q0, hargs, rfl, rfl, h0, r0⟩ := trodAll_cons hA
  obtain ⟨v1, vs1, d1, ds1, p1, q1, rfl, rfl, rfl, h1, r1⟩ := trodAll_cons r0
  obtain ⟨rfl, rfl, rfl⟩ := trodAll_nil r1
  obtain rfl : args = #[v0, v1] := by cases args; simp_all
  obtain ⟨rfl, rfl⟩ := trodVars_none hV
  have k0 := h0
  have lt0 : ∀ x ∈ p0, x.block < W.heap.size := by obtain ⟨m, hm⟩ := k0; exact DataW.trod_lt m _ _ _ hm
  obtain ⟨b0, rfl, _⟩ := okWide_struct Try.underlying30 (hval 0 30 _ rfl rfl)
  obtain ⟨fu0, hf0⟩ := h0
  obtain ⟨av0, sh0, ce0⟩ := Km.trod_shaped (ρ := fun _ => ⟨0, 0, 0⟩) Km.X.tok Km.X.codOk Km.X.fullC fu0 _ _ _ _ (rfl : Km.X.T 30 = some _) rfl hf0
  obtain ⟨x0, rfl, w0⟩ := Km.X.sh30 sh0
  have re0 := ce0.agg
  rw [show (Value.agg b0).cells.toList.toArray = b0 by simp [Value.cells]] at re0
  have k1 := h1
  have lt1 : ∀ x ∈ p1, x.block < W.heap.size := by obtain ⟨m, hm⟩ := k1; exact DataW.trod_lt m _ _ _ hm
  obtain ⟨b1, rfl, _⟩ := okWide_struct Try.underlying32 (hval 1 32 _ rfl rfl)
  obtain ⟨fu1, hf1⟩ := h1
  obtain ⟨av1, sh1, ce1⟩ := Km.trod_shaped (ρ := fun _ => ⟨0, 0, 0⟩) Km.X.tok Km.X.codOk Km.X.fullC fu1 _ _ _ _ (rfl : Km.X.T 32 = some _) rfl hf1
  obtain ⟨x1, rfl, w1⟩ := Km.X.sh32 sh1
  have re1 := ce1.agg
  rw [show (Value.agg b1).cells.toList.toArray = b1 by simp [Value.cells]] at re1
  obtain ⟨k, hk⟩ := Km.X.exact_FnExactEndTake x0 x1 w0 w1
  refine ((Km.X.ok_laws_FnExactEndTake k).calls (args := [.agg [.lit (.int .i64 x0.Number), .lit (.bool x0.Up), .lit (.int .i64 x0.Life), .lit (.int .i64 x0.Peer), .lit (.int .i64 x0.Since), .lit (.bool x0.Owes), .lit (.int .i64 x0.Send.Base), .inl false .item x0.Send.Items, .lit (.int .i64 x0.Take.Next), .inl false .held x0.Take.Held, .lit (.string x0.Take.Open), .inl false .str x0.Take.Ready], .agg [.lit (.int .i64 x1.Kind), .lit (.int .i64 x1.From), .lit (.int .i64 x1.Mine), .lit (.int .i64 x1.Yours), .lit (.int .i64 x1.Next), .lit (.int .i64 x1.Mask), .lit (.int .i64 x1.Seq), .lit (.bool x1.Last), .lit (.string x1.Part)]]) (r := true) hk (vals := #[.agg b0, .agg b1]) (w := W) rfl (fun j x u hx hu => by
    match j, hx, hu with
    | 0, hx, hu => simp at hx hu; subst hx; subst hu; exact re0
    | 1, hx, hu => simp at hx hu; subst hx; subst hu; exact re1
    | (_ + 2), hx, _ => simp at hx) (v := .bool true) rfl).mono fun e W' ⟨he, bel⟩ => ?_
  subst he
  exact ⟨_, rfl, _, _, _, [], _, [], hW', trodAll_mk1 (shut_bool Try.underlying4 _), (trodAll_cons_mk (Below.trod laidOut (by kernel_rfl) (of_decide_eq_true (by kernel_rfl)) k0 bel lt0) (trodAll_cons_mk (Below.trod laidOut (by kernel_rfl) (of_decide_eq_true (by kernel_rfl)) k1 bel lt1) trodAll_mk0)), rfl, bel.frame _, fun h => by cases h⟩
theorem over : Rows.fnExactEndTakeRow.holds Try.pinned (OpenSpec.ofChange Rows.fnExactEndTakeSpec) :=
  OpenClaim.holds_of_wide 3 Try.f3 rfl rfl rfl rfl rfl rfl rfl ⟨rfl, rfl, rfl, rfl, rfl⟩ rfl rfl rfl rfl rfl (by kernel_rfl) Try.func3 (by kernel_rfl)
    (of_decide_eq_true (by kernel_rfl)) (by unfold Func.isWrapper; first | (rw [if_pos (by decide +kernel)]; kernel_rfl) | (rw [if_neg (by decide +kernel)]; exact ⟨rfl, rfl⟩))
    (fun os started H enc _ => lifted os started H enc)
theorem proved : Rows.FnExactEndTakeSaid := over
#print axioms proved
end Go.Proofs.Ytnhnpggoknepfaa.fnExactEndTake
namespace Go.Proofs.Ytnhnpggoknepfaa
/-- The row, under a short name, for the claim. -/
theorem fnExactEndTake_holds : Rows.FnExactEndTakeSaid := fnExactEndTake.proved
end Go.Proofs.Ytnhnpggoknepfaa
