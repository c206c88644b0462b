/- A part of the proof of FnExactTakeWord: each function does what its reading says. There is no condition. -/
import Derived.Test.YtlgdbdkjkjocjaaKmSeat
import Derived.Test.YtlgdbdkjkjocjaaKxDef
namespace Km.X
open Go Km Go.Proofs
set_option linter.unusedVariables false
set_option maxRecDepth 100000
set_option maxHeartbeats 4000000
noncomputable def S_laws_szPart (k : Nat) : Summ K TyK where
  R := Int
  modes := [.bo, .bo]
  run := fun args objs => match args, objs with
    | [.agg [.lit (.string v1), .lit (.bool v2)], .lit (.int .i64 v3)], [] => laws_szPart k (⟨v1, v2⟩ : DPart) v3
    | _, _ => none
  ret := fun r => (.lit (.int .i64 r), [])
  quiet := true
noncomputable def D_laws_szPart (v : V) (os : Objs K TyK) : Option (Int) :=
  match v, os with
  | .lit (.int .i64 v1), [] => some v1
  | _, _ => none
noncomputable abbrev G_laws_szPart (k : Nat) : FuncId → Option (Summ K TyK) := lookT []
noncomputable abbrev L_laws_szPart : List (Nat × Cut K TyK (Int)) := []
theorem e_laws_szPart (k : Nat) (a0 : DPart) (a1 : Int) : run cod T (G_laws_szPart k) (lam L_laws_szPart k) (cutsOf L_laws_szPart) 0 (finish cod T false 0 [.tmp 4] D_laws_szPart) 4000 false [.code (bodyOf Try.f71)] (envOf [0, 1] [.agg [.lit (.string a0.Text), .lit (.bool a0.Last)], .lit (.int .i64 a1)]) [] = laws_szPart k a0 a1 := by kernel_rfl
theorem ok_laws_szPart (k : Nat) : SummOk Try.prog cod 71 (S_laws_szPart k) := by
  refine summ_of (T := T) Try.f71 (G_laws_szPart) L_laws_szPart false [.tmp 4] 0 D_laws_szPart mixed (fun k => Known.of tok eok codOk ?_) (fun k => QuietOk.of ?_) Try.func71 (by kernel_rfl) (by kernel_rfl) (by kernel_rfl) (by kernel_rfl) (by kernel_rfl) ?_ ?_ [] ?_
  · exact all_nil
  · exact all_nil
  · intro v os r h
    unfold D_laws_szPart at h
    split at h <;> first | (cases h; rfl) | cases h
  · refine all_nil
  · intro args os r h
    change (S_laws_szPart k).run args os = some r at h
    unfold S_laws_szPart at h; dsimp only at h
    split at h
    · exact ⟨Nat.le_of_ble_eq_true (by kernel_rfl), rfl, rfl, k, 4000, (e_laws_szPart k ⟨_, _⟩ _).trans h⟩
    · cases h
noncomputable def S_laws_toPart (k : Nat) : Summ K TyK where
  R := DPart
  modes := [.bo]
  run := fun args objs => match args, objs with
    | [.agg [.lit (.string v1), .lit (.bool v2)]], [] => laws_toPart k (⟨v1, v2⟩ : DPart)
    | _, _ => none
  ret := fun r => (.agg [.lit (.string r.Text), .lit (.bool r.Last)], [])
  quiet := true
noncomputable def D_laws_toPart (v : V) (os : Objs K TyK) : Option (DPart) :=
  match v, os with
  | .agg [.lit (.string v1), .lit (.bool v2)], [] => some (⟨v1, v2⟩ : DPart)
  | _, _ => none
noncomputable abbrev G_laws_toPart (k : Nat) : FuncId → Option (Summ K TyK) := lookT []
noncomputable abbrev L_laws_toPart : List (Nat × Cut K TyK (DPart)) := []
theorem e_laws_toPart (k : Nat) (a0 : DPart) : run cod T (G_laws_toPart k) (lam L_laws_toPart k) (cutsOf L_laws_toPart) 0 (finish cod T false 0 [.cell 2 60] D_laws_toPart) 4000 false [.code (bodyOf Try.f72)] (envOf [0] [.agg [.lit (.string a0.Text), .lit (.bool a0.Last)]]) [] = laws_toPart k a0 := by kernel_rfl
theorem ok_laws_toPart (k : Nat) : SummOk Try.prog cod 72 (S_laws_toPart k) := by
  refine summ_of (T := T) Try.f72 (G_laws_toPart) L_laws_toPart false [.cell 2 60] 0 D_laws_toPart mixed (fun k => Known.of tok eok codOk ?_) (fun k => QuietOk.of ?_) Try.func72 (by kernel_rfl) (by kernel_rfl) (by kernel_rfl) (by kernel_rfl) (by kernel_rfl) ?_ ?_ [] ?_
  · exact all_nil
  · exact all_nil
  · intro v os r h
    unfold D_laws_toPart at h
    split at h <;> first | (cases h; rfl) | cases h
  · refine all_nil
  · intro args os r h
    change (S_laws_toPart k).run args os = some r at h
    unfold S_laws_toPart at h; dsimp only at h
    split at h
    · exact ⟨Nat.le_of_ble_eq_true (by kernel_rfl), rfl, rfl, k, 4000, (e_laws_toPart k ⟨_, _⟩).trans h⟩
    · cases h
noncomputable def S_laws_eqStringS (k : Nat) : Summ K TyK where
  R := Bool
  modes := [.bo, .bo]
  run := fun args objs => match args, objs with
    | [.inl true .str v1, .inl true .str v2], [] => laws_eqStringS k v1 v2
    | _, _ => none
  ret := fun r => (.lit (.bool r), [])
  quiet := true
noncomputable def D_laws_eqStringS (v : V) (os : Objs K TyK) : Option (Bool) :=
  match v, os with
  | .lit (.bool v1), [] => some v1
  | _, _ => none
noncomputable def C_laws_eqStringS_4 : Cut K TyK (Bool) where
  slots := [0, 1, 5]
  fn := fun k vs os => match vs, os with
    | [.inl true .str x0, .inl true .str x1, .lit (.int .i64 x2)], [] => laws_eqStringS_l4 k x0 x1 x2
    | _, _ => none
noncomputable abbrev G_laws_eqStringS (k : Nat) : FuncId → Option (Summ K TyK) := lookT []
noncomputable abbrev L_laws_eqStringS : List (Nat × Cut K TyK (Bool)) := [(4, C_laws_eqStringS_4)]
theorem c_laws_eqStringS_4 (k : Nat) (x0 : List ByteArray) (x1 : List ByteArray) (x2 : Int) : run cod T (G_laws_eqStringS k) (lam L_laws_eqStringS k) (cutsOf L_laws_eqStringS) 0 (finish cod T false 0 [.tmp 4] D_laws_eqStringS) 4000 true (todoAt 4 (bodyOf Try.f19)) (envOf [0, 1, 5] [.inl true .str x0, .inl true .str x1, .lit (.int .i64 x2)]) [] = laws_eqStringS_l4 (k + 1) x0 x1 x2 := by kernel_rfl
theorem e_laws_eqStringS (k : Nat) (a0 : List ByteArray) (a1 : List ByteArray) : run cod T (G_laws_eqStringS k) (lam L_laws_eqStringS k) (cutsOf L_laws_eqStringS) 0 (finish cod T false 0 [.tmp 4] D_laws_eqStringS) 4000 false [.code (bodyOf Try.f19)] (envOf [0, 1] [.inl true .str a0, .inl true .str a1]) [] = laws_eqStringS k a0 a1 := by kernel_rfl
theorem ok_laws_eqStringS (k : Nat) : SummOk Try.prog cod 19 (S_laws_eqStringS k) := by
  refine summ_of (T := T) Try.f19 (G_laws_eqStringS) L_laws_eqStringS false [.tmp 4] 0 D_laws_eqStringS mixed (fun k => Known.of tok eok codOk ?_) (fun k => QuietOk.of ?_) Try.func19 (by kernel_rfl) (by kernel_rfl) (by kernel_rfl) (by kernel_rfl) (by kernel_rfl) ?_ ?_ [] ?_
  · exact all_nil
  · exact all_nil
  · intro v os r h
    unfold D_laws_eqStringS at h
    split at h <;> first | (cases h; rfl) | cases h
  · refine all_cons ?_ (all_nil)
    · refine ⟨fun vs os => ?_, by kernel_rfl, fun k vs os r h => ?_⟩
      · show C_laws_eqStringS_4.fn 0 vs os = none
        unfold C_laws_eqStringS_4; dsimp only; split <;> rfl
      · change C_laws_eqStringS_4.fn (k + 1) vs os = some r at h
        unfold C_laws_eqStringS_4 at h; dsimp only at h
        split at h
        · exact ⟨4000, (c_laws_eqStringS_4 k _ _ _).trans h⟩
        · cases h
  · intro args os r h
    change (S_laws_eqStringS k).run args os = some r at h
    unfold S_laws_eqStringS at h; dsimp only at h
    split at h
    · exact ⟨Nat.le_of_ble_eq_true (by kernel_rfl), rfl, rfl, k, 4000, (e_laws_eqStringS k _ _).trans h⟩
    · cases h
noncomputable def S_laws_eqPart (k : Nat) : Summ K TyK where
  R := Bool
  modes := [.bo, .bo]
  run := fun args objs => match args, objs with
    | [.agg [.lit (.string v1), .lit (.bool v2)], .agg [.lit (.string v3), .lit (.bool v4)]], [] => laws_eqPart k (⟨v1, v2⟩ : DPart) (⟨v3, v4⟩ : DPart)
    | _, _ => none
  ret := fun r => (.lit (.bool r), [])
  quiet := true
noncomputable def D_laws_eqPart (v : V) (os : Objs K TyK) : Option (Bool) :=
  match v, os with
  | .lit (.bool v1), [] => some v1
  | _, _ => none
noncomputable abbrev G_laws_eqPart (k : Nat) : FuncId → Option (Summ K TyK) := lookT []
noncomputable abbrev L_laws_eqPart : List (Nat × Cut K TyK (Bool)) := []
theorem e_laws_eqPart (k : Nat) (a0 : DPart) (a1 : DPart) : run cod T (G_laws_eqPart k) (lam L_laws_eqPart k) (cutsOf L_laws_eqPart) 0 (finish cod T false 0 [.tmp 4] D_laws_eqPart) 4000 false [.code (bodyOf Try.f73)] (envOf [0, 1] [.agg [.lit (.string a0.Text), .lit (.bool a0.Last)], .agg [.lit (.string a1.Text), .lit (.bool a1.Last)]]) [] = laws_eqPart k a0 a1 := by kernel_rfl
theorem ok_laws_eqPart (k : Nat) : SummOk Try.prog cod 73 (S_laws_eqPart k) := by
  refine summ_of (T := T) Try.f73 (G_laws_eqPart) L_laws_eqPart false [.tmp 4] 0 D_laws_eqPart mixed (fun k => Known.of tok eok codOk ?_) (fun k => QuietOk.of ?_) Try.func73 (by kernel_rfl) (by kernel_rfl) (by kernel_rfl) (by kernel_rfl) (by kernel_rfl) ?_ ?_ [] ?_
  · exact all_nil
  · exact all_nil
  · intro v os r h
    unfold D_laws_eqPart at h
    split at h <;> first | (cases h; rfl) | cases h
  · refine all_nil
  · intro args os r h
    change (S_laws_eqPart k).run args os = some r at h
    unfold S_laws_eqPart at h; dsimp only at h
    split at h
    · exact ⟨Nat.le_of_ble_eq_true (by kernel_rfl), rfl, rfl, k, 4000, (e_laws_eqPart k ⟨_, _⟩ ⟨_, _⟩).trans h⟩
    · cases h
noncomputable def S_spec_l1In (k : Nat) : Summ K TyK where
  R := Bool
  modes := [.bo, .bo, .bo]
  run := fun args objs => match args, objs with
    | [.lit (.int .i64 v1), .lit (.int .i64 v2), .lit (.int .i64 v3)], [] => spec_l1In k v1 v2 v3
    | _, _ => none
  ret := fun r => (.lit (.bool r), [])
  quiet := true
noncomputable def D_spec_l1In (v : V) (os : Objs K TyK) : Option (Bool) :=
  match v, os with
  | .lit (.bool v1), [] => some v1
  | _, _ => none
noncomputable abbrev G_spec_l1In (k : Nat) : FuncId → Option (Summ K TyK) := lookT []
noncomputable abbrev L_spec_l1In : List (Nat × Cut K TyK (Bool)) := []
theorem e_spec_l1In (k : Nat) (a0 : Int) (a1 : Int) (a2 : Int) : run cod T (G_spec_l1In k) (lam L_spec_l1In k) (cutsOf L_spec_l1In) 0 (finish cod T false 0 [.tmp 6] D_spec_l1In) 4000 false [.code (bodyOf Try.f79)] (envOf [0, 1, 2] [.lit (.int .i64 a0), .lit (.int .i64 a1), .lit (.int .i64 a2)]) [] = spec_l1In k a0 a1 a2 := by kernel_rfl
theorem ok_spec_l1In (k : Nat) : SummOk Try.prog cod 79 (S_spec_l1In k) := by
  refine summ_of (T := T) Try.f79 (G_spec_l1In) L_spec_l1In false [.tmp 6] 0 D_spec_l1In mixed (fun k => Known.of tok eok codOk ?_) (fun k => QuietOk.of ?_) Try.func79 (by kernel_rfl) (by kernel_rfl) (by kernel_rfl) (by kernel_rfl) (by kernel_rfl) ?_ ?_ [] ?_
  · exact all_nil
  · exact all_nil
  · intro v os r h
    unfold D_spec_l1In at h
    split at h <;> first | (cases h; rfl) | cases h
  · refine all_nil
  · intro args os r h
    change (S_spec_l1In k).run args os = some r at h
    unfold S_spec_l1In at h; dsimp only at h
    split at h
    · exact ⟨Nat.le_of_ble_eq_true (by kernel_rfl), rfl, rfl, k, 4000, (e_spec_l1In k _ _ _).trans h⟩
    · cases h
noncomputable def S_impl_in (k : Nat) : Summ K TyK where
  R := Bool
  modes := [.bo, .bo, .bo]
  run := fun args objs => match args, objs with
    | [.lit (.int .i64 v1), .lit (.int .i64 v2), .lit (.int .i64 v3)], [] => impl_in k v1 v2 v3
    | _, _ => none
  ret := fun r => (.lit (.bool r), [])
  quiet := true
noncomputable def D_impl_in (v : V) (os : Objs K TyK) : Option (Bool) :=
  match v, os with
  | .lit (.bool v1), [] => some v1
  | _, _ => none
noncomputable abbrev G_impl_in (k : Nat) : FuncId → Option (Summ K TyK) := lookT []
noncomputable abbrev L_impl_in : List (Nat × Cut K TyK (Bool)) := []
theorem e_impl_in (k : Nat) (a0 : Int) (a1 : Int) (a2 : Int) : run cod T (G_impl_in k) (lam L_impl_in k) (cutsOf L_impl_in) 0 (finish cod T false 0 [.tmp 6] D_impl_in) 4000 false [.code (bodyOf Try.f89)] (envOf [0, 1, 2] [.lit (.int .i64 a0), .lit (.int .i64 a1), .lit (.int .i64 a2)]) [] = impl_in k a0 a1 a2 := by kernel_rfl
theorem ok_impl_in (k : Nat) : SummOk Try.prog cod 89 (S_impl_in k) := by
  refine summ_of (T := T) Try.f89 (G_impl_in) L_impl_in false [.tmp 6] 0 D_impl_in mixed (fun k => Known.of tok eok codOk ?_) (fun k => QuietOk.of ?_) Try.func89 (by kernel_rfl) (by kernel_rfl) (by kernel_rfl) (by kernel_rfl) (by kernel_rfl) ?_ ?_ [] ?_
  · exact all_nil
  · exact all_nil
  · intro v os r h
    unfold D_impl_in at h
    split at h <;> first | (cases h; rfl) | cases h
  · refine all_nil
  · intro args os r h
    change (S_impl_in k).run args os = some r at h
    unfold S_impl_in at h; dsimp only at h
    split at h
    · exact ⟨Nat.le_of_ble_eq_true (by kernel_rfl), rfl, rfl, k, 4000, (e_impl_in k _ _ _).trans h⟩
    · cases h
noncomputable def S_laws_szHeld (k : Nat) : Summ K TyK where
  R := Int
  modes := [.bo, .bo]
  run := fun args objs => match args, objs with
    | [.agg [.lit (.int .i64 v1), .lit (.string v2), .lit (.bool v3)], .lit (.int .i64 v4)], [] => laws_szHeld k (⟨v1, (⟨v2, v3⟩ : DPart)⟩ : DHeld) v4
    | _, _ => none
  ret := fun r => (.lit (.int .i64 r), [])
  quiet := true
noncomputable def D_laws_szHeld (v : V) (os : Objs K TyK) : Option (Int) :=
  match v, os with
  | .lit (.int .i64 v1), [] => some v1
  | _, _ => none
noncomputable abbrev G_laws_szHeld (k : Nat) : FuncId → Option (Summ K TyK) := lookT [(71, S_laws_szPart k)]
noncomputable abbrev L_laws_szHeld : List (Nat × Cut K TyK (Int)) := []
theorem e_laws_szHeld (k : Nat) (a0 : DHeld) (a1 : Int) : run cod T (G_laws_szHeld k) (lam L_laws_szHeld k) (cutsOf L_laws_szHeld) 0 (finish cod T false 0 [.tmp 4] D_laws_szHeld) 4000 false [.code (bodyOf Try.f113)] (envOf [0, 1] [.agg [.lit (.int .i64 a0.Seq), .lit (.string a0.Part.Text), .lit (.bool a0.Part.Last)], .lit (.int .i64 a1)]) [] = laws_szHeld k a0 a1 := by kernel_rfl
theorem ok_laws_szHeld (k : Nat) : SummOk Try.prog cod 113 (S_laws_szHeld k) := by
  refine summ_of (T := T) Try.f113 (G_laws_szHeld) L_laws_szHeld false [.tmp 4] 0 D_laws_szHeld mixed (fun k => Known.of tok eok codOk ?_) (fun k => QuietOk.of ?_) Try.func113 (by kernel_rfl) (by kernel_rfl) (by kernel_rfl) (by kernel_rfl) (by kernel_rfl) ?_ ?_ [] ?_
  · exact all_cons (ok_laws_szPart k) (all_nil)
  · exact all_cons (fun h r => ⟨rfl, rfl⟩) (all_nil)
  · intro v os r h
    unfold D_laws_szHeld at h
    split at h <;> first | (cases h; rfl) | cases h
  · refine all_nil
  · intro args os r h
    change (S_laws_szHeld k).run args os = some r at h
    unfold S_laws_szHeld at h; dsimp only at h
    split at h
    · exact ⟨Nat.le_of_ble_eq_true (by kernel_rfl), rfl, rfl, k, 4000, (e_laws_szHeld k ⟨_, ⟨_, _⟩⟩ _).trans h⟩
    · cases h
noncomputable def S_laws_szHeldS (k : Nat) : Summ K TyK where
  R := Int
  modes := [.bo, .bo]
  run := fun args objs => match args, objs with
    | [.inl true .held v1, .lit (.int .i64 v2)], [] => laws_szHeldS k v1 v2
    | _, _ => none
  ret := fun r => (.lit (.int .i64 r), [])
  quiet := true
noncomputable def D_laws_szHeldS (v : V) (os : Objs K TyK) : Option (Int) :=
  match v, os with
  | .lit (.int .i64 v1), [] => some v1
  | _, _ => none
noncomputable def C_laws_szHeldS_5 : Cut K TyK (Int) where
  slots := [0, 1, 5]
  fn := fun k vs os => match vs, os with
    | [.inl true .held x0, .lit (.int .i64 x1), .lit (.int .i64 x2)], [] => laws_szHeldS_l5 k x0 x1 x2
    | _, _ => none
noncomputable abbrev G_laws_szHeldS (k : Nat) : FuncId → Option (Summ K TyK) := lookT [(113, S_laws_szHeld k)]
noncomputable abbrev L_laws_szHeldS : List (Nat × Cut K TyK (Int)) := [(5, C_laws_szHeldS_5)]
theorem c_laws_szHeldS_5 (k : Nat) (x0 : List DHeld) (x1 : Int) (x2 : Int) : run cod T (G_laws_szHeldS k) (lam L_laws_szHeldS k) (cutsOf L_laws_szHeldS) 0 (finish cod T false 0 [.tmp 4] D_laws_szHeldS) 4000 true (todoAt 5 (bodyOf Try.f83)) (envOf [0, 1, 5] [.inl true .held x0, .lit (.int .i64 x1), .lit (.int .i64 x2)]) [] = laws_szHeldS_l5 (k + 1) x0 x1 x2 := by kernel_rfl
theorem e_laws_szHeldS (k : Nat) (a0 : List DHeld) (a1 : Int) : run cod T (G_laws_szHeldS k) (lam L_laws_szHeldS k) (cutsOf L_laws_szHeldS) 0 (finish cod T false 0 [.tmp 4] D_laws_szHeldS) 4000 false [.code (bodyOf Try.f83)] (envOf [0, 1] [.inl true .held a0, .lit (.int .i64 a1)]) [] = laws_szHeldS k a0 a1 := by kernel_rfl
theorem ok_laws_szHeldS (k : Nat) : SummOk Try.prog cod 83 (S_laws_szHeldS k) := by
  refine summ_of (T := T) Try.f83 (G_laws_szHeldS) L_laws_szHeldS false [.tmp 4] 0 D_laws_szHeldS mixed (fun k => Known.of tok eok codOk ?_) (fun k => QuietOk.of ?_) Try.func83 (by kernel_rfl) (by kernel_rfl) (by kernel_rfl) (by kernel_rfl) (by kernel_rfl) ?_ ?_ [] ?_
  · exact all_cons (ok_laws_szHeld k) (all_nil)
  · exact all_cons (fun h r => ⟨rfl, rfl⟩) (all_nil)
  · intro v os r h
    unfold D_laws_szHeldS at h
    split at h <;> first | (cases h; rfl) | cases h
  · refine all_cons ?_ (all_nil)
    · refine ⟨fun vs os => ?_, by kernel_rfl, fun k vs os r h => ?_⟩
      · show C_laws_szHeldS_5.fn 0 vs os = none
        unfold C_laws_szHeldS_5; dsimp only; split <;> rfl
      · change C_laws_szHeldS_5.fn (k + 1) vs os = some r at h
        unfold C_laws_szHeldS_5 at h; dsimp only at h
        split at h
        · exact ⟨4000, (c_laws_szHeldS_5 k _ _ _).trans h⟩
        · cases h
  · intro args os r h
    change (S_laws_szHeldS k).run args os = some r at h
    unfold S_laws_szHeldS at h; dsimp only at h
    split at h
    · exact ⟨Nat.le_of_ble_eq_true (by kernel_rfl), rfl, rfl, k, 4000, (e_laws_szHeldS k _ _).trans h⟩
    · cases h
noncomputable def S_laws_szStringS (k : Nat) : Summ K TyK where
  R := Int
  modes := [.bo, .bo]
  run := fun args objs => match args, objs with
    | [.inl true .str v1, .lit (.int .i64 v2)], [] => laws_szStringS k v1 v2
    | _, _ => none
  ret := fun r => (.lit (.int .i64 r), [])
  quiet := true
noncomputable def D_laws_szStringS (v : V) (os : Objs K TyK) : Option (Int) :=
  match v, os with
  | .lit (.int .i64 v1), [] => some v1
  | _, _ => none
noncomputable def C_laws_szStringS_5 : Cut K TyK (Int) where
  slots := [0, 1, 5]
  fn := fun k vs os => match vs, os with
    | [.inl true .str x0, .lit (.int .i64 x1), .lit (.int .i64 x2)], [] => laws_szStringS_l5 k x0 x1 x2
    | _, _ => none
noncomputable abbrev G_laws_szStringS (k : Nat) : FuncId → Option (Summ K TyK) := lookT []
noncomputable abbrev L_laws_szStringS : List (Nat × Cut K TyK (Int)) := [(5, C_laws_szStringS_5)]
theorem c_laws_szStringS_5 (k : Nat) (x0 : List ByteArray) (x1 : Int) (x2 : Int) : run cod T (G_laws_szStringS k) (lam L_laws_szStringS k) (cutsOf L_laws_szStringS) 0 (finish cod T false 0 [.tmp 4] D_laws_szStringS) 4000 true (todoAt 5 (bodyOf Try.f84)) (envOf [0, 1, 5] [.inl true .str x0, .lit (.int .i64 x1), .lit (.int .i64 x2)]) [] = laws_szStringS_l5 (k + 1) x0 x1 x2 := by kernel_rfl
theorem e_laws_szStringS (k : Nat) (a0 : List ByteArray) (a1 : Int) : run cod T (G_laws_szStringS k) (lam L_laws_szStringS k) (cutsOf L_laws_szStringS) 0 (finish cod T false 0 [.tmp 4] D_laws_szStringS) 4000 false [.code (bodyOf Try.f84)] (envOf [0, 1] [.inl true .str a0, .lit (.int .i64 a1)]) [] = laws_szStringS k a0 a1 := by kernel_rfl
theorem ok_laws_szStringS (k : Nat) : SummOk Try.prog cod 84 (S_laws_szStringS k) := by
  refine summ_of (T := T) Try.f84 (G_laws_szStringS) L_laws_szStringS false [.tmp 4] 0 D_laws_szStringS mixed (fun k => Known.of tok eok codOk ?_) (fun k => QuietOk.of ?_) Try.func84 (by kernel_rfl) (by kernel_rfl) (by kernel_rfl) (by kernel_rfl) (by kernel_rfl) ?_ ?_ [] ?_
  · exact all_nil
  · exact all_nil
  · intro v os r h
    unfold D_laws_szStringS at h
    split at h <;> first | (cases h; rfl) | cases h
  · refine all_cons ?_ (all_nil)
    · refine ⟨fun vs os => ?_, by kernel_rfl, fun k vs os r h => ?_⟩
      · show C_laws_szStringS_5.fn 0 vs os = none
        unfold C_laws_szStringS_5; dsimp only; split <;> rfl
      · change C_laws_szStringS_5.fn (k + 1) vs os = some r at h
        unfold C_laws_szStringS_5 at h; dsimp only at h
        split at h
        · exact ⟨4000, (c_laws_szStringS_5 k _ _ _).trans h⟩
        · cases h
  · intro args os r h
    change (S_laws_szStringS k).run args os = some r at h
    unfold S_laws_szStringS at h; dsimp only at h
    split at h
    · exact ⟨Nat.le_of_ble_eq_true (by kernel_rfl), rfl, rfl, k, 4000, (e_laws_szStringS k _ _).trans h⟩
    · cases h
noncomputable def S_laws_szTake (k : Nat) : Summ K TyK where
  R := Int
  modes := [.bo, .bo]
  run := fun args objs => match args, objs with
    | [.agg [.lit (.int .i64 v1), .inl true .held v2, .lit (.string v3), .inl true .str v4], .lit (.int .i64 v5)], [] => laws_szTake k (⟨v1, v2, v3, v4⟩ : DTake) v5
    | _, _ => none
  ret := fun r => (.lit (.int .i64 r), [])
  quiet := true
noncomputable def D_laws_szTake (v : V) (os : Objs K TyK) : Option (Int) :=
  match v, os with
  | .lit (.int .i64 v1), [] => some v1
  | _, _ => none
noncomputable abbrev G_laws_szTake (k : Nat) : FuncId → Option (Summ K TyK) := lookT [(83, S_laws_szHeldS k), (84, S_laws_szStringS k)]
noncomputable abbrev L_laws_szTake : List (Nat × Cut K TyK (Int)) := []
theorem e_laws_szTake (k : Nat) (a0 : DTake) (a1 : Int) : run cod T (G_laws_szTake k) (lam L_laws_szTake k) (cutsOf L_laws_szTake) 0 (finish cod T false 0 [.tmp 4] D_laws_szTake) 4000 false [.code (bodyOf Try.f32)] (envOf [0, 1] [.agg [.lit (.int .i64 a0.Next), .inl true .held a0.Held, .lit (.string a0.Open), .inl true .str a0.Ready], .lit (.int .i64 a1)]) [] = laws_szTake k a0 a1 := by kernel_rfl
theorem ok_laws_szTake (k : Nat) : SummOk Try.prog cod 32 (S_laws_szTake k) := by
  refine summ_of (T := T) Try.f32 (G_laws_szTake) L_laws_szTake false [.tmp 4] 0 D_laws_szTake mixed (fun k => Known.of tok eok codOk ?_) (fun k => QuietOk.of ?_) Try.func32 (by kernel_rfl) (by kernel_rfl) (by kernel_rfl) (by kernel_rfl) (by kernel_rfl) ?_ ?_ [] ?_
  · exact all_cons (ok_laws_szHeldS k) (all_cons (ok_laws_szStringS k) (all_nil))
  · exact all_cons (fun h r => ⟨rfl, rfl⟩) (all_cons (fun h r => ⟨rfl, rfl⟩) (all_nil))
  · intro v os r h
    unfold D_laws_szTake at h
    split at h <;> first | (cases h; rfl) | cases h
  · refine all_nil
  · intro args os r h
    change (S_laws_szTake k).run args os = some r at h
    unfold S_laws_szTake at h; dsimp only at h
    split at h
    · exact ⟨Nat.le_of_ble_eq_true (by kernel_rfl), rfl, rfl, k, 4000, (e_laws_szTake k ⟨_, _, _, _⟩ _).trans h⟩
    · cases h
noncomputable def S_laws_toHeld (k : Nat) : Summ K TyK where
  R := DHeld
  modes := [.bo]
  run := fun args objs => match args, objs with
    | [.agg [.lit (.int .i64 v1), .lit (.string v2), .lit (.bool v3)]], [] => laws_toHeld k (⟨v1, (⟨v2, v3⟩ : DPart)⟩ : DHeld)
    | _, _ => none
  ret := fun r => (.agg [.lit (.int .i64 r.Seq), .lit (.string r.Part.Text), .lit (.bool r.Part.Last)], [])
  quiet := true
noncomputable def D_laws_toHeld (v : V) (os : Objs K TyK) : Option (DHeld) :=
  match v, os with
  | .agg [.lit (.int .i64 v1), .lit (.string v2), .lit (.bool v3)], [] => some (⟨v1, (⟨v2, v3⟩ : DPart)⟩ : DHeld)
  | _, _ => none
noncomputable abbrev G_laws_toHeld (k : Nat) : FuncId → Option (Summ K TyK) := lookT [(72, S_laws_toPart k)]
noncomputable abbrev L_laws_toHeld : List (Nat × Cut K TyK (DHeld)) := []
theorem e_laws_toHeld (k : Nat) (a0 : DHeld) : run cod T (G_laws_toHeld k) (lam L_laws_toHeld k) (cutsOf L_laws_toHeld) 0 (finish cod T false 0 [.cell 2 117] D_laws_toHeld) 4000 false [.code (bodyOf Try.f114)] (envOf [0] [.agg [.lit (.int .i64 a0.Seq), .lit (.string a0.Part.Text), .lit (.bool a0.Part.Last)]]) [] = laws_toHeld k a0 := by kernel_rfl
theorem ok_laws_toHeld (k : Nat) : SummOk Try.prog cod 114 (S_laws_toHeld k) := by
  refine summ_of (T := T) Try.f114 (G_laws_toHeld) L_laws_toHeld false [.cell 2 117] 0 D_laws_toHeld mixed (fun k => Known.of tok eok codOk ?_) (fun k => QuietOk.of ?_) Try.func114 (by kernel_rfl) (by kernel_rfl) (by kernel_rfl) (by kernel_rfl) (by kernel_rfl) ?_ ?_ [] ?_
  · exact all_cons (ok_laws_toPart k) (all_nil)
  · exact all_cons (fun h r => ⟨rfl, rfl⟩) (all_nil)
  · intro v os r h
    unfold D_laws_toHeld at h
    split at h <;> first | (cases h; rfl) | cases h
  · refine all_nil
  · intro args os r h
    change (S_laws_toHeld k).run args os = some r at h
    unfold S_laws_toHeld at h; dsimp only at h
    split at h
    · exact ⟨Nat.le_of_ble_eq_true (by kernel_rfl), rfl, rfl, k, 4000, (e_laws_toHeld k ⟨_, ⟨_, _⟩⟩).trans h⟩
    · cases h
noncomputable def S_laws_toHeldS (k : Nat) : Summ K TyK where
  R := List DHeld
  modes := [.bo]
  run := fun args objs => match args, objs with
    | [.inl true .held v1], [] => laws_toHeldS k v1
    | _, _ => none
  ret := fun r => (.own 0, [.sl .held r])
  quiet := false
noncomputable def D_laws_toHeldS (v : V) (os : Objs K TyK) : Option (List DHeld) :=
  match v, os with
  | .own 0, [.sl .held v1] => some v1
  | _, _ => none
noncomputable def C_laws_toHeldS_3 : Cut K TyK (List DHeld) where
  slots := [0, 3, 4]
  fn := fun k vs os => match vs, os with
    | [.inl true .held x0, .own 0, .lit (.int .i64 x1)], [.sl .held x2] => laws_toHeldS_l3 k x0 x1 x2
    | _, _ => none
noncomputable abbrev G_laws_toHeldS (k : Nat) : FuncId → Option (Summ K TyK) := lookT [(114, S_laws_toHeld k)]
noncomputable abbrev L_laws_toHeldS : List (Nat × Cut K TyK (List DHeld)) := [(3, C_laws_toHeldS_3)]
theorem c_laws_toHeldS_3 (k : Nat) (x0 : List DHeld) (x1 : Int) (x2 : List DHeld) : run cod T (G_laws_toHeldS k) (lam L_laws_toHeldS k) (cutsOf L_laws_toHeldS) 0 (finish cod T false 0 [.tmp 2] D_laws_toHeldS) 4000 true (todoAt 3 (bodyOf Try.f87)) (envOf [0, 3, 4] [.inl true .held x0, .own 0, .lit (.int .i64 x1)]) [.sl .held x2] = laws_toHeldS_l3 (k + 1) x0 x1 x2 := by kernel_rfl
theorem e_laws_toHeldS (k : Nat) (a0 : List DHeld) : run cod T (G_laws_toHeldS k) (lam L_laws_toHeldS k) (cutsOf L_laws_toHeldS) 0 (finish cod T false 0 [.tmp 2] D_laws_toHeldS) 4000 false [.code (bodyOf Try.f87)] (envOf [0] [.inl true .held a0]) [] = laws_toHeldS k a0 := by kernel_rfl
theorem ok_laws_toHeldS (k : Nat) : SummOk Try.prog cod 87 (S_laws_toHeldS k) := by
  refine summ_of (T := T) Try.f87 (G_laws_toHeldS) L_laws_toHeldS false [.tmp 2] 0 D_laws_toHeldS mixed (fun k => Known.of tok eok codOk ?_) (fun k => QuietOk.of ?_) Try.func87 (by kernel_rfl) (by kernel_rfl) (by kernel_rfl) (by kernel_rfl) (by kernel_rfl) ?_ ?_ [] ?_
  · exact all_cons (ok_laws_toHeld k) (all_nil)
  · exact all_cons (fun h r => ⟨rfl, rfl⟩) (all_nil)
  · intro v os r h
    unfold D_laws_toHeldS at h
    split at h <;> first | (cases h; rfl) | cases h
  · refine all_cons ?_ (all_nil)
    · refine ⟨fun vs os => ?_, by kernel_rfl, fun k vs os r h => ?_⟩
      · show C_laws_toHeldS_3.fn 0 vs os = none
        unfold C_laws_toHeldS_3; dsimp only; split <;> rfl
      · change C_laws_toHeldS_3.fn (k + 1) vs os = some r at h
        unfold C_laws_toHeldS_3 at h; dsimp only at h
        split at h
        · exact ⟨4000, (c_laws_toHeldS_3 k _ _ _).trans h⟩
        · cases h
  · intro args os r h
    change (S_laws_toHeldS k).run args os = some r at h
    unfold S_laws_toHeldS at h; dsimp only at h
    split at h
    · exact ⟨Nat.le_of_ble_eq_true (by kernel_rfl), rfl, rfl, k, 4000, (e_laws_toHeldS k _).trans h⟩
    · cases h
noncomputable def S_laws_toStringS (k : Nat) : Summ K TyK where
  R := List ByteArray
  modes := [.bo]
  run := fun args objs => match args, objs with
    | [.inl true .str v1], [] => laws_toStringS k v1
    | _, _ => none
  ret := fun r => (.own 0, [.sl .str r])
  quiet := false
noncomputable def D_laws_toStringS (v : V) (os : Objs K TyK) : Option (List ByteArray) :=
  match v, os with
  | .own 0, [.sl .str v1] => some v1
  | _, _ => none
noncomputable def C_laws_toStringS_3 : Cut K TyK (List ByteArray) where
  slots := [0, 3, 4]
  fn := fun k vs os => match vs, os with
    | [.inl true .str x0, .own 0, .lit (.int .i64 x1)], [.sl .str x2] => laws_toStringS_l3 k x0 x1 x2
    | _, _ => none
noncomputable abbrev G_laws_toStringS (k : Nat) : FuncId → Option (Summ K TyK) := lookT []
noncomputable abbrev L_laws_toStringS : List (Nat × Cut K TyK (List ByteArray)) := [(3, C_laws_toStringS_3)]
theorem c_laws_toStringS_3 (k : Nat) (x0 : List ByteArray) (x1 : Int) (x2 : List ByteArray) : run cod T (G_laws_toStringS k) (lam L_laws_toStringS k) (cutsOf L_laws_toStringS) 0 (finish cod T false 0 [.tmp 2] D_laws_toStringS) 4000 true (todoAt 3 (bodyOf Try.f88)) (envOf [0, 3, 4] [.inl true .str x0, .own 0, .lit (.int .i64 x1)]) [.sl .str x2] = laws_toStringS_l3 (k + 1) x0 x1 x2 := by kernel_rfl
theorem e_laws_toStringS (k : Nat) (a0 : List ByteArray) : run cod T (G_laws_toStringS k) (lam L_laws_toStringS k) (cutsOf L_laws_toStringS) 0 (finish cod T false 0 [.tmp 2] D_laws_toStringS) 4000 false [.code (bodyOf Try.f88)] (envOf [0] [.inl true .str a0]) [] = laws_toStringS k a0 := by kernel_rfl
theorem ok_laws_toStringS (k : Nat) : SummOk Try.prog cod 88 (S_laws_toStringS k) := by
  refine summ_of (T := T) Try.f88 (G_laws_toStringS) L_laws_toStringS false [.tmp 2] 0 D_laws_toStringS mixed (fun k => Known.of tok eok codOk ?_) (fun k => QuietOk.of ?_) Try.func88 (by kernel_rfl) (by kernel_rfl) (by kernel_rfl) (by kernel_rfl) (by kernel_rfl) ?_ ?_ [] ?_
  · exact all_nil
  · exact all_nil
  · intro v os r h
    unfold D_laws_toStringS at h
    split at h <;> first | (cases h; rfl) | cases h
  · refine all_cons ?_ (all_nil)
    · refine ⟨fun vs os => ?_, by kernel_rfl, fun k vs os r h => ?_⟩
      · show C_laws_toStringS_3.fn 0 vs os = none
        unfold C_laws_toStringS_3; dsimp only; split <;> rfl
      · change C_laws_toStringS_3.fn (k + 1) vs os = some r at h
        unfold C_laws_toStringS_3 at h; dsimp only at h
        split at h
        · exact ⟨4000, (c_laws_toStringS_3 k _ _ _).trans h⟩
        · cases h
  · intro args os r h
    change (S_laws_toStringS k).run args os = some r at h
    unfold S_laws_toStringS at h; dsimp only at h
    split at h
    · exact ⟨Nat.le_of_ble_eq_true (by kernel_rfl), rfl, rfl, k, 4000, (e_laws_toStringS k _).trans h⟩
    · cases h
noncomputable def S_laws_toTake (k : Nat) : Summ K TyK where
  R := DTake
  modes := [.bo]
  run := fun args objs => match args, objs with
    | [.agg [.lit (.int .i64 v1), .inl true .held v2, .lit (.string v3), .inl true .str v4]], [] => laws_toTake k (⟨v1, v2, v3, v4⟩ : DTake)
    | _, _ => none
  ret := fun r => (.agg [.lit (.int .i64 r.Next), .own 0, .lit (.string r.Open), .own 1], [.sl .held r.Held, .sl .str r.Ready])
  quiet := false
noncomputable def D_laws_toTake (v : V) (os : Objs K TyK) : Option (DTake) :=
  match v, os with
  | .agg [.lit (.int .i64 v1), .own 0, .lit (.string v2), .own 1], [.sl .held v3, .sl .str v4] => some (⟨v1, v3, v2, v4⟩ : DTake)
  | _, _ => none
noncomputable abbrev G_laws_toTake (k : Nat) : FuncId → Option (Summ K TyK) := lookT [(87, S_laws_toHeldS k), (88, S_laws_toStringS k)]
noncomputable abbrev L_laws_toTake : List (Nat × Cut K TyK (DTake)) := []
theorem e_laws_toTake (k : Nat) (a0 : DTake) : run cod T (G_laws_toTake k) (lam L_laws_toTake k) (cutsOf L_laws_toTake) 0 (finish cod T false 0 [.cell 2 52] D_laws_toTake) 4000 false [.code (bodyOf Try.f34)] (envOf [0] [.agg [.lit (.int .i64 a0.Next), .inl true .held a0.Held, .lit (.string a0.Open), .inl true .str a0.Ready]]) [] = laws_toTake k a0 := by kernel_rfl
theorem ok_laws_toTake (k : Nat) : SummOk Try.prog cod 34 (S_laws_toTake k) := by
  refine summ_of (T := T) Try.f34 (G_laws_toTake) L_laws_toTake false [.cell 2 52] 0 D_laws_toTake mixed (fun k => Known.of tok eok codOk ?_) (fun k => QuietOk.of ?_) Try.func34 (by kernel_rfl) (by kernel_rfl) (by kernel_rfl) (by kernel_rfl) (by kernel_rfl) ?_ ?_ [] ?_
  · exact all_cons (ok_laws_toHeldS k) (all_cons (ok_laws_toStringS k) (all_nil))
  · exact all_cons (fun h r => by cases h) (all_cons (fun h r => by cases h) (all_nil))
  · intro v os r h
    unfold D_laws_toTake at h
    split at h <;> first | (cases h; rfl) | cases h
  · refine all_nil
  · intro args os r h
    change (S_laws_toTake k).run args os = some r at h
    unfold S_laws_toTake at h; dsimp only at h
    split at h
    · exact ⟨Nat.le_of_ble_eq_true (by kernel_rfl), rfl, rfl, k, 4000, (e_laws_toTake k ⟨_, _, _, _⟩).trans h⟩
    · cases h
noncomputable def S_spec_l5Near (k : Nat) : Summ K TyK where
  R := Bool
  modes := [.bo, .bo]
  run := fun args objs => match args, objs with
    | [.agg [.lit (.int .i64 v1), .inl true .held v2, .lit (.string v3), .inl true .str v4], .lit (.int .i64 v5)], [] => spec_l5Near k (⟨v1, v2, v3, v4⟩ : DTake) v5
    | _, _ => none
  ret := fun r => (.lit (.bool r), [])
  quiet := true
noncomputable def D_spec_l5Near (v : V) (os : Objs K TyK) : Option (Bool) :=
  match v, os with
  | .lit (.bool v1), [] => some v1
  | _, _ => none
noncomputable abbrev G_spec_l5Near (k : Nat) : FuncId → Option (Summ K TyK) := lookT [(79, S_spec_l1In k)]
noncomputable abbrev L_spec_l5Near : List (Nat × Cut K TyK (Bool)) := []
theorem e_spec_l5Near (k : Nat) (a0 : DTake) (a1 : Int) : run cod T (G_spec_l5Near k) (lam L_spec_l5Near k) (cutsOf L_spec_l5Near) 0 (finish cod T false 0 [.tmp 4] D_spec_l5Near) 4000 false [.code (bodyOf Try.f85)] (envOf [0, 1] [.agg [.lit (.int .i64 a0.Next), .inl true .held a0.Held, .lit (.string a0.Open), .inl true .str a0.Ready], .lit (.int .i64 a1)]) [] = spec_l5Near k a0 a1 := by kernel_rfl
theorem ok_spec_l5Near (k : Nat) : SummOk Try.prog cod 85 (S_spec_l5Near k) := by
  refine summ_of (T := T) Try.f85 (G_spec_l5Near) L_spec_l5Near false [.tmp 4] 0 D_spec_l5Near mixed (fun k => Known.of tok eok codOk ?_) (fun k => QuietOk.of ?_) Try.func85 (by kernel_rfl) (by kernel_rfl) (by kernel_rfl) (by kernel_rfl) (by kernel_rfl) ?_ ?_ [] ?_
  · exact all_cons (ok_spec_l1In k) (all_nil)
  · exact all_cons (fun h r => ⟨rfl, rfl⟩) (all_nil)
  · intro v os r h
    unfold D_spec_l5Near at h
    split at h <;> first | (cases h; rfl) | cases h
  · refine all_nil
  · intro args os r h
    change (S_spec_l5Near k).run args os = some r at h
    unfold S_spec_l5Near at h; dsimp only at h
    split at h
    · exact ⟨Nat.le_of_ble_eq_true (by kernel_rfl), rfl, rfl, k, 4000, (e_spec_l5Near k ⟨_, _, _, _⟩ _).trans h⟩
    · cases h
noncomputable def S_spec_l5Can (k : Nat) : Summ K TyK where
  R := Bool
  modes := [.bo, .bo]
  run := fun args objs => match args, objs with
    | [.agg [.lit (.int .i64 v1), .inl true .held v2, .lit (.string v3), .inl true .str v4], .agg [.lit (.string v5), .lit (.bool v6)]], [] => spec_l5Can k (⟨v1, v2, v3, v4⟩ : DTake) (⟨v5, v6⟩ : DPart)
    | _, _ => none
  ret := fun r => (.lit (.bool r), [])
  quiet := true
noncomputable def D_spec_l5Can (v : V) (os : Objs K TyK) : Option (Bool) :=
  match v, os with
  | .lit (.bool v1), [] => some v1
  | _, _ => none
noncomputable abbrev G_spec_l5Can (k : Nat) : FuncId → Option (Summ K TyK) := lookT []
noncomputable abbrev L_spec_l5Can : List (Nat × Cut K TyK (Bool)) := []
theorem e_spec_l5Can (k : Nat) (a0 : DTake) (a1 : DPart) : run cod T (G_spec_l5Can k) (lam L_spec_l5Can k) (cutsOf L_spec_l5Can) 0 (finish cod T false 0 [.tmp 4] D_spec_l5Can) 4000 false [.code (bodyOf Try.f86)] (envOf [0, 1] [.agg [.lit (.int .i64 a0.Next), .inl true .held a0.Held, .lit (.string a0.Open), .inl true .str a0.Ready], .agg [.lit (.string a1.Text), .lit (.bool a1.Last)]]) [] = spec_l5Can k a0 a1 := by kernel_rfl
theorem ok_spec_l5Can (k : Nat) : SummOk Try.prog cod 86 (S_spec_l5Can k) := by
  refine summ_of (T := T) Try.f86 (G_spec_l5Can) L_spec_l5Can false [.tmp 4] 0 D_spec_l5Can mixed (fun k => Known.of tok eok codOk ?_) (fun k => QuietOk.of ?_) Try.func86 (by kernel_rfl) (by kernel_rfl) (by kernel_rfl) (by kernel_rfl) (by kernel_rfl) ?_ ?_ [] ?_
  · exact all_nil
  · exact all_nil
  · intro v os r h
    unfold D_spec_l5Can at h
    split at h <;> first | (cases h; rfl) | cases h
  · refine all_nil
  · intro args os r h
    change (S_spec_l5Can k).run args os = some r at h
    unfold S_spec_l5Can at h; dsimp only at h
    split at h
    · exact ⟨Nat.le_of_ble_eq_true (by kernel_rfl), rfl, rfl, k, 4000, (e_spec_l5Can k ⟨_, _, _, _⟩ ⟨_, _⟩).trans h⟩
    · cases h
noncomputable def S_spec_ValidTake (k : Nat) : Summ K TyK where
  R := Bool
  modes := [.bo]
  run := fun args objs => match args, objs with
    | [.agg [.lit (.int .i64 v1), .inl true .held v2, .lit (.string v3), .inl true .str v4]], [] => spec_ValidTake k (⟨v1, v2, v3, v4⟩ : DTake)
    | _, _ => none
  ret := fun r => (.lit (.bool r), [])
  quiet := true
noncomputable def D_spec_ValidTake (v : V) (os : Objs K TyK) : Option (Bool) :=
  match v, os with
  | .lit (.bool v1), [] => some v1
  | _, _ => none
noncomputable def C_spec_ValidTake_4 : Cut K TyK (Bool) where
  slots := [1, 3]
  fn := fun k vs os => match vs, os with
    | [.ref 0 0, .lit (.int .i64 x0)], [.box [.lit (.int .i64 x1), .inl true .held x2, .lit (.string x3), .inl true .str x4]] => spec_ValidTake_l4 k x0 x1 x2 x3 x4
    | _, _ => none
noncomputable def C_spec_ValidTake_9 : Cut K TyK (Bool) where
  slots := [1, 4]
  fn := fun k vs os => match vs, os with
    | [.ref 0 0, .lit (.int .i64 x0)], [.box [.lit (.int .i64 x1), .inl true .held x2, .lit (.string x3), .inl true .str x4]] => spec_ValidTake_l9 k x0 x1 x2 x3 x4
    | _, _ => none
noncomputable abbrev G_spec_ValidTake (k : Nat) : FuncId → Option (Summ K TyK) := lookT [(79, S_spec_l1In k), (85, S_spec_l5Near k), (86, S_spec_l5Can k)]
noncomputable abbrev L_spec_ValidTake : List (Nat × Cut K TyK (Bool)) := [(4, C_spec_ValidTake_4), (9, C_spec_ValidTake_9)]
theorem c_spec_ValidTake_4 (k : Nat) (x0 : Int) (x1 : Int) (x2 : List DHeld) (x3 : ByteArray) (x4 : List ByteArray) : run cod T (G_spec_ValidTake k) (lam L_spec_ValidTake k) (cutsOf L_spec_ValidTake) 0 (finish cod T false 0 [.tmp 2] D_spec_ValidTake) 4000 true (todoAt 4 (bodyOf Try.f33)) (envOf [1, 3] [.ref 0 0, .lit (.int .i64 x0)]) [.box [.lit (.int .i64 x1), .inl true .held x2, .lit (.string x3), .inl true .str x4]] = spec_ValidTake_l4 (k + 1) x0 x1 x2 x3 x4 := by kernel_rfl
theorem c_spec_ValidTake_9 (k : Nat) (x0 : Int) (x1 : Int) (x2 : List DHeld) (x3 : ByteArray) (x4 : List ByteArray) : run cod T (G_spec_ValidTake k) (lam L_spec_ValidTake k) (cutsOf L_spec_ValidTake) 0 (finish cod T false 0 [.tmp 2] D_spec_ValidTake) 4000 true (todoAt 9 (bodyOf Try.f33)) (envOf [1, 4] [.ref 0 0, .lit (.int .i64 x0)]) [.box [.lit (.int .i64 x1), .inl true .held x2, .lit (.string x3), .inl true .str x4]] = spec_ValidTake_l9 (k + 1) x0 x1 x2 x3 x4 := by kernel_rfl
theorem e_spec_ValidTake (k : Nat) (a0 : DTake) : run cod T (G_spec_ValidTake k) (lam L_spec_ValidTake k) (cutsOf L_spec_ValidTake) 0 (finish cod T false 0 [.tmp 2] D_spec_ValidTake) 4000 false [.code (bodyOf Try.f33)] (envOf [0] [.agg [.lit (.int .i64 a0.Next), .inl true .held a0.Held, .lit (.string a0.Open), .inl true .str a0.Ready]]) [] = spec_ValidTake k a0 := by kernel_rfl
theorem ok_spec_ValidTake (k : Nat) : SummOk Try.prog cod 33 (S_spec_ValidTake k) := by
  refine summ_of (T := T) Try.f33 (G_spec_ValidTake) L_spec_ValidTake false [.tmp 2] 0 D_spec_ValidTake mixed (fun k => Known.of tok eok codOk ?_) (fun k => QuietOk.of ?_) Try.func33 (by kernel_rfl) (by kernel_rfl) (by kernel_rfl) (by kernel_rfl) (by kernel_rfl) ?_ ?_ [] ?_
  · exact all_cons (ok_spec_l1In k) (all_cons (ok_spec_l5Near k) (all_cons (ok_spec_l5Can k) (all_nil)))
  · exact all_cons (fun h r => ⟨rfl, rfl⟩) (all_cons (fun h r => ⟨rfl, rfl⟩) (all_cons (fun h r => ⟨rfl, rfl⟩) (all_nil)))
  · intro v os r h
    unfold D_spec_ValidTake at h
    split at h <;> first | (cases h; rfl) | cases h
  · refine all_cons ?_ (all_cons ?_ (all_nil))
    · refine ⟨fun vs os => ?_, by kernel_rfl, fun k vs os r h => ?_⟩
      · show C_spec_ValidTake_4.fn 0 vs os = none
        unfold C_spec_ValidTake_4; dsimp only; split <;> rfl
      · change C_spec_ValidTake_4.fn (k + 1) vs os = some r at h
        unfold C_spec_ValidTake_4 at h; dsimp only at h
        split at h
        · exact ⟨4000, (c_spec_ValidTake_4 k _ _ _ _ _).trans h⟩
        · cases h
    · refine ⟨fun vs os => ?_, by kernel_rfl, fun k vs os r h => ?_⟩
      · show C_spec_ValidTake_9.fn 0 vs os = none
        unfold C_spec_ValidTake_9; dsimp only; split <;> rfl
      · change C_spec_ValidTake_9.fn (k + 1) vs os = some r at h
        unfold C_spec_ValidTake_9 at h; dsimp only at h
        split at h
        · exact ⟨4000, (c_spec_ValidTake_9 k _ _ _ _ _).trans h⟩
        · cases h
  · intro args os r h
    change (S_spec_ValidTake k).run args os = some r at h
    unfold S_spec_ValidTake at h; dsimp only at h
    split at h
    · exact ⟨Nat.le_of_ble_eq_true (by kernel_rfl), rfl, rfl, k, 4000, (e_spec_ValidTake k ⟨_, _, _, _⟩).trans h⟩
    · cases h
noncomputable def S_impl_goes (k : Nat) : Summ K TyK where
  R := Bool
  modes := [.bo, .bo]
  run := fun args objs => match args, objs with
    | [.agg [.lit (.int .i64 v1), .inl true .held v2, .lit (.string v3), .inl true .str v4], .agg [.lit (.string v5), .lit (.bool v6)]], [] => impl_goes k (⟨v1, v2, v3, v4⟩ : DTake) (⟨v5, v6⟩ : DPart)
    | _, _ => none
  ret := fun r => (.lit (.bool r), [])
  quiet := true
noncomputable def D_impl_goes (v : V) (os : Objs K TyK) : Option (Bool) :=
  match v, os with
  | .lit (.bool v1), [] => some v1
  | _, _ => none
noncomputable abbrev G_impl_goes (k : Nat) : FuncId → Option (Summ K TyK) := lookT []
noncomputable abbrev L_impl_goes : List (Nat × Cut K TyK (Bool)) := []
theorem e_impl_goes (k : Nat) (a0 : DTake) (a1 : DPart) : run cod T (G_impl_goes k) (lam L_impl_goes k) (cutsOf L_impl_goes) 0 (finish cod T false 0 [.tmp 4] D_impl_goes) 4000 false [.code (bodyOf Try.f90)] (envOf [0, 1] [.agg [.lit (.int .i64 a0.Next), .inl true .held a0.Held, .lit (.string a0.Open), .inl true .str a0.Ready], .agg [.lit (.string a1.Text), .lit (.bool a1.Last)]]) [] = impl_goes k a0 a1 := by kernel_rfl
theorem ok_impl_goes (k : Nat) : SummOk Try.prog cod 90 (S_impl_goes k) := by
  refine summ_of (T := T) Try.f90 (G_impl_goes) L_impl_goes false [.tmp 4] 0 D_impl_goes mixed (fun k => Known.of tok eok codOk ?_) (fun k => QuietOk.of ?_) Try.func90 (by kernel_rfl) (by kernel_rfl) (by kernel_rfl) (by kernel_rfl) (by kernel_rfl) ?_ ?_ [] ?_
  · exact all_nil
  · exact all_nil
  · intro v os r h
    unfold D_impl_goes at h
    split at h <;> first | (cases h; rfl) | cases h
  · refine all_nil
  · intro args os r h
    change (S_impl_goes k).run args os = some r at h
    unfold S_impl_goes at h; dsimp only at h
    split at h
    · exact ⟨Nat.le_of_ble_eq_true (by kernel_rfl), rfl, rfl, k, 4000, (e_impl_goes k ⟨_, _, _, _⟩ ⟨_, _⟩).trans h⟩
    · cases h
noncomputable def S_impl_ValidTake (k : Nat) : Summ K TyK where
  R := Bool
  modes := [.bo]
  run := fun args objs => match args, objs with
    | [.agg [.lit (.int .i64 v1), .inl true .held v2, .lit (.string v3), .inl true .str v4]], [] => impl_ValidTake k (⟨v1, v2, v3, v4⟩ : DTake)
    | _, _ => none
  ret := fun r => (.lit (.bool r), [])
  quiet := true
noncomputable def D_impl_ValidTake (v : V) (os : Objs K TyK) : Option (Bool) :=
  match v, os with
  | .lit (.bool v1), [] => some v1
  | _, _ => none
noncomputable def C_impl_ValidTake_4 : Cut K TyK (Bool) where
  slots := [1, 30, 31, 32]
  fn := fun k vs os => match vs, os with
    | [.ref 0 0, .inl true .held x0, .lit (.int .i64 x1), .lit (.int .i64 x2)], [.box [.lit (.int .i64 x3), .inl true .held x4, .lit (.string x5), .inl true .str x6]] => impl_ValidTake_l4 k x0 x1 x2 x3 x4 x5 x6
    | _, _ => none
noncomputable def C_impl_ValidTake_12 : Cut K TyK (Bool) where
  slots := [88, 89, 90]
  fn := fun k vs os => match vs, os with
    | [.inl true .str x0, .lit (.int .i64 x1), .lit (.int .i64 x2)], [] => impl_ValidTake_l12 k x0 x1 x2
    | _, _ => none
noncomputable abbrev G_impl_ValidTake (k : Nat) : FuncId → Option (Summ K TyK) := lookT [(89, S_impl_in k), (90, S_impl_goes k)]
noncomputable abbrev L_impl_ValidTake : List (Nat × Cut K TyK (Bool)) := [(4, C_impl_ValidTake_4), (12, C_impl_ValidTake_12)]
theorem c_impl_ValidTake_4 (k : Nat) (x0 : List DHeld) (x1 : Int) (x2 : Int) (x3 : Int) (x4 : List DHeld) (x5 : ByteArray) (x6 : List ByteArray) : run cod T (G_impl_ValidTake k) (lam L_impl_ValidTake k) (cutsOf L_impl_ValidTake) 0 (finish cod T false 0 [.tmp 2] D_impl_ValidTake) 4000 true (todoAt 4 (bodyOf Try.f35)) (envOf [1, 30, 31, 32] [.ref 0 0, .inl true .held x0, .lit (.int .i64 x1), .lit (.int .i64 x2)]) [.box [.lit (.int .i64 x3), .inl true .held x4, .lit (.string x5), .inl true .str x6]] = impl_ValidTake_l4 (k + 1) x0 x1 x2 x3 x4 x5 x6 := by kernel_rfl
theorem c_impl_ValidTake_12 (k : Nat) (x0 : List ByteArray) (x1 : Int) (x2 : Int) : run cod T (G_impl_ValidTake k) (lam L_impl_ValidTake k) (cutsOf L_impl_ValidTake) 0 (finish cod T false 0 [.tmp 2] D_impl_ValidTake) 4000 true (todoAt 12 (bodyOf Try.f35)) (envOf [88, 89, 90] [.inl true .str x0, .lit (.int .i64 x1), .lit (.int .i64 x2)]) [] = impl_ValidTake_l12 (k + 1) x0 x1 x2 := by kernel_rfl
theorem e_impl_ValidTake (k : Nat) (a0 : DTake) : run cod T (G_impl_ValidTake k) (lam L_impl_ValidTake k) (cutsOf L_impl_ValidTake) 0 (finish cod T false 0 [.tmp 2] D_impl_ValidTake) 4000 false [.code (bodyOf Try.f35)] (envOf [0] [.agg [.lit (.int .i64 a0.Next), .inl true .held a0.Held, .lit (.string a0.Open), .inl true .str a0.Ready]]) [] = impl_ValidTake k a0 := by kernel_rfl
theorem ok_impl_ValidTake (k : Nat) : SummOk Try.prog cod 35 (S_impl_ValidTake k) := by
  refine summ_of (T := T) Try.f35 (G_impl_ValidTake) L_impl_ValidTake false [.tmp 2] 0 D_impl_ValidTake mixed (fun k => Known.of tok eok codOk ?_) (fun k => QuietOk.of ?_) Try.func35 (by kernel_rfl) (by kernel_rfl) (by kernel_rfl) (by kernel_rfl) (by kernel_rfl) ?_ ?_ [] ?_
  · exact all_cons (ok_impl_in k) (all_cons (ok_impl_goes k) (all_nil))
  · exact all_cons (fun h r => ⟨rfl, rfl⟩) (all_cons (fun h r => ⟨rfl, rfl⟩) (all_nil))
  · intro v os r h
    unfold D_impl_ValidTake at h
    split at h <;> first | (cases h; rfl) | cases h
  · refine all_cons ?_ (all_cons ?_ (all_nil))
    · refine ⟨fun vs os => ?_, by kernel_rfl, fun k vs os r h => ?_⟩
      · show C_impl_ValidTake_4.fn 0 vs os = none
        unfold C_impl_ValidTake_4; dsimp only; split <;> rfl
      · change C_impl_ValidTake_4.fn (k + 1) vs os = some r at h
        unfold C_impl_ValidTake_4 at h; dsimp only at h
        split at h
        · exact ⟨4000, (c_impl_ValidTake_4 k _ _ _ _ _ _ _).trans h⟩
        · cases h
    · refine ⟨fun vs os => ?_, by kernel_rfl, fun k vs os r h => ?_⟩
      · show C_impl_ValidTake_12.fn 0 vs os = none
        unfold C_impl_ValidTake_12; dsimp only; split <;> rfl
      · change C_impl_ValidTake_12.fn (k + 1) vs os = some r at h
        unfold C_impl_ValidTake_12 at h; dsimp only at h
        split at h
        · exact ⟨4000, (c_impl_ValidTake_12 k _ _ _).trans h⟩
        · cases h
  · intro args os r h
    change (S_impl_ValidTake k).run args os = some r at h
    unfold S_impl_ValidTake at h; dsimp only at h
    split at h
    · exact ⟨Nat.le_of_ble_eq_true (by kernel_rfl), rfl, rfl, k, 4000, (e_impl_ValidTake k ⟨_, _, _, _⟩).trans h⟩
    · cases h
noncomputable def S_laws_eqHeld (k : Nat) : Summ K TyK where
  R := Bool
  modes := [.bo, .bo]
  run := fun args objs => match args, objs with
    | [.agg [.lit (.int .i64 v1), .lit (.string v2), .lit (.bool v3)], .agg [.lit (.int .i64 v4), .lit (.string v5), .lit (.bool v6)]], [] => laws_eqHeld k (⟨v1, (⟨v2, v3⟩ : DPart)⟩ : DHeld) (⟨v4, (⟨v5, v6⟩ : DPart)⟩ : DHeld)
    | _, _ => none
  ret := fun r => (.lit (.bool r), [])
  quiet := true
noncomputable def D_laws_eqHeld (v : V) (os : Objs K TyK) : Option (Bool) :=
  match v, os with
  | .lit (.bool v1), [] => some v1
  | _, _ => none
noncomputable abbrev G_laws_eqHeld (k : Nat) : FuncId → Option (Summ K TyK) := lookT [(73, S_laws_eqPart k)]
noncomputable abbrev L_laws_eqHeld : List (Nat × Cut K TyK (Bool)) := []
theorem e_laws_eqHeld (k : Nat) (a0 : DHeld) (a1 : DHeld) : run cod T (G_laws_eqHeld k) (lam L_laws_eqHeld k) (cutsOf L_laws_eqHeld) 0 (finish cod T false 0 [.tmp 4] D_laws_eqHeld) 4000 false [.code (bodyOf Try.f115)] (envOf [0, 1] [.agg [.lit (.int .i64 a0.Seq), .lit (.string a0.Part.Text), .lit (.bool a0.Part.Last)], .agg [.lit (.int .i64 a1.Seq), .lit (.string a1.Part.Text), .lit (.bool a1.Part.Last)]]) [] = laws_eqHeld k a0 a1 := by kernel_rfl
theorem ok_laws_eqHeld (k : Nat) : SummOk Try.prog cod 115 (S_laws_eqHeld k) := by
  refine summ_of (T := T) Try.f115 (G_laws_eqHeld) L_laws_eqHeld false [.tmp 4] 0 D_laws_eqHeld mixed (fun k => Known.of tok eok codOk ?_) (fun k => QuietOk.of ?_) Try.func115 (by kernel_rfl) (by kernel_rfl) (by kernel_rfl) (by kernel_rfl) (by kernel_rfl) ?_ ?_ [] ?_
  · exact all_cons (ok_laws_eqPart k) (all_nil)
  · exact all_cons (fun h r => ⟨rfl, rfl⟩) (all_nil)
  · intro v os r h
    unfold D_laws_eqHeld at h
    split at h <;> first | (cases h; rfl) | cases h
  · refine all_nil
  · intro args os r h
    change (S_laws_eqHeld k).run args os = some r at h
    unfold S_laws_eqHeld at h; dsimp only at h
    split at h
    · exact ⟨Nat.le_of_ble_eq_true (by kernel_rfl), rfl, rfl, k, 4000, (e_laws_eqHeld k ⟨_, ⟨_, _⟩⟩ ⟨_, ⟨_, _⟩⟩).trans h⟩
    · cases h
noncomputable def S_laws_eqHeldS (k : Nat) : Summ K TyK where
  R := Bool
  modes := [.bo, .bo]
  run := fun args objs => match args, objs with
    | [.inl true .held v1, .inl true .held v2], [] => laws_eqHeldS k v1 v2
    | _, _ => none
  ret := fun r => (.lit (.bool r), [])
  quiet := true
noncomputable def D_laws_eqHeldS (v : V) (os : Objs K TyK) : Option (Bool) :=
  match v, os with
  | .lit (.bool v1), [] => some v1
  | _, _ => none
noncomputable def C_laws_eqHeldS_4 : Cut K TyK (Bool) where
  slots := [0, 1, 5]
  fn := fun k vs os => match vs, os with
    | [.inl true .held x0, .inl true .held x1, .lit (.int .i64 x2)], [] => laws_eqHeldS_l4 k x0 x1 x2
    | _, _ => none
noncomputable abbrev G_laws_eqHeldS (k : Nat) : FuncId → Option (Summ K TyK) := lookT [(115, S_laws_eqHeld k)]
noncomputable abbrev L_laws_eqHeldS : List (Nat × Cut K TyK (Bool)) := [(4, C_laws_eqHeldS_4)]
theorem c_laws_eqHeldS_4 (k : Nat) (x0 : List DHeld) (x1 : List DHeld) (x2 : Int) : run cod T (G_laws_eqHeldS k) (lam L_laws_eqHeldS k) (cutsOf L_laws_eqHeldS) 0 (finish cod T false 0 [.tmp 4] D_laws_eqHeldS) 4000 true (todoAt 4 (bodyOf Try.f91)) (envOf [0, 1, 5] [.inl true .held x0, .inl true .held x1, .lit (.int .i64 x2)]) [] = laws_eqHeldS_l4 (k + 1) x0 x1 x2 := by kernel_rfl
theorem e_laws_eqHeldS (k : Nat) (a0 : List DHeld) (a1 : List DHeld) : run cod T (G_laws_eqHeldS k) (lam L_laws_eqHeldS k) (cutsOf L_laws_eqHeldS) 0 (finish cod T false 0 [.tmp 4] D_laws_eqHeldS) 4000 false [.code (bodyOf Try.f91)] (envOf [0, 1] [.inl true .held a0, .inl true .held a1]) [] = laws_eqHeldS k a0 a1 := by kernel_rfl
theorem ok_laws_eqHeldS (k : Nat) : SummOk Try.prog cod 91 (S_laws_eqHeldS k) := by
  refine summ_of (T := T) Try.f91 (G_laws_eqHeldS) L_laws_eqHeldS false [.tmp 4] 0 D_laws_eqHeldS mixed (fun k => Known.of tok eok codOk ?_) (fun k => QuietOk.of ?_) Try.func91 (by kernel_rfl) (by kernel_rfl) (by kernel_rfl) (by kernel_rfl) (by kernel_rfl) ?_ ?_ [] ?_
  · exact all_cons (ok_laws_eqHeld k) (all_nil)
  · exact all_cons (fun h r => ⟨rfl, rfl⟩) (all_nil)
  · intro v os r h
    unfold D_laws_eqHeldS at h
    split at h <;> first | (cases h; rfl) | cases h
  · refine all_cons ?_ (all_nil)
    · refine ⟨fun vs os => ?_, by kernel_rfl, fun k vs os r h => ?_⟩
      · show C_laws_eqHeldS_4.fn 0 vs os = none
        unfold C_laws_eqHeldS_4; dsimp only; split <;> rfl
      · change C_laws_eqHeldS_4.fn (k + 1) vs os = some r at h
        unfold C_laws_eqHeldS_4 at h; dsimp only at h
        split at h
        · exact ⟨4000, (c_laws_eqHeldS_4 k _ _ _).trans h⟩
        · cases h
  · intro args os r h
    change (S_laws_eqHeldS k).run args os = some r at h
    unfold S_laws_eqHeldS at h; dsimp only at h
    split at h
    · exact ⟨Nat.le_of_ble_eq_true (by kernel_rfl), rfl, rfl, k, 4000, (e_laws_eqHeldS k _ _).trans h⟩
    · cases h
noncomputable def S_laws_eqTake (k : Nat) : Summ K TyK where
  R := Bool
  modes := [.bo, .bo]
  run := fun args objs => match args, objs with
    | [.agg [.lit (.int .i64 v1), .inl true .held v2, .lit (.string v3), .inl true .str v4], .agg [.lit (.int .i64 v5), .inl true .held v6, .lit (.string v7), .inl true .str v8]], [] => laws_eqTake k (⟨v1, v2, v3, v4⟩ : DTake) (⟨v5, v6, v7, v8⟩ : DTake)
    | _, _ => none
  ret := fun r => (.lit (.bool r), [])
  quiet := true
noncomputable def D_laws_eqTake (v : V) (os : Objs K TyK) : Option (Bool) :=
  match v, os with
  | .lit (.bool v1), [] => some v1
  | _, _ => none
noncomputable abbrev G_laws_eqTake (k : Nat) : FuncId → Option (Summ K TyK) := lookT [(91, S_laws_eqHeldS k), (19, S_laws_eqStringS k)]
noncomputable abbrev L_laws_eqTake : List (Nat × Cut K TyK (Bool)) := []
theorem e_laws_eqTake (k : Nat) (a0 : DTake) (a1 : DTake) : run cod T (G_laws_eqTake k) (lam L_laws_eqTake k) (cutsOf L_laws_eqTake) 0 (finish cod T false 0 [.tmp 4] D_laws_eqTake) 4000 false [.code (bodyOf Try.f36)] (envOf [0, 1] [.agg [.lit (.int .i64 a0.Next), .inl true .held a0.Held, .lit (.string a0.Open), .inl true .str a0.Ready], .agg [.lit (.int .i64 a1.Next), .inl true .held a1.Held, .lit (.string a1.Open), .inl true .str a1.Ready]]) [] = laws_eqTake k a0 a1 := by kernel_rfl
theorem ok_laws_eqTake (k : Nat) : SummOk Try.prog cod 36 (S_laws_eqTake k) := by
  refine summ_of (T := T) Try.f36 (G_laws_eqTake) L_laws_eqTake false [.tmp 4] 0 D_laws_eqTake mixed (fun k => Known.of tok eok codOk ?_) (fun k => QuietOk.of ?_) Try.func36 (by kernel_rfl) (by kernel_rfl) (by kernel_rfl) (by kernel_rfl) (by kernel_rfl) ?_ ?_ [] ?_
  · exact all_cons (ok_laws_eqHeldS k) (all_cons (ok_laws_eqStringS k) (all_nil))
  · exact all_cons (fun h r => ⟨rfl, rfl⟩) (all_cons (fun h r => ⟨rfl, rfl⟩) (all_nil))
  · intro v os r h
    unfold D_laws_eqTake at h
    split at h <;> first | (cases h; rfl) | cases h
  · refine all_nil
  · intro args os r h
    change (S_laws_eqTake k).run args os = some r at h
    unfold S_laws_eqTake at h; dsimp only at h
    split at h
    · exact ⟨Nat.le_of_ble_eq_true (by kernel_rfl), rfl, rfl, k, 4000, (e_laws_eqTake k ⟨_, _, _, _⟩ ⟨_, _, _, _⟩).trans h⟩
    · cases h
noncomputable def S_spec_TakeWord (k : Nat) : Summ K TyK where
  R := Int × Int
  modes := [.bo]
  run := fun args objs => match args, objs with
    | [.agg [.lit (.int .i64 v1), .inl true .held v2, .lit (.string v3), .inl true .str v4]], [] => spec_TakeWord k (⟨v1, v2, v3, v4⟩ : DTake)
    | _, _ => none
  ret := fun r => (.tup [.lit (.int .i64 r.1), .lit (.int .i64 r.2)], [])
  quiet := true
noncomputable def D_spec_TakeWord (v : V) (os : Objs K TyK) : Option (Int × Int) :=
  match v, os with
  | .tup [.lit (.int .i64 v1), .lit (.int .i64 v2)], [] => some (v1, v2)
  | _, _ => none
noncomputable def C_spec_TakeWord_5 : Cut K TyK (Int × Int) where
  slots := [1, 4, 5]
  fn := fun k vs os => match vs, os with
    | [.ref 0 0, .lit (.int .i64 x0), .lit (.int .i64 x1)], [.box [.lit (.int .i64 x2), .inl true .held x3, .lit (.string x4), .inl true .str x5]] => spec_TakeWord_l5 k x0 x1 x2 x3 x4 x5
    | _, _ => none
noncomputable def C_spec_TakeWord_9 : Cut K TyK (Int × Int) where
  slots := [1, 4, 5, 6, 7]
  fn := fun k vs os => match vs, os with
    | [.ref 0 0, .lit (.int .i64 x0), .lit (.int .i64 x1), .lit (.int .i64 x2), .lit (.int .i64 x3)], [.box [.lit (.int .i64 x4), .inl true .held x5, .lit (.string x6), .inl true .str x7]] => spec_TakeWord_l9 k x0 x1 x2 x3 x4 x5 x6 x7
    | _, _ => none
noncomputable abbrev G_spec_TakeWord (k : Nat) : FuncId → Option (Summ K TyK) := lookT [(33, S_spec_ValidTake k)]
noncomputable abbrev L_spec_TakeWord : List (Nat × Cut K TyK (Int × Int)) := [(5, C_spec_TakeWord_5), (9, C_spec_TakeWord_9)]
theorem c_spec_TakeWord_5 (k : Nat) (x0 : Int) (x1 : Int) (x2 : Int) (x3 : List DHeld) (x4 : ByteArray) (x5 : List ByteArray) : run cod T (G_spec_TakeWord k) (lam L_spec_TakeWord k) (cutsOf L_spec_TakeWord) 0 (finish cod T false 0 [.tmp 2, .tmp 3] D_spec_TakeWord) 4000 true (todoAt 5 (bodyOf Try.f41)) (envOf [1, 4, 5] [.ref 0 0, .lit (.int .i64 x0), .lit (.int .i64 x1)]) [.box [.lit (.int .i64 x2), .inl true .held x3, .lit (.string x4), .inl true .str x5]] = spec_TakeWord_l5 (k + 1) x0 x1 x2 x3 x4 x5 := by kernel_rfl
theorem c_spec_TakeWord_9 (k : Nat) (x0 : Int) (x1 : Int) (x2 : Int) (x3 : Int) (x4 : Int) (x5 : List DHeld) (x6 : ByteArray) (x7 : List ByteArray) : run cod T (G_spec_TakeWord k) (lam L_spec_TakeWord k) (cutsOf L_spec_TakeWord) 0 (finish cod T false 0 [.tmp 2, .tmp 3] D_spec_TakeWord) 4000 true (todoAt 9 (bodyOf Try.f41)) (envOf [1, 4, 5, 6, 7] [.ref 0 0, .lit (.int .i64 x0), .lit (.int .i64 x1), .lit (.int .i64 x2), .lit (.int .i64 x3)]) [.box [.lit (.int .i64 x4), .inl true .held x5, .lit (.string x6), .inl true .str x7]] = spec_TakeWord_l9 (k + 1) x0 x1 x2 x3 x4 x5 x6 x7 := by kernel_rfl
theorem e_spec_TakeWord (k : Nat) (a0 : DTake) : run cod T (G_spec_TakeWord k) (lam L_spec_TakeWord k) (cutsOf L_spec_TakeWord) 0 (finish cod T false 0 [.tmp 2, .tmp 3] D_spec_TakeWord) 4000 false [.code (bodyOf Try.f41)] (envOf [0] [.agg [.lit (.int .i64 a0.Next), .inl true .held a0.Held, .lit (.string a0.Open), .inl true .str a0.Ready]]) [] = spec_TakeWord k a0 := by kernel_rfl
theorem ok_spec_TakeWord (k : Nat) : SummOk Try.prog cod 41 (S_spec_TakeWord k) := by
  refine summ_of (T := T) Try.f41 (G_spec_TakeWord) L_spec_TakeWord false [.tmp 2, .tmp 3] 0 D_spec_TakeWord mixed (fun k => Known.of tok eok codOk ?_) (fun k => QuietOk.of ?_) Try.func41 (by kernel_rfl) (by kernel_rfl) (by kernel_rfl) (by kernel_rfl) (by kernel_rfl) ?_ ?_ [] ?_
  · exact all_cons (ok_spec_ValidTake k) (all_nil)
  · exact all_cons (fun h r => ⟨rfl, rfl⟩) (all_nil)
  · intro v os r h
    unfold D_spec_TakeWord at h
    split at h <;> first | (cases h; rfl) | cases h
  · refine all_cons ?_ (all_cons ?_ (all_nil))
    · refine ⟨fun vs os => ?_, by kernel_rfl, fun k vs os r h => ?_⟩
      · show C_spec_TakeWord_5.fn 0 vs os = none
        unfold C_spec_TakeWord_5; dsimp only; split <;> rfl
      · change C_spec_TakeWord_5.fn (k + 1) vs os = some r at h
        unfold C_spec_TakeWord_5 at h; dsimp only at h
        split at h
        · exact ⟨4000, (c_spec_TakeWord_5 k _ _ _ _ _ _).trans h⟩
        · cases h
    · refine ⟨fun vs os => ?_, by kernel_rfl, fun k vs os r h => ?_⟩
      · show C_spec_TakeWord_9.fn 0 vs os = none
        unfold C_spec_TakeWord_9; dsimp only; split <;> rfl
      · change C_spec_TakeWord_9.fn (k + 1) vs os = some r at h
        unfold C_spec_TakeWord_9 at h; dsimp only at h
        split at h
        · exact ⟨4000, (c_spec_TakeWord_9 k _ _ _ _ _ _ _ _).trans h⟩
        · cases h
  · intro args os r h
    change (S_spec_TakeWord k).run args os = some r at h
    unfold S_spec_TakeWord at h; dsimp only at h
    split at h
    · exact ⟨Nat.le_of_ble_eq_true (by kernel_rfl), rfl, rfl, k, 4000, (e_spec_TakeWord k ⟨_, _, _, _⟩).trans h⟩
    · cases h
noncomputable def S_impl_TakeWord (k : Nat) : Summ K TyK where
  R := Int × Int
  modes := [.bo]
  run := fun args objs => match args, objs with
    | [.agg [.lit (.int .i64 v1), .inl true .held v2, .lit (.string v3), .inl true .str v4]], [] => impl_TakeWord k (⟨v1, v2, v3, v4⟩ : DTake)
    | _, _ => none
  ret := fun r => (.tup [.lit (.int .i64 r.1), .lit (.int .i64 r.2)], [])
  quiet := true
noncomputable def D_impl_TakeWord (v : V) (os : Objs K TyK) : Option (Int × Int) :=
  match v, os with
  | .tup [.lit (.int .i64 v1), .lit (.int .i64 v2)], [] => some (v1, v2)
  | _, _ => none
noncomputable def C_impl_TakeWord_5 : Cut K TyK (Int × Int) where
  slots := [1, 4, 11, 12, 13]
  fn := fun k vs os => match vs, os with
    | [.ref 0 0, .lit (.int .i64 x0), .inl true .held x1, .lit (.int .i64 x2), .lit (.int .i64 x3)], [.box [.lit (.int .i64 x4), .inl true .held x5, .lit (.string x6), .inl true .str x7]] => impl_TakeWord_l5 k x0 x1 x2 x3 x4 x5 x6 x7
    | _, _ => none
noncomputable abbrev G_impl_TakeWord (k : Nat) : FuncId → Option (Summ K TyK) := lookT [(35, S_impl_ValidTake k)]
noncomputable abbrev L_impl_TakeWord : List (Nat × Cut K TyK (Int × Int)) := [(5, C_impl_TakeWord_5)]
theorem c_impl_TakeWord_5 (k : Nat) (x0 : Int) (x1 : List DHeld) (x2 : Int) (x3 : Int) (x4 : Int) (x5 : List DHeld) (x6 : ByteArray) (x7 : List ByteArray) : run cod T (G_impl_TakeWord k) (lam L_impl_TakeWord k) (cutsOf L_impl_TakeWord) 0 (finish cod T false 0 [.tmp 2, .tmp 3] D_impl_TakeWord) 4000 true (todoAt 5 (bodyOf Try.f42)) (envOf [1, 4, 11, 12, 13] [.ref 0 0, .lit (.int .i64 x0), .inl true .held x1, .lit (.int .i64 x2), .lit (.int .i64 x3)]) [.box [.lit (.int .i64 x4), .inl true .held x5, .lit (.string x6), .inl true .str x7]] = impl_TakeWord_l5 (k + 1) x0 x1 x2 x3 x4 x5 x6 x7 := by kernel_rfl
theorem e_impl_TakeWord (k : Nat) (a0 : DTake) : run cod T (G_impl_TakeWord k) (lam L_impl_TakeWord k) (cutsOf L_impl_TakeWord) 0 (finish cod T false 0 [.tmp 2, .tmp 3] D_impl_TakeWord) 4000 false [.code (bodyOf Try.f42)] (envOf [0] [.agg [.lit (.int .i64 a0.Next), .inl true .held a0.Held, .lit (.string a0.Open), .inl true .str a0.Ready]]) [] = impl_TakeWord k a0 := by kernel_rfl
theorem ok_impl_TakeWord (k : Nat) : SummOk Try.prog cod 42 (S_impl_TakeWord k) := by
  refine summ_of (T := T) Try.f42 (G_impl_TakeWord) L_impl_TakeWord false [.tmp 2, .tmp 3] 0 D_impl_TakeWord mixed (fun k => Known.of tok eok codOk ?_) (fun k => QuietOk.of ?_) Try.func42 (by kernel_rfl) (by kernel_rfl) (by kernel_rfl) (by kernel_rfl) (by kernel_rfl) ?_ ?_ [] ?_
  · exact all_cons (ok_impl_ValidTake k) (all_nil)
  · exact all_cons (fun h r => ⟨rfl, rfl⟩) (all_nil)
  · intro v os r h
    unfold D_impl_TakeWord at h
    split at h <;> first | (cases h; rfl) | cases h
  · refine all_cons ?_ (all_nil)
    · refine ⟨fun vs os => ?_, by kernel_rfl, fun k vs os r h => ?_⟩
      · show C_impl_TakeWord_5.fn 0 vs os = none
        unfold C_impl_TakeWord_5; dsimp only; split <;> rfl
      · change C_impl_TakeWord_5.fn (k + 1) vs os = some r at h
        unfold C_impl_TakeWord_5 at h; dsimp only at h
        split at h
        · exact ⟨4000, (c_impl_TakeWord_5 k _ _ _ _ _ _ _ _).trans h⟩
        · cases h
  · intro args os r h
    change (S_impl_TakeWord k).run args os = some r at h
    unfold S_impl_TakeWord at h; dsimp only at h
    split at h
    · exact ⟨Nat.le_of_ble_eq_true (by kernel_rfl), rfl, rfl, k, 4000, (e_impl_TakeWord k ⟨_, _, _, _⟩).trans h⟩
    · cases h
noncomputable def S_laws_FnExactTakeWord (k : Nat) : Summ K TyK where
  R := Bool
  modes := [.pe]
  run := fun args objs => match args, objs with
    | [.agg [.lit (.int .i64 v1), .inl false .held v2, .lit (.string v3), .inl false .str v4]], [] => laws_FnExactTakeWord k (⟨v1, v2, v3, v4⟩ : DTake)
    | _, _ => none
  ret := fun r => (.lit (.bool r), [])
  quiet := true
noncomputable def D_laws_FnExactTakeWord (v : V) (os : Objs K TyK) : Option (Bool) :=
  match v, os with
  | .lit (.bool v1), [] => some v1
  | _, _ => none
noncomputable abbrev G_laws_FnExactTakeWord (k : Nat) : FuncId → Option (Summ K TyK) := lookT [(32, S_laws_szTake k), (34, S_laws_toTake k), (41, S_spec_TakeWord k), (42, S_impl_TakeWord k), (36, S_laws_eqTake k)]
noncomputable abbrev L_laws_FnExactTakeWord : List (Nat × Cut K TyK (Bool)) := []
theorem e_laws_FnExactTakeWord (k : Nat) (a0 : DTake) : run cod T (G_laws_FnExactTakeWord k) (lam L_laws_FnExactTakeWord k) (cutsOf L_laws_FnExactTakeWord) 0 (finish cod T false 0 [.tmp 2] D_laws_FnExactTakeWord) 4000 false [.code (bodyOf Try.f8)] (envOf [0] [.agg [.lit (.int .i64 a0.Next), .inl false .held a0.Held, .lit (.string a0.Open), .inl false .str a0.Ready]]) [] = laws_FnExactTakeWord k a0 := by kernel_rfl
theorem ok_laws_FnExactTakeWord (k : Nat) : SummOk Try.prog cod 8 (S_laws_FnExactTakeWord k) := by
  refine summ_of (T := T) Try.f8 (G_laws_FnExactTakeWord) L_laws_FnExactTakeWord false [.tmp 2] 0 D_laws_FnExactTakeWord mixed (fun k => Known.of tok eok codOk ?_) (fun k => QuietOk.of ?_) Try.func8 (by kernel_rfl) (by kernel_rfl) (by kernel_rfl) (by kernel_rfl) (by kernel_rfl) ?_ ?_ [] ?_
  · exact all_cons (ok_laws_szTake k) (all_cons (ok_laws_toTake k) (all_cons (ok_spec_TakeWord k) (all_cons (ok_impl_TakeWord k) (all_cons (ok_laws_eqTake k) (all_nil)))))
  · exact all_cons (fun h r => ⟨rfl, rfl⟩) (all_cons (fun h r => by cases h) (all_cons (fun h r => ⟨rfl, rfl⟩) (all_cons (fun h r => ⟨rfl, rfl⟩) (all_cons (fun h r => ⟨rfl, rfl⟩) (all_nil)))))
  · intro v os r h
    unfold D_laws_FnExactTakeWord at h
    split at h <;> first | (cases h; rfl) | cases h
  · refine all_nil
  · intro args os r h
    change (S_laws_FnExactTakeWord k).run args os = some r at h
    unfold S_laws_FnExactTakeWord at h; dsimp only at h
    split at h
    · exact ⟨Nat.le_of_ble_eq_true (by kernel_rfl), rfl, rfl, k, 4000, (e_laws_FnExactTakeWord k ⟨_, _, _, _⟩).trans h⟩
    · cases h
end Km.X
