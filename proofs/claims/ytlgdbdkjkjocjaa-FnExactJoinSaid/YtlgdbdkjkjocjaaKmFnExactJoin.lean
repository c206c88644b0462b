/- A part of the proof of FnExactJoin: each function does what its reading says. There is no condition. -/
import Derived.Test.YtlgdbdkjkjocjaaKmSeat
import Derived.Test.YtlgdbdkjkjocjaaKxDef
namespace Km.X
open Go Km Go.Proofs
set_option linter.unusedVariables false
set_option maxRecDepth 100000
set_option maxHeartbeats 4000000
noncomputable def S_laws_szPart (k : Nat) : Summ K TyK where
  R := Int
  modes := [.bo, .bo]
  run := fun args objs => match args, objs with
    | [.agg [.lit (.string v1), .lit (.bool v2)], .lit (.int .i64 v3)], [] => laws_szPart k (⟨v1, v2⟩ : DPart) v3
    | _, _ => none
  ret := fun r => (.lit (.int .i64 r), [])
  quiet := true
noncomputable def D_laws_szPart (v : V) (os : Objs K TyK) : Option (Int) :=
  match v, os with
  | .lit (.int .i64 v1), [] => some v1
  | _, _ => none
noncomputable abbrev G_laws_szPart (k : Nat) : FuncId → Option (Summ K TyK) := lookT []
noncomputable abbrev L_laws_szPart : List (Nat × Cut K TyK (Int)) := []
theorem e_laws_szPart (k : Nat) (a0 : DPart) (a1 : Int) : run cod T (G_laws_szPart k) (lam L_laws_szPart k) (cutsOf L_laws_szPart) 0 (finish cod T false 0 [.tmp 4] D_laws_szPart) 4000 false [.code (bodyOf Try.f71)] (envOf [0, 1] [.agg [.lit (.string a0.Text), .lit (.bool a0.Last)], .lit (.int .i64 a1)]) [] = laws_szPart k a0 a1 := by kernel_rfl
theorem ok_laws_szPart (k : Nat) : SummOk Try.prog cod 71 (S_laws_szPart k) := by
  refine summ_of (T := T) Try.f71 (G_laws_szPart) L_laws_szPart false [.tmp 4] 0 D_laws_szPart mixed (fun k => Known.of tok eok codOk ?_) (fun k => QuietOk.of ?_) Try.func71 (by kernel_rfl) (by kernel_rfl) (by kernel_rfl) (by kernel_rfl) (by kernel_rfl) ?_ ?_ [] ?_
  · exact all_nil
  · exact all_nil
  · intro v os r h
    unfold D_laws_szPart at h
    split at h <;> first | (cases h; rfl) | cases h
  · refine all_nil
  · intro args os r h
    change (S_laws_szPart k).run args os = some r at h
    unfold S_laws_szPart at h; dsimp only at h
    split at h
    · exact ⟨Nat.le_of_ble_eq_true (by kernel_rfl), rfl, rfl, k, 4000, (e_laws_szPart k ⟨_, _⟩ _).trans h⟩
    · cases h
noncomputable def S_laws_szPartS (k : Nat) : Summ K TyK where
  R := Int
  modes := [.bo, .bo]
  run := fun args objs => match args, objs with
    | [.inl true .part v1, .lit (.int .i64 v2)], [] => laws_szPartS k v1 v2
    | _, _ => none
  ret := fun r => (.lit (.int .i64 r), [])
  quiet := true
noncomputable def D_laws_szPartS (v : V) (os : Objs K TyK) : Option (Int) :=
  match v, os with
  | .lit (.int .i64 v1), [] => some v1
  | _, _ => none
noncomputable def C_laws_szPartS_5 : Cut K TyK (Int) where
  slots := [0, 1, 5]
  fn := fun k vs os => match vs, os with
    | [.inl true .part x0, .lit (.int .i64 x1), .lit (.int .i64 x2)], [] => laws_szPartS_l5 k x0 x1 x2
    | _, _ => none
noncomputable abbrev G_laws_szPartS (k : Nat) : FuncId → Option (Summ K TyK) := lookT [(71, S_laws_szPart k)]
noncomputable abbrev L_laws_szPartS : List (Nat × Cut K TyK (Int)) := [(5, C_laws_szPartS_5)]
theorem c_laws_szPartS_5 (k : Nat) (x0 : List DPart) (x1 : Int) (x2 : Int) : run cod T (G_laws_szPartS k) (lam L_laws_szPartS k) (cutsOf L_laws_szPartS) 0 (finish cod T false 0 [.tmp 4] D_laws_szPartS) 4000 true (todoAt 5 (bodyOf Try.f15)) (envOf [0, 1, 5] [.inl true .part x0, .lit (.int .i64 x1), .lit (.int .i64 x2)]) [] = laws_szPartS_l5 (k + 1) x0 x1 x2 := by kernel_rfl
theorem e_laws_szPartS (k : Nat) (a0 : List DPart) (a1 : Int) : run cod T (G_laws_szPartS k) (lam L_laws_szPartS k) (cutsOf L_laws_szPartS) 0 (finish cod T false 0 [.tmp 4] D_laws_szPartS) 4000 false [.code (bodyOf Try.f15)] (envOf [0, 1] [.inl true .part a0, .lit (.int .i64 a1)]) [] = laws_szPartS k a0 a1 := by kernel_rfl
theorem ok_laws_szPartS (k : Nat) : SummOk Try.prog cod 15 (S_laws_szPartS k) := by
  refine summ_of (T := T) Try.f15 (G_laws_szPartS) L_laws_szPartS false [.tmp 4] 0 D_laws_szPartS mixed (fun k => Known.of tok eok codOk ?_) (fun k => QuietOk.of ?_) Try.func15 (by kernel_rfl) (by kernel_rfl) (by kernel_rfl) (by kernel_rfl) (by kernel_rfl) ?_ ?_ [] ?_
  · exact all_cons (ok_laws_szPart k) (all_nil)
  · exact all_cons (fun h r => ⟨rfl, rfl⟩) (all_nil)
  · intro v os r h
    unfold D_laws_szPartS at h
    split at h <;> first | (cases h; rfl) | cases h
  · refine all_cons ?_ (all_nil)
    · refine ⟨fun vs os => ?_, by kernel_rfl, fun k vs os r h => ?_⟩
      · show C_laws_szPartS_5.fn 0 vs os = none
        unfold C_laws_szPartS_5; dsimp only; split <;> rfl
      · change C_laws_szPartS_5.fn (k + 1) vs os = some r at h
        unfold C_laws_szPartS_5 at h; dsimp only at h
        split at h
        · exact ⟨4000, (c_laws_szPartS_5 k _ _ _).trans h⟩
        · cases h
  · intro args os r h
    change (S_laws_szPartS k).run args os = some r at h
    unfold S_laws_szPartS at h; dsimp only at h
    split at h
    · exact ⟨Nat.le_of_ble_eq_true (by kernel_rfl), rfl, rfl, k, 4000, (e_laws_szPartS k _ _).trans h⟩
    · cases h
noncomputable def S_laws_toPart (k : Nat) : Summ K TyK where
  R := DPart
  modes := [.bo]
  run := fun args objs => match args, objs with
    | [.agg [.lit (.string v1), .lit (.bool v2)]], [] => laws_toPart k (⟨v1, v2⟩ : DPart)
    | _, _ => none
  ret := fun r => (.agg [.lit (.string r.Text), .lit (.bool r.Last)], [])
  quiet := true
noncomputable def D_laws_toPart (v : V) (os : Objs K TyK) : Option (DPart) :=
  match v, os with
  | .agg [.lit (.string v1), .lit (.bool v2)], [] => some (⟨v1, v2⟩ : DPart)
  | _, _ => none
noncomputable abbrev G_laws_toPart (k : Nat) : FuncId → Option (Summ K TyK) := lookT []
noncomputable abbrev L_laws_toPart : List (Nat × Cut K TyK (DPart)) := []
theorem e_laws_toPart (k : Nat) (a0 : DPart) : run cod T (G_laws_toPart k) (lam L_laws_toPart k) (cutsOf L_laws_toPart) 0 (finish cod T false 0 [.cell 2 60] D_laws_toPart) 4000 false [.code (bodyOf Try.f72)] (envOf [0] [.agg [.lit (.string a0.Text), .lit (.bool a0.Last)]]) [] = laws_toPart k a0 := by kernel_rfl
theorem ok_laws_toPart (k : Nat) : SummOk Try.prog cod 72 (S_laws_toPart k) := by
  refine summ_of (T := T) Try.f72 (G_laws_toPart) L_laws_toPart false [.cell 2 60] 0 D_laws_toPart mixed (fun k => Known.of tok eok codOk ?_) (fun k => QuietOk.of ?_) Try.func72 (by kernel_rfl) (by kernel_rfl) (by kernel_rfl) (by kernel_rfl) (by kernel_rfl) ?_ ?_ [] ?_
  · exact all_nil
  · exact all_nil
  · intro v os r h
    unfold D_laws_toPart at h
    split at h <;> first | (cases h; rfl) | cases h
  · refine all_nil
  · intro args os r h
    change (S_laws_toPart k).run args os = some r at h
    unfold S_laws_toPart at h; dsimp only at h
    split at h
    · exact ⟨Nat.le_of_ble_eq_true (by kernel_rfl), rfl, rfl, k, 4000, (e_laws_toPart k ⟨_, _⟩).trans h⟩
    · cases h
noncomputable def S_laws_toPartS (k : Nat) : Summ K TyK where
  R := List DPart
  modes := [.bo]
  run := fun args objs => match args, objs with
    | [.inl true .part v1], [] => laws_toPartS k v1
    | _, _ => none
  ret := fun r => (.own 0, [.sl .part r])
  quiet := false
noncomputable def D_laws_toPartS (v : V) (os : Objs K TyK) : Option (List DPart) :=
  match v, os with
  | .own 0, [.sl .part v1] => some v1
  | _, _ => none
noncomputable def C_laws_toPartS_3 : Cut K TyK (List DPart) where
  slots := [0, 3, 4]
  fn := fun k vs os => match vs, os with
    | [.inl true .part x0, .own 0, .lit (.int .i64 x1)], [.sl .part x2] => laws_toPartS_l3 k x0 x1 x2
    | _, _ => none
noncomputable abbrev G_laws_toPartS (k : Nat) : FuncId → Option (Summ K TyK) := lookT [(72, S_laws_toPart k)]
noncomputable abbrev L_laws_toPartS : List (Nat × Cut K TyK (List DPart)) := [(3, C_laws_toPartS_3)]
theorem c_laws_toPartS_3 (k : Nat) (x0 : List DPart) (x1 : Int) (x2 : List DPart) : run cod T (G_laws_toPartS k) (lam L_laws_toPartS k) (cutsOf L_laws_toPartS) 0 (finish cod T false 0 [.tmp 2] D_laws_toPartS) 4000 true (todoAt 3 (bodyOf Try.f17)) (envOf [0, 3, 4] [.inl true .part x0, .own 0, .lit (.int .i64 x1)]) [.sl .part x2] = laws_toPartS_l3 (k + 1) x0 x1 x2 := by kernel_rfl
theorem e_laws_toPartS (k : Nat) (a0 : List DPart) : run cod T (G_laws_toPartS k) (lam L_laws_toPartS k) (cutsOf L_laws_toPartS) 0 (finish cod T false 0 [.tmp 2] D_laws_toPartS) 4000 false [.code (bodyOf Try.f17)] (envOf [0] [.inl true .part a0]) [] = laws_toPartS k a0 := by kernel_rfl
theorem ok_laws_toPartS (k : Nat) : SummOk Try.prog cod 17 (S_laws_toPartS k) := by
  refine summ_of (T := T) Try.f17 (G_laws_toPartS) L_laws_toPartS false [.tmp 2] 0 D_laws_toPartS mixed (fun k => Known.of tok eok codOk ?_) (fun k => QuietOk.of ?_) Try.func17 (by kernel_rfl) (by kernel_rfl) (by kernel_rfl) (by kernel_rfl) (by kernel_rfl) ?_ ?_ [] ?_
  · exact all_cons (ok_laws_toPart k) (all_nil)
  · exact all_cons (fun h r => ⟨rfl, rfl⟩) (all_nil)
  · intro v os r h
    unfold D_laws_toPartS at h
    split at h <;> first | (cases h; rfl) | cases h
  · refine all_cons ?_ (all_nil)
    · refine ⟨fun vs os => ?_, by kernel_rfl, fun k vs os r h => ?_⟩
      · show C_laws_toPartS_3.fn 0 vs os = none
        unfold C_laws_toPartS_3; dsimp only; split <;> rfl
      · change C_laws_toPartS_3.fn (k + 1) vs os = some r at h
        unfold C_laws_toPartS_3 at h; dsimp only at h
        split at h
        · exact ⟨4000, (c_laws_toPartS_3 k _ _ _).trans h⟩
        · cases h
  · intro args os r h
    change (S_laws_toPartS k).run args os = some r at h
    unfold S_laws_toPartS at h; dsimp only at h
    split at h
    · exact ⟨Nat.le_of_ble_eq_true (by kernel_rfl), rfl, rfl, k, 4000, (e_laws_toPartS k _).trans h⟩
    · cases h
noncomputable def S_spec_Join (k : Nat) : Summ K TyK where
  R := List ByteArray × ByteArray × Bool
  modes := [.bo]
  run := fun args objs => match args, objs with
    | [.inl true .part v1], [] => spec_Join k v1
    | _, _ => none
  ret := fun r => (.tup [.own 0, .lit (.string r.2.1), .lit (.bool r.2.2)], [.sl .str r.1])
  quiet := false
noncomputable def D_spec_Join (v : V) (os : Objs K TyK) : Option (List ByteArray × ByteArray × Bool) :=
  match v, os with
  | .tup [.own 0, .lit (.string v1), .lit (.bool v2)], [.sl .str v3] => some (v3, v1, v2)
  | _, _ => none
noncomputable def C_spec_Join_6 : Cut K TyK (List ByteArray × ByteArray × Bool) where
  slots := [0, 5, 6, 7]
  fn := fun k vs os => match vs, os with
    | [.inl true .part x0, .own 0, .lit (.string x1), .lit (.int .i64 x2)], [.sl .str x3] => spec_Join_l6 k x0 x1 x2 x3
    | _, _ => none
noncomputable def C_spec_Join_7 : Cut K TyK (List ByteArray × ByteArray × Bool) where
  slots := [0, 5, 6, 7]
  fn := fun k vs os => match vs, os with
    | [.inl true .part x0, .own 0, .lit (.string x1), .lit (.int .i64 x2)], [.sl .str x3] => spec_Join_l7 k x0 x1 x2 x3
    | _, _ => none
noncomputable abbrev G_spec_Join (k : Nat) : FuncId → Option (Summ K TyK) := lookT []
noncomputable abbrev L_spec_Join : List (Nat × Cut K TyK (List ByteArray × ByteArray × Bool)) := [(6, C_spec_Join_6), (7, C_spec_Join_7)]
theorem c_spec_Join_6 (k : Nat) (x0 : List DPart) (x1 : ByteArray) (x2 : Int) (x3 : List ByteArray) : run cod T (G_spec_Join k) (lam L_spec_Join k) (cutsOf L_spec_Join) 0 (finish cod T false 0 [.tmp 2, .tmp 3, .tmp 4] D_spec_Join) 4000 true (todoAt 6 (bodyOf Try.f16)) (envOf [0, 5, 6, 7] [.inl true .part x0, .own 0, .lit (.string x1), .lit (.int .i64 x2)]) [.sl .str x3] = spec_Join_l6 (k + 1) x0 x1 x2 x3 := by kernel_rfl
theorem c_spec_Join_7 (k : Nat) (x0 : List DPart) (x1 : ByteArray) (x2 : Int) (x3 : List ByteArray) : run cod T (G_spec_Join k) (lam L_spec_Join k) (cutsOf L_spec_Join) 0 (finish cod T false 0 [.tmp 2, .tmp 3, .tmp 4] D_spec_Join) 4000 true (todoAt 7 (bodyOf Try.f16)) (envOf [0, 5, 6, 7] [.inl true .part x0, .own 0, .lit (.string x1), .lit (.int .i64 x2)]) [.sl .str x3] = spec_Join_l7 (k + 1) x0 x1 x2 x3 := by kernel_rfl
theorem e_spec_Join (k : Nat) (a0 : List DPart) : run cod T (G_spec_Join k) (lam L_spec_Join k) (cutsOf L_spec_Join) 0 (finish cod T false 0 [.tmp 2, .tmp 3, .tmp 4] D_spec_Join) 4000 false [.code (bodyOf Try.f16)] (envOf [0] [.inl true .part a0]) [] = spec_Join k a0 := by kernel_rfl
theorem ok_spec_Join (k : Nat) : SummOk Try.prog cod 16 (S_spec_Join k) := by
  refine summ_of (T := T) Try.f16 (G_spec_Join) L_spec_Join false [.tmp 2, .tmp 3, .tmp 4] 0 D_spec_Join mixed (fun k => Known.of tok eok codOk ?_) (fun k => QuietOk.of ?_) Try.func16 (by kernel_rfl) (by kernel_rfl) (by kernel_rfl) (by kernel_rfl) (by kernel_rfl) ?_ ?_ [] ?_
  · exact all_nil
  · exact all_nil
  · intro v os r h
    unfold D_spec_Join at h
    split at h <;> first | (cases h; rfl) | cases h
  · refine all_cons ?_ (all_cons ?_ (all_nil))
    · refine ⟨fun vs os => ?_, by kernel_rfl, fun k vs os r h => ?_⟩
      · show C_spec_Join_6.fn 0 vs os = none
        unfold C_spec_Join_6; dsimp only; split <;> rfl
      · change C_spec_Join_6.fn (k + 1) vs os = some r at h
        unfold C_spec_Join_6 at h; dsimp only at h
        split at h
        · exact ⟨4000, (c_spec_Join_6 k _ _ _ _).trans h⟩
        · cases h
    · refine ⟨fun vs os => ?_, by kernel_rfl, fun k vs os r h => ?_⟩
      · show C_spec_Join_7.fn 0 vs os = none
        unfold C_spec_Join_7; dsimp only; split <;> rfl
      · change C_spec_Join_7.fn (k + 1) vs os = some r at h
        unfold C_spec_Join_7 at h; dsimp only at h
        split at h
        · exact ⟨4000, (c_spec_Join_7 k _ _ _ _).trans h⟩
        · cases h
  · intro args os r h
    change (S_spec_Join k).run args os = some r at h
    unfold S_spec_Join at h; dsimp only at h
    split at h
    · exact ⟨Nat.le_of_ble_eq_true (by kernel_rfl), rfl, rfl, k, 4000, (e_spec_Join k _).trans h⟩
    · cases h
noncomputable def S_impl_Join (k : Nat) : Summ K TyK where
  R := List ByteArray × ByteArray × Bool
  modes := [.bo]
  run := fun args objs => match args, objs with
    | [.inl true .part v1], [] => impl_Join k v1
    | _, _ => none
  ret := fun r => (.tup [.own 0, .lit (.string r.2.1), .lit (.bool r.2.2)], [.sl .str r.1])
  quiet := false
noncomputable def D_impl_Join (v : V) (os : Objs K TyK) : Option (List ByteArray × ByteArray × Bool) :=
  match v, os with
  | .tup [.own 0, .lit (.string v1), .lit (.bool v2)], [.sl .str v3] => some (v3, v1, v2)
  | _, _ => none
noncomputable def C_impl_Join_6 : Cut K TyK (List ByteArray × ByteArray × Bool) where
  slots := [5, 6, 12, 13, 14]
  fn := fun k vs os => match vs, os with
    | [.own 0, .lit (.string x0), .inl true .part x1, .lit (.int .i64 x2), .lit (.int .i64 x3)], [.sl .str x4] => impl_Join_l6 k x0 x1 x2 x3 x4
    | _, _ => none
noncomputable def C_impl_Join_14 : Cut K TyK (List ByteArray × ByteArray × Bool) where
  slots := [5, 6, 12, 13, 14]
  fn := fun k vs os => match vs, os with
    | [.own 0, .lit (.string x0), .inl true .part x1, .lit (.int .i64 x2), .lit (.int .i64 x3)], [.sl .str x4] => impl_Join_l14 k x0 x1 x2 x3 x4
    | _, _ => none
noncomputable abbrev G_impl_Join (k : Nat) : FuncId → Option (Summ K TyK) := lookT []
noncomputable abbrev L_impl_Join : List (Nat × Cut K TyK (List ByteArray × ByteArray × Bool)) := [(6, C_impl_Join_6), (14, C_impl_Join_14)]
theorem c_impl_Join_6 (k : Nat) (x0 : ByteArray) (x1 : List DPart) (x2 : Int) (x3 : Int) (x4 : List ByteArray) : run cod T (G_impl_Join k) (lam L_impl_Join k) (cutsOf L_impl_Join) 0 (finish cod T false 0 [.tmp 2, .tmp 3, .tmp 4] D_impl_Join) 4000 true (todoAt 6 (bodyOf Try.f18)) (envOf [5, 6, 12, 13, 14] [.own 0, .lit (.string x0), .inl true .part x1, .lit (.int .i64 x2), .lit (.int .i64 x3)]) [.sl .str x4] = impl_Join_l6 (k + 1) x0 x1 x2 x3 x4 := by kernel_rfl
theorem c_impl_Join_14 (k : Nat) (x0 : ByteArray) (x1 : List DPart) (x2 : Int) (x3 : Int) (x4 : List ByteArray) : run cod T (G_impl_Join k) (lam L_impl_Join k) (cutsOf L_impl_Join) 0 (finish cod T false 0 [.tmp 2, .tmp 3, .tmp 4] D_impl_Join) 4000 true (todoAt 14 (bodyOf Try.f18)) (envOf [5, 6, 12, 13, 14] [.own 0, .lit (.string x0), .inl true .part x1, .lit (.int .i64 x2), .lit (.int .i64 x3)]) [.sl .str x4] = impl_Join_l14 (k + 1) x0 x1 x2 x3 x4 := by kernel_rfl
theorem e_impl_Join (k : Nat) (a0 : List DPart) : run cod T (G_impl_Join k) (lam L_impl_Join k) (cutsOf L_impl_Join) 0 (finish cod T false 0 [.tmp 2, .tmp 3, .tmp 4] D_impl_Join) 4000 false [.code (bodyOf Try.f18)] (envOf [0] [.inl true .part a0]) [] = impl_Join k a0 := by kernel_rfl
theorem ok_impl_Join (k : Nat) : SummOk Try.prog cod 18 (S_impl_Join k) := by
  refine summ_of (T := T) Try.f18 (G_impl_Join) L_impl_Join false [.tmp 2, .tmp 3, .tmp 4] 0 D_impl_Join mixed (fun k => Known.of tok eok codOk ?_) (fun k => QuietOk.of ?_) Try.func18 (by kernel_rfl) (by kernel_rfl) (by kernel_rfl) (by kernel_rfl) (by kernel_rfl) ?_ ?_ [] ?_
  · exact all_nil
  · exact all_nil
  · intro v os r h
    unfold D_impl_Join at h
    split at h <;> first | (cases h; rfl) | cases h
  · refine all_cons ?_ (all_cons ?_ (all_nil))
    · refine ⟨fun vs os => ?_, by kernel_rfl, fun k vs os r h => ?_⟩
      · show C_impl_Join_6.fn 0 vs os = none
        unfold C_impl_Join_6; dsimp only; split <;> rfl
      · change C_impl_Join_6.fn (k + 1) vs os = some r at h
        unfold C_impl_Join_6 at h; dsimp only at h
        split at h
        · exact ⟨4000, (c_impl_Join_6 k _ _ _ _ _).trans h⟩
        · cases h
    · refine ⟨fun vs os => ?_, by kernel_rfl, fun k vs os r h => ?_⟩
      · show C_impl_Join_14.fn 0 vs os = none
        unfold C_impl_Join_14; dsimp only; split <;> rfl
      · change C_impl_Join_14.fn (k + 1) vs os = some r at h
        unfold C_impl_Join_14 at h; dsimp only at h
        split at h
        · exact ⟨4000, (c_impl_Join_14 k _ _ _ _ _).trans h⟩
        · cases h
  · intro args os r h
    change (S_impl_Join k).run args os = some r at h
    unfold S_impl_Join at h; dsimp only at h
    split at h
    · exact ⟨Nat.le_of_ble_eq_true (by kernel_rfl), rfl, rfl, k, 4000, (e_impl_Join k _).trans h⟩
    · cases h
noncomputable def S_laws_eqStringS (k : Nat) : Summ K TyK where
  R := Bool
  modes := [.bo, .bo]
  run := fun args objs => match args, objs with
    | [.inl true .str v1, .inl true .str v2], [] => laws_eqStringS k v1 v2
    | _, _ => none
  ret := fun r => (.lit (.bool r), [])
  quiet := true
noncomputable def D_laws_eqStringS (v : V) (os : Objs K TyK) : Option (Bool) :=
  match v, os with
  | .lit (.bool v1), [] => some v1
  | _, _ => none
noncomputable def C_laws_eqStringS_4 : Cut K TyK (Bool) where
  slots := [0, 1, 5]
  fn := fun k vs os => match vs, os with
    | [.inl true .str x0, .inl true .str x1, .lit (.int .i64 x2)], [] => laws_eqStringS_l4 k x0 x1 x2
    | _, _ => none
noncomputable abbrev G_laws_eqStringS (k : Nat) : FuncId → Option (Summ K TyK) := lookT []
noncomputable abbrev L_laws_eqStringS : List (Nat × Cut K TyK (Bool)) := [(4, C_laws_eqStringS_4)]
theorem c_laws_eqStringS_4 (k : Nat) (x0 : List ByteArray) (x1 : List ByteArray) (x2 : Int) : run cod T (G_laws_eqStringS k) (lam L_laws_eqStringS k) (cutsOf L_laws_eqStringS) 0 (finish cod T false 0 [.tmp 4] D_laws_eqStringS) 4000 true (todoAt 4 (bodyOf Try.f19)) (envOf [0, 1, 5] [.inl true .str x0, .inl true .str x1, .lit (.int .i64 x2)]) [] = laws_eqStringS_l4 (k + 1) x0 x1 x2 := by kernel_rfl
theorem e_laws_eqStringS (k : Nat) (a0 : List ByteArray) (a1 : List ByteArray) : run cod T (G_laws_eqStringS k) (lam L_laws_eqStringS k) (cutsOf L_laws_eqStringS) 0 (finish cod T false 0 [.tmp 4] D_laws_eqStringS) 4000 false [.code (bodyOf Try.f19)] (envOf [0, 1] [.inl true .str a0, .inl true .str a1]) [] = laws_eqStringS k a0 a1 := by kernel_rfl
theorem ok_laws_eqStringS (k : Nat) : SummOk Try.prog cod 19 (S_laws_eqStringS k) := by
  refine summ_of (T := T) Try.f19 (G_laws_eqStringS) L_laws_eqStringS false [.tmp 4] 0 D_laws_eqStringS mixed (fun k => Known.of tok eok codOk ?_) (fun k => QuietOk.of ?_) Try.func19 (by kernel_rfl) (by kernel_rfl) (by kernel_rfl) (by kernel_rfl) (by kernel_rfl) ?_ ?_ [] ?_
  · exact all_nil
  · exact all_nil
  · intro v os r h
    unfold D_laws_eqStringS at h
    split at h <;> first | (cases h; rfl) | cases h
  · refine all_cons ?_ (all_nil)
    · refine ⟨fun vs os => ?_, by kernel_rfl, fun k vs os r h => ?_⟩
      · show C_laws_eqStringS_4.fn 0 vs os = none
        unfold C_laws_eqStringS_4; dsimp only; split <;> rfl
      · change C_laws_eqStringS_4.fn (k + 1) vs os = some r at h
        unfold C_laws_eqStringS_4 at h; dsimp only at h
        split at h
        · exact ⟨4000, (c_laws_eqStringS_4 k _ _ _).trans h⟩
        · cases h
  · intro args os r h
    change (S_laws_eqStringS k).run args os = some r at h
    unfold S_laws_eqStringS at h; dsimp only at h
    split at h
    · exact ⟨Nat.le_of_ble_eq_true (by kernel_rfl), rfl, rfl, k, 4000, (e_laws_eqStringS k _ _).trans h⟩
    · cases h
noncomputable def S_laws_eqPart (k : Nat) : Summ K TyK where
  R := Bool
  modes := [.bo, .bo]
  run := fun args objs => match args, objs with
    | [.agg [.lit (.string v1), .lit (.bool v2)], .agg [.lit (.string v3), .lit (.bool v4)]], [] => laws_eqPart k (⟨v1, v2⟩ : DPart) (⟨v3, v4⟩ : DPart)
    | _, _ => none
  ret := fun r => (.lit (.bool r), [])
  quiet := true
noncomputable def D_laws_eqPart (v : V) (os : Objs K TyK) : Option (Bool) :=
  match v, os with
  | .lit (.bool v1), [] => some v1
  | _, _ => none
noncomputable abbrev G_laws_eqPart (k : Nat) : FuncId → Option (Summ K TyK) := lookT []
noncomputable abbrev L_laws_eqPart : List (Nat × Cut K TyK (Bool)) := []
theorem e_laws_eqPart (k : Nat) (a0 : DPart) (a1 : DPart) : run cod T (G_laws_eqPart k) (lam L_laws_eqPart k) (cutsOf L_laws_eqPart) 0 (finish cod T false 0 [.tmp 4] D_laws_eqPart) 4000 false [.code (bodyOf Try.f73)] (envOf [0, 1] [.agg [.lit (.string a0.Text), .lit (.bool a0.Last)], .agg [.lit (.string a1.Text), .lit (.bool a1.Last)]]) [] = laws_eqPart k a0 a1 := by kernel_rfl
theorem ok_laws_eqPart (k : Nat) : SummOk Try.prog cod 73 (S_laws_eqPart k) := by
  refine summ_of (T := T) Try.f73 (G_laws_eqPart) L_laws_eqPart false [.tmp 4] 0 D_laws_eqPart mixed (fun k => Known.of tok eok codOk ?_) (fun k => QuietOk.of ?_) Try.func73 (by kernel_rfl) (by kernel_rfl) (by kernel_rfl) (by kernel_rfl) (by kernel_rfl) ?_ ?_ [] ?_
  · exact all_nil
  · exact all_nil
  · intro v os r h
    unfold D_laws_eqPart at h
    split at h <;> first | (cases h; rfl) | cases h
  · refine all_nil
  · intro args os r h
    change (S_laws_eqPart k).run args os = some r at h
    unfold S_laws_eqPart at h; dsimp only at h
    split at h
    · exact ⟨Nat.le_of_ble_eq_true (by kernel_rfl), rfl, rfl, k, 4000, (e_laws_eqPart k ⟨_, _⟩ ⟨_, _⟩).trans h⟩
    · cases h
noncomputable def S_laws_eqPartS (k : Nat) : Summ K TyK where
  R := Bool
  modes := [.bo, .bo]
  run := fun args objs => match args, objs with
    | [.inl true .part v1, .inl true .part v2], [] => laws_eqPartS k v1 v2
    | _, _ => none
  ret := fun r => (.lit (.bool r), [])
  quiet := true
noncomputable def D_laws_eqPartS (v : V) (os : Objs K TyK) : Option (Bool) :=
  match v, os with
  | .lit (.bool v1), [] => some v1
  | _, _ => none
noncomputable def C_laws_eqPartS_4 : Cut K TyK (Bool) where
  slots := [0, 1, 5]
  fn := fun k vs os => match vs, os with
    | [.inl true .part x0, .inl true .part x1, .lit (.int .i64 x2)], [] => laws_eqPartS_l4 k x0 x1 x2
    | _, _ => none
noncomputable abbrev G_laws_eqPartS (k : Nat) : FuncId → Option (Summ K TyK) := lookT [(73, S_laws_eqPart k)]
noncomputable abbrev L_laws_eqPartS : List (Nat × Cut K TyK (Bool)) := [(4, C_laws_eqPartS_4)]
theorem c_laws_eqPartS_4 (k : Nat) (x0 : List DPart) (x1 : List DPart) (x2 : Int) : run cod T (G_laws_eqPartS k) (lam L_laws_eqPartS k) (cutsOf L_laws_eqPartS) 0 (finish cod T false 0 [.tmp 4] D_laws_eqPartS) 4000 true (todoAt 4 (bodyOf Try.f20)) (envOf [0, 1, 5] [.inl true .part x0, .inl true .part x1, .lit (.int .i64 x2)]) [] = laws_eqPartS_l4 (k + 1) x0 x1 x2 := by kernel_rfl
theorem e_laws_eqPartS (k : Nat) (a0 : List DPart) (a1 : List DPart) : run cod T (G_laws_eqPartS k) (lam L_laws_eqPartS k) (cutsOf L_laws_eqPartS) 0 (finish cod T false 0 [.tmp 4] D_laws_eqPartS) 4000 false [.code (bodyOf Try.f20)] (envOf [0, 1] [.inl true .part a0, .inl true .part a1]) [] = laws_eqPartS k a0 a1 := by kernel_rfl
theorem ok_laws_eqPartS (k : Nat) : SummOk Try.prog cod 20 (S_laws_eqPartS k) := by
  refine summ_of (T := T) Try.f20 (G_laws_eqPartS) L_laws_eqPartS false [.tmp 4] 0 D_laws_eqPartS mixed (fun k => Known.of tok eok codOk ?_) (fun k => QuietOk.of ?_) Try.func20 (by kernel_rfl) (by kernel_rfl) (by kernel_rfl) (by kernel_rfl) (by kernel_rfl) ?_ ?_ [] ?_
  · exact all_cons (ok_laws_eqPart k) (all_nil)
  · exact all_cons (fun h r => ⟨rfl, rfl⟩) (all_nil)
  · intro v os r h
    unfold D_laws_eqPartS at h
    split at h <;> first | (cases h; rfl) | cases h
  · refine all_cons ?_ (all_nil)
    · refine ⟨fun vs os => ?_, by kernel_rfl, fun k vs os r h => ?_⟩
      · show C_laws_eqPartS_4.fn 0 vs os = none
        unfold C_laws_eqPartS_4; dsimp only; split <;> rfl
      · change C_laws_eqPartS_4.fn (k + 1) vs os = some r at h
        unfold C_laws_eqPartS_4 at h; dsimp only at h
        split at h
        · exact ⟨4000, (c_laws_eqPartS_4 k _ _ _).trans h⟩
        · cases h
  · intro args os r h
    change (S_laws_eqPartS k).run args os = some r at h
    unfold S_laws_eqPartS at h; dsimp only at h
    split at h
    · exact ⟨Nat.le_of_ble_eq_true (by kernel_rfl), rfl, rfl, k, 4000, (e_laws_eqPartS k _ _).trans h⟩
    · cases h
noncomputable def S_laws_markText (k : Nat) : Summ K TyK where
  R := ByteArray
  modes := [.bo]
  run := fun args objs => match args, objs with
    | [.lit (.int .i64 v1)], [] => laws_markText k v1
    | _, _ => none
  ret := fun r => (.lit (.string r), [])
  quiet := true
noncomputable def D_laws_markText (v : V) (os : Objs K TyK) : Option (ByteArray) :=
  match v, os with
  | .lit (.string v1), [] => some v1
  | _, _ => none
noncomputable def C_laws_markText_4 : Cut K TyK (ByteArray) where
  slots := [0, 3]
  fn := fun k vs os => match vs, os with
    | [.lit (.int .i64 x0), .lit (.string x1)], [] => laws_markText_l4 k x0 x1
    | _, _ => none
noncomputable abbrev G_laws_markText (k : Nat) : FuncId → Option (Summ K TyK) := lookT []
noncomputable abbrev L_laws_markText : List (Nat × Cut K TyK (ByteArray)) := [(4, C_laws_markText_4)]
theorem c_laws_markText_4 (k : Nat) (x0 : Int) (x1 : ByteArray) : run cod T (G_laws_markText k) (lam L_laws_markText k) (cutsOf L_laws_markText) 0 (finish cod T false 0 [.tmp 2] D_laws_markText) 4000 true (todoAt 4 (bodyOf Try.f74)) (envOf [0, 3] [.lit (.int .i64 x0), .lit (.string x1)]) [] = laws_markText_l4 (k + 1) x0 x1 := by kernel_rfl
theorem e_laws_markText (k : Nat) (a0 : Int) : run cod T (G_laws_markText k) (lam L_laws_markText k) (cutsOf L_laws_markText) 0 (finish cod T false 0 [.tmp 2] D_laws_markText) 4000 false [.code (bodyOf Try.f74)] (envOf [0] [.lit (.int .i64 a0)]) [] = laws_markText k a0 := by kernel_rfl
theorem ok_laws_markText (k : Nat) : SummOk Try.prog cod 74 (S_laws_markText k) := by
  refine summ_of (T := T) Try.f74 (G_laws_markText) L_laws_markText false [.tmp 2] 0 D_laws_markText mixed (fun k => Known.of tok eok codOk ?_) (fun k => QuietOk.of ?_) Try.func74 (by kernel_rfl) (by kernel_rfl) (by kernel_rfl) (by kernel_rfl) (by kernel_rfl) ?_ ?_ [] ?_
  · exact all_nil
  · exact all_nil
  · intro v os r h
    unfold D_laws_markText at h
    split at h <;> first | (cases h; rfl) | cases h
  · refine all_cons ?_ (all_nil)
    · refine ⟨fun vs os => ?_, by kernel_rfl, fun k vs os r h => ?_⟩
      · show C_laws_markText_4.fn 0 vs os = none
        unfold C_laws_markText_4; dsimp only; split <;> rfl
      · change C_laws_markText_4.fn (k + 1) vs os = some r at h
        unfold C_laws_markText_4 at h; dsimp only at h
        split at h
        · exact ⟨4000, (c_laws_markText_4 k _ _).trans h⟩
        · cases h
  · intro args os r h
    change (S_laws_markText k).run args os = some r at h
    unfold S_laws_markText at h; dsimp only at h
    split at h
    · exact ⟨Nat.le_of_ble_eq_true (by kernel_rfl), rfl, rfl, k, 4000, (e_laws_markText k _).trans h⟩
    · cases h
noncomputable def S_laws_markPartS (k : Nat) : Summ K TyK where
  R := Int × List DPart
  modes := [.mv, .mv]
  run := fun args objs => match args, objs with
    | [.own 0, .lit (.int .i64 v1)], [.sl .part v2] => laws_markPartS k v2 v1
    | _, _ => none
  ret := fun r => (.lit (.int .i64 r.1), [.sl .part r.2])
  quiet := false
noncomputable def D_laws_markPartS (v : V) (os : Objs K TyK) : Option (Int × List DPart) :=
  match v, os with
  | .lit (.int .i64 v1), [.sl .part v2] => some (v1, v2)
  | _, _ => none
noncomputable def C_laws_markPartS_2 : Cut K TyK (Int × List DPart) where
  slots := [0, 1, 5]
  fn := fun k vs os => match vs, os with
    | [.own 0, .lit (.int .i64 x0), .lit (.int .i64 x1)], [.sl .part x2] => laws_markPartS_l2 k x0 x1 x2
    | _, _ => none
noncomputable abbrev G_laws_markPartS (k : Nat) : FuncId → Option (Summ K TyK) := lookT [(74, S_laws_markText k)]
noncomputable abbrev L_laws_markPartS : List (Nat × Cut K TyK (Int × List DPart)) := [(2, C_laws_markPartS_2)]
theorem c_laws_markPartS_2 (k : Nat) (x0 : Int) (x1 : Int) (x2 : List DPart) : run cod T (G_laws_markPartS k) (lam L_laws_markPartS k) (cutsOf L_laws_markPartS) 1 (finish cod T false 1 [.tmp 4] D_laws_markPartS) 4000 true (todoAt 2 (bodyOf Try.f21)) (envOf [0, 1, 5] [.own 0, .lit (.int .i64 x0), .lit (.int .i64 x1)]) [.sl .part x2] = laws_markPartS_l2 (k + 1) x0 x1 x2 := by kernel_rfl
theorem e_laws_markPartS (k : Nat) (a0 : List DPart) (a1 : Int) : run cod T (G_laws_markPartS k) (lam L_laws_markPartS k) (cutsOf L_laws_markPartS) 1 (finish cod T false 1 [.tmp 4] D_laws_markPartS) 4000 false [.code (bodyOf Try.f21)] (envOf [0, 1] [.own 0, .lit (.int .i64 a1)]) [.sl .part a0] = laws_markPartS k a0 a1 := by kernel_rfl
theorem ok_laws_markPartS (k : Nat) : SummOk Try.prog cod 21 (S_laws_markPartS k) := by
  refine summ_of (T := T) Try.f21 (G_laws_markPartS) L_laws_markPartS false [.tmp 4] 1 D_laws_markPartS mixed (fun k => Known.of tok eok codOk ?_) (fun k => QuietOk.of ?_) Try.func21 (by kernel_rfl) (by kernel_rfl) (by kernel_rfl) (by kernel_rfl) (by kernel_rfl) ?_ ?_ [false] ?_
  · exact all_cons (ok_laws_markText k) (all_nil)
  · exact all_cons (fun h r => ⟨rfl, rfl⟩) (all_nil)
  · intro v os r h
    unfold D_laws_markPartS at h
    split at h <;> first | (cases h; rfl) | cases h
  · refine all_cons ?_ (all_nil)
    · refine ⟨fun vs os => ?_, by kernel_rfl, fun k vs os r h => ?_⟩
      · show C_laws_markPartS_2.fn 0 vs os = none
        unfold C_laws_markPartS_2; dsimp only; split <;> rfl
      · change C_laws_markPartS_2.fn (k + 1) vs os = some r at h
        unfold C_laws_markPartS_2 at h; dsimp only at h
        split at h
        · exact ⟨4000, (c_laws_markPartS_2 k _ _ _).trans h⟩
        · cases h
  · intro args os r h
    change (S_laws_markPartS k).run args os = some r at h
    unfold S_laws_markPartS at h; dsimp only at h
    split at h
    · exact ⟨Nat.le_of_ble_eq_true (by kernel_rfl), rfl, rfl, k, 4000, (e_laws_markPartS k _ _).trans h⟩
    · cases h
noncomputable def S_laws_markStringS (k : Nat) : Summ K TyK where
  R := Int × List ByteArray
  modes := [.mv, .mv]
  run := fun args objs => match args, objs with
    | [.own 0, .lit (.int .i64 v1)], [.sl .str v2] => laws_markStringS k v2 v1
    | _, _ => none
  ret := fun r => (.lit (.int .i64 r.1), [.sl .str r.2])
  quiet := false
noncomputable def D_laws_markStringS (v : V) (os : Objs K TyK) : Option (Int × List ByteArray) :=
  match v, os with
  | .lit (.int .i64 v1), [.sl .str v2] => some (v1, v2)
  | _, _ => none
noncomputable def C_laws_markStringS_2 : Cut K TyK (Int × List ByteArray) where
  slots := [0, 1, 5]
  fn := fun k vs os => match vs, os with
    | [.own 0, .lit (.int .i64 x0), .lit (.int .i64 x1)], [.sl .str x2] => laws_markStringS_l2 k x0 x1 x2
    | _, _ => none
noncomputable abbrev G_laws_markStringS (k : Nat) : FuncId → Option (Summ K TyK) := lookT [(74, S_laws_markText k)]
noncomputable abbrev L_laws_markStringS : List (Nat × Cut K TyK (Int × List ByteArray)) := [(2, C_laws_markStringS_2)]
theorem c_laws_markStringS_2 (k : Nat) (x0 : Int) (x1 : Int) (x2 : List ByteArray) : run cod T (G_laws_markStringS k) (lam L_laws_markStringS k) (cutsOf L_laws_markStringS) 1 (finish cod T false 1 [.tmp 4] D_laws_markStringS) 4000 true (todoAt 2 (bodyOf Try.f22)) (envOf [0, 1, 5] [.own 0, .lit (.int .i64 x0), .lit (.int .i64 x1)]) [.sl .str x2] = laws_markStringS_l2 (k + 1) x0 x1 x2 := by kernel_rfl
theorem e_laws_markStringS (k : Nat) (a0 : List ByteArray) (a1 : Int) : run cod T (G_laws_markStringS k) (lam L_laws_markStringS k) (cutsOf L_laws_markStringS) 1 (finish cod T false 1 [.tmp 4] D_laws_markStringS) 4000 false [.code (bodyOf Try.f22)] (envOf [0, 1] [.own 0, .lit (.int .i64 a1)]) [.sl .str a0] = laws_markStringS k a0 a1 := by kernel_rfl
theorem ok_laws_markStringS (k : Nat) : SummOk Try.prog cod 22 (S_laws_markStringS k) := by
  refine summ_of (T := T) Try.f22 (G_laws_markStringS) L_laws_markStringS false [.tmp 4] 1 D_laws_markStringS mixed (fun k => Known.of tok eok codOk ?_) (fun k => QuietOk.of ?_) Try.func22 (by kernel_rfl) (by kernel_rfl) (by kernel_rfl) (by kernel_rfl) (by kernel_rfl) ?_ ?_ [false] ?_
  · exact all_cons (ok_laws_markText k) (all_nil)
  · exact all_cons (fun h r => ⟨rfl, rfl⟩) (all_nil)
  · intro v os r h
    unfold D_laws_markStringS at h
    split at h <;> first | (cases h; rfl) | cases h
  · refine all_cons ?_ (all_nil)
    · refine ⟨fun vs os => ?_, by kernel_rfl, fun k vs os r h => ?_⟩
      · show C_laws_markStringS_2.fn 0 vs os = none
        unfold C_laws_markStringS_2; dsimp only; split <;> rfl
      · change C_laws_markStringS_2.fn (k + 1) vs os = some r at h
        unfold C_laws_markStringS_2 at h; dsimp only at h
        split at h
        · exact ⟨4000, (c_laws_markStringS_2 k _ _ _).trans h⟩
        · cases h
  · intro args os r h
    change (S_laws_markStringS k).run args os = some r at h
    unfold S_laws_markStringS at h; dsimp only at h
    split at h
    · exact ⟨Nat.le_of_ble_eq_true (by kernel_rfl), rfl, rfl, k, 4000, (e_laws_markStringS k _ _).trans h⟩
    · cases h
noncomputable def S_laws_heldStringS (k : Nat) : Summ K TyK where
  R := Int
  modes := [.bo, .bo]
  run := fun args objs => match args, objs with
    | [.inl true .str v1, .lit (.int .i64 v2)], [] => laws_heldStringS k v1 v2
    | _, _ => none
  ret := fun r => (.lit (.int .i64 r), [])
  quiet := true
noncomputable def D_laws_heldStringS (v : V) (os : Objs K TyK) : Option (Int) :=
  match v, os with
  | .lit (.int .i64 v1), [] => some v1
  | _, _ => none
noncomputable def C_laws_heldStringS_2 : Cut K TyK (Int) where
  slots := [0, 1, 5]
  fn := fun k vs os => match vs, os with
    | [.inl true .str x0, .lit (.int .i64 x1), .lit (.int .i64 x2)], [] => laws_heldStringS_l2 k x0 x1 x2
    | _, _ => none
noncomputable abbrev G_laws_heldStringS (k : Nat) : FuncId → Option (Summ K TyK) := lookT [(74, S_laws_markText k)]
noncomputable abbrev L_laws_heldStringS : List (Nat × Cut K TyK (Int)) := [(2, C_laws_heldStringS_2)]
theorem c_laws_heldStringS_2 (k : Nat) (x0 : List ByteArray) (x1 : Int) (x2 : Int) : run cod T (G_laws_heldStringS k) (lam L_laws_heldStringS k) (cutsOf L_laws_heldStringS) 0 (finish cod T false 0 [.tmp 4] D_laws_heldStringS) 4000 true (todoAt 2 (bodyOf Try.f23)) (envOf [0, 1, 5] [.inl true .str x0, .lit (.int .i64 x1), .lit (.int .i64 x2)]) [] = laws_heldStringS_l2 (k + 1) x0 x1 x2 := by kernel_rfl
theorem e_laws_heldStringS (k : Nat) (a0 : List ByteArray) (a1 : Int) : run cod T (G_laws_heldStringS k) (lam L_laws_heldStringS k) (cutsOf L_laws_heldStringS) 0 (finish cod T false 0 [.tmp 4] D_laws_heldStringS) 4000 false [.code (bodyOf Try.f23)] (envOf [0, 1] [.inl true .str a0, .lit (.int .i64 a1)]) [] = laws_heldStringS k a0 a1 := by kernel_rfl
theorem ok_laws_heldStringS (k : Nat) : SummOk Try.prog cod 23 (S_laws_heldStringS k) := by
  refine summ_of (T := T) Try.f23 (G_laws_heldStringS) L_laws_heldStringS false [.tmp 4] 0 D_laws_heldStringS mixed (fun k => Known.of tok eok codOk ?_) (fun k => QuietOk.of ?_) Try.func23 (by kernel_rfl) (by kernel_rfl) (by kernel_rfl) (by kernel_rfl) (by kernel_rfl) ?_ ?_ [] ?_
  · exact all_cons (ok_laws_markText k) (all_nil)
  · exact all_cons (fun h r => ⟨rfl, rfl⟩) (all_nil)
  · intro v os r h
    unfold D_laws_heldStringS at h
    split at h <;> first | (cases h; rfl) | cases h
  · refine all_cons ?_ (all_nil)
    · refine ⟨fun vs os => ?_, by kernel_rfl, fun k vs os r h => ?_⟩
      · show C_laws_heldStringS_2.fn 0 vs os = none
        unfold C_laws_heldStringS_2; dsimp only; split <;> rfl
      · change C_laws_heldStringS_2.fn (k + 1) vs os = some r at h
        unfold C_laws_heldStringS_2 at h; dsimp only at h
        split at h
        · exact ⟨4000, (c_laws_heldStringS_2 k _ _ _).trans h⟩
        · cases h
  · intro args os r h
    change (S_laws_heldStringS k).run args os = some r at h
    unfold S_laws_heldStringS at h; dsimp only at h
    split at h
    · exact ⟨Nat.le_of_ble_eq_true (by kernel_rfl), rfl, rfl, k, 4000, (e_laws_heldStringS k _ _).trans h⟩
    · cases h
noncomputable def S_laws_FnExactJoin (k : Nat) : Summ K TyK where
  R := Bool
  modes := [.pe]
  run := fun args objs => match args, objs with
    | [.inl false .part v1], [] => laws_FnExactJoin k v1
    | _, _ => none
  ret := fun r => (.lit (.bool r), [])
  quiet := true
noncomputable def D_laws_FnExactJoin (v : V) (os : Objs K TyK) : Option (Bool) :=
  match v, os with
  | .lit (.bool v1), [] => some v1
  | _, _ => none
noncomputable abbrev G_laws_FnExactJoin (k : Nat) : FuncId → Option (Summ K TyK) := lookT [(15, S_laws_szPartS k), (17, S_laws_toPartS k), (16, S_spec_Join k), (18, S_impl_Join k), (19, S_laws_eqStringS k), (20, S_laws_eqPartS k), (21, S_laws_markPartS k), (22, S_laws_markStringS k), (23, S_laws_heldStringS k)]
noncomputable abbrev L_laws_FnExactJoin : List (Nat × Cut K TyK (Bool)) := []
theorem e_laws_FnExactJoin (k : Nat) (a0 : List DPart) : run cod T (G_laws_FnExactJoin k) (lam L_laws_FnExactJoin k) (cutsOf L_laws_FnExactJoin) 0 (finish cod T false 0 [.tmp 2] D_laws_FnExactJoin) 4000 false [.code (bodyOf Try.f3)] (envOf [0] [.inl false .part a0]) [] = laws_FnExactJoin k a0 := by kernel_rfl
theorem ok_laws_FnExactJoin (k : Nat) : SummOk Try.prog cod 3 (S_laws_FnExactJoin k) := by
  refine summ_of (T := T) Try.f3 (G_laws_FnExactJoin) L_laws_FnExactJoin false [.tmp 2] 0 D_laws_FnExactJoin mixed (fun k => Known.of tok eok codOk ?_) (fun k => QuietOk.of ?_) Try.func3 (by kernel_rfl) (by kernel_rfl) (by kernel_rfl) (by kernel_rfl) (by kernel_rfl) ?_ ?_ [] ?_
  · exact all_cons (ok_laws_szPartS k) (all_cons (ok_laws_toPartS k) (all_cons (ok_spec_Join k) (all_cons (ok_impl_Join k) (all_cons (ok_laws_eqStringS k) (all_cons (ok_laws_eqPartS k) (all_cons (ok_laws_markPartS k) (all_cons (ok_laws_markStringS k) (all_cons (ok_laws_heldStringS k) (all_nil)))))))))
  · exact all_cons (fun h r => ⟨rfl, rfl⟩) (all_cons (fun h r => by cases h) (all_cons (fun h r => by cases h) (all_cons (fun h r => by cases h) (all_cons (fun h r => ⟨rfl, rfl⟩) (all_cons (fun h r => ⟨rfl, rfl⟩) (all_cons (fun h r => by cases h) (all_cons (fun h r => by cases h) (all_cons (fun h r => ⟨rfl, rfl⟩) (all_nil)))))))))
  · intro v os r h
    unfold D_laws_FnExactJoin at h
    split at h <;> first | (cases h; rfl) | cases h
  · refine all_nil
  · intro args os r h
    change (S_laws_FnExactJoin k).run args os = some r at h
    unfold S_laws_FnExactJoin at h; dsimp only at h
    split at h
    · exact ⟨Nat.le_of_ble_eq_true (by kernel_rfl), rfl, rfl, k, 4000, (e_laws_FnExactJoin k _).trans h⟩
    · cases h
end Km.X
