/- A part of the proof of FnParts: each function does what its reading says. There is no condition. -/
import Derived.Test.YtlgdbdkjkjocjaaKmSeat
import Derived.Test.YtlgdbdkjkjocjaaKxDef
namespace Km.X
open Go Km Go.Proofs
set_option linter.unusedVariables false
set_option maxRecDepth 100000
set_option maxHeartbeats 4000000
noncomputable def S_spec_Join (k : Nat) : Summ K TyK where
  R := List ByteArray × ByteArray × Bool
  modes := [.bo]
  run := fun args objs => match args, objs with
    | [.inl true .part v1], [] => spec_Join k v1
    | _, _ => none
  ret := fun r => (.tup [.own 0, .lit (.string r.2.1), .lit (.bool r.2.2)], [.sl .str r.1])
  quiet := false
noncomputable def D_spec_Join (v : V) (os : Objs K TyK) : Option (List ByteArray × ByteArray × Bool) :=
  match v, os with
  | .tup [.own 0, .lit (.string v1), .lit (.bool v2)], [.sl .str v3] => some (v3, v1, v2)
  | _, _ => none
noncomputable def C_spec_Join_6 : Cut K TyK (List ByteArray × ByteArray × Bool) where
  slots := [0, 5, 6, 7]
  fn := fun k vs os => match vs, os with
    | [.inl true .part x0, .own 0, .lit (.string x1), .lit (.int .i64 x2)], [.sl .str x3] => spec_Join_l6 k x0 x1 x2 x3
    | _, _ => none
noncomputable def C_spec_Join_7 : Cut K TyK (List ByteArray × ByteArray × Bool) where
  slots := [0, 5, 6, 7]
  fn := fun k vs os => match vs, os with
    | [.inl true .part x0, .own 0, .lit (.string x1), .lit (.int .i64 x2)], [.sl .str x3] => spec_Join_l7 k x0 x1 x2 x3
    | _, _ => none
noncomputable abbrev G_spec_Join (k : Nat) : FuncId → Option (Summ K TyK) := lookT []
noncomputable abbrev L_spec_Join : List (Nat × Cut K TyK (List ByteArray × ByteArray × Bool)) := [(6, C_spec_Join_6), (7, C_spec_Join_7)]
theorem c_spec_Join_6 (k : Nat) (x0 : List DPart) (x1 : ByteArray) (x2 : Int) (x3 : List ByteArray) : run cod T (G_spec_Join k) (lam L_spec_Join k) (cutsOf L_spec_Join) 0 (finish cod T false 0 [.tmp 2, .tmp 3, .tmp 4] D_spec_Join) 4000 true (todoAt 6 (bodyOf Try.f16)) (envOf [0, 5, 6, 7] [.inl true .part x0, .own 0, .lit (.string x1), .lit (.int .i64 x2)]) [.sl .str x3] = spec_Join_l6 (k + 1) x0 x1 x2 x3 := by kernel_rfl
theorem c_spec_Join_7 (k : Nat) (x0 : List DPart) (x1 : ByteArray) (x2 : Int) (x3 : List ByteArray) : run cod T (G_spec_Join k) (lam L_spec_Join k) (cutsOf L_spec_Join) 0 (finish cod T false 0 [.tmp 2, .tmp 3, .tmp 4] D_spec_Join) 4000 true (todoAt 7 (bodyOf Try.f16)) (envOf [0, 5, 6, 7] [.inl true .part x0, .own 0, .lit (.string x1), .lit (.int .i64 x2)]) [.sl .str x3] = spec_Join_l7 (k + 1) x0 x1 x2 x3 := by kernel_rfl
theorem e_spec_Join (k : Nat) (a0 : List DPart) : run cod T (G_spec_Join k) (lam L_spec_Join k) (cutsOf L_spec_Join) 0 (finish cod T false 0 [.tmp 2, .tmp 3, .tmp 4] D_spec_Join) 4000 false [.code (bodyOf Try.f16)] (envOf [0] [.inl true .part a0]) [] = spec_Join k a0 := by kernel_rfl
theorem ok_spec_Join (k : Nat) : SummOk Try.prog cod 16 (S_spec_Join k) := by
  refine summ_of (T := T) Try.f16 (G_spec_Join) L_spec_Join false [.tmp 2, .tmp 3, .tmp 4] 0 D_spec_Join mixed (fun k => Known.of tok eok codOk ?_) (fun k => QuietOk.of ?_) Try.func16 (by kernel_rfl) (by kernel_rfl) (by kernel_rfl) (by kernel_rfl) (by kernel_rfl) ?_ ?_ [] ?_
  · exact all_nil
  · exact all_nil
  · intro v os r h
    unfold D_spec_Join at h
    split at h <;> first | (cases h; rfl) | cases h
  · refine all_cons ?_ (all_cons ?_ (all_nil))
    · refine ⟨fun vs os => ?_, by kernel_rfl, fun k vs os r h => ?_⟩
      · show C_spec_Join_6.fn 0 vs os = none
        unfold C_spec_Join_6; dsimp only; split <;> rfl
      · change C_spec_Join_6.fn (k + 1) vs os = some r at h
        unfold C_spec_Join_6 at h; dsimp only at h
        split at h
        · exact ⟨4000, (c_spec_Join_6 k _ _ _ _).trans h⟩
        · cases h
    · refine ⟨fun vs os => ?_, by kernel_rfl, fun k vs os r h => ?_⟩
      · show C_spec_Join_7.fn 0 vs os = none
        unfold C_spec_Join_7; dsimp only; split <;> rfl
      · change C_spec_Join_7.fn (k + 1) vs os = some r at h
        unfold C_spec_Join_7 at h; dsimp only at h
        split at h
        · exact ⟨4000, (c_spec_Join_7 k _ _ _ _).trans h⟩
        · cases h
  · intro args os r h
    change (S_spec_Join k).run args os = some r at h
    unfold S_spec_Join at h; dsimp only at h
    split at h
    · exact ⟨Nat.le_of_ble_eq_true (by kernel_rfl), rfl, rfl, k, 4000, (e_spec_Join k _).trans h⟩
    · cases h
noncomputable def S_impl_Join (k : Nat) : Summ K TyK where
  R := List ByteArray × ByteArray × Bool
  modes := [.bo]
  run := fun args objs => match args, objs with
    | [.inl true .part v1], [] => impl_Join k v1
    | _, _ => none
  ret := fun r => (.tup [.own 0, .lit (.string r.2.1), .lit (.bool r.2.2)], [.sl .str r.1])
  quiet := false
noncomputable def D_impl_Join (v : V) (os : Objs K TyK) : Option (List ByteArray × ByteArray × Bool) :=
  match v, os with
  | .tup [.own 0, .lit (.string v1), .lit (.bool v2)], [.sl .str v3] => some (v3, v1, v2)
  | _, _ => none
noncomputable def C_impl_Join_6 : Cut K TyK (List ByteArray × ByteArray × Bool) where
  slots := [5, 6, 12, 13, 14]
  fn := fun k vs os => match vs, os with
    | [.own 0, .lit (.string x0), .inl true .part x1, .lit (.int .i64 x2), .lit (.int .i64 x3)], [.sl .str x4] => impl_Join_l6 k x0 x1 x2 x3 x4
    | _, _ => none
noncomputable def C_impl_Join_14 : Cut K TyK (List ByteArray × ByteArray × Bool) where
  slots := [5, 6, 12, 13, 14]
  fn := fun k vs os => match vs, os with
    | [.own 0, .lit (.string x0), .inl true .part x1, .lit (.int .i64 x2), .lit (.int .i64 x3)], [.sl .str x4] => impl_Join_l14 k x0 x1 x2 x3 x4
    | _, _ => none
noncomputable abbrev G_impl_Join (k : Nat) : FuncId → Option (Summ K TyK) := lookT []
noncomputable abbrev L_impl_Join : List (Nat × Cut K TyK (List ByteArray × ByteArray × Bool)) := [(6, C_impl_Join_6), (14, C_impl_Join_14)]
theorem c_impl_Join_6 (k : Nat) (x0 : ByteArray) (x1 : List DPart) (x2 : Int) (x3 : Int) (x4 : List ByteArray) : run cod T (G_impl_Join k) (lam L_impl_Join k) (cutsOf L_impl_Join) 0 (finish cod T false 0 [.tmp 2, .tmp 3, .tmp 4] D_impl_Join) 4000 true (todoAt 6 (bodyOf Try.f18)) (envOf [5, 6, 12, 13, 14] [.own 0, .lit (.string x0), .inl true .part x1, .lit (.int .i64 x2), .lit (.int .i64 x3)]) [.sl .str x4] = impl_Join_l6 (k + 1) x0 x1 x2 x3 x4 := by kernel_rfl
theorem c_impl_Join_14 (k : Nat) (x0 : ByteArray) (x1 : List DPart) (x2 : Int) (x3 : Int) (x4 : List ByteArray) : run cod T (G_impl_Join k) (lam L_impl_Join k) (cutsOf L_impl_Join) 0 (finish cod T false 0 [.tmp 2, .tmp 3, .tmp 4] D_impl_Join) 4000 true (todoAt 14 (bodyOf Try.f18)) (envOf [5, 6, 12, 13, 14] [.own 0, .lit (.string x0), .inl true .part x1, .lit (.int .i64 x2), .lit (.int .i64 x3)]) [.sl .str x4] = impl_Join_l14 (k + 1) x0 x1 x2 x3 x4 := by kernel_rfl
theorem e_impl_Join (k : Nat) (a0 : List DPart) : run cod T (G_impl_Join k) (lam L_impl_Join k) (cutsOf L_impl_Join) 0 (finish cod T false 0 [.tmp 2, .tmp 3, .tmp 4] D_impl_Join) 4000 false [.code (bodyOf Try.f18)] (envOf [0] [.inl true .part a0]) [] = impl_Join k a0 := by kernel_rfl
theorem ok_impl_Join (k : Nat) : SummOk Try.prog cod 18 (S_impl_Join k) := by
  refine summ_of (T := T) Try.f18 (G_impl_Join) L_impl_Join false [.tmp 2, .tmp 3, .tmp 4] 0 D_impl_Join mixed (fun k => Known.of tok eok codOk ?_) (fun k => QuietOk.of ?_) Try.func18 (by kernel_rfl) (by kernel_rfl) (by kernel_rfl) (by kernel_rfl) (by kernel_rfl) ?_ ?_ [] ?_
  · exact all_nil
  · exact all_nil
  · intro v os r h
    unfold D_impl_Join at h
    split at h <;> first | (cases h; rfl) | cases h
  · refine all_cons ?_ (all_cons ?_ (all_nil))
    · refine ⟨fun vs os => ?_, by kernel_rfl, fun k vs os r h => ?_⟩
      · show C_impl_Join_6.fn 0 vs os = none
        unfold C_impl_Join_6; dsimp only; split <;> rfl
      · change C_impl_Join_6.fn (k + 1) vs os = some r at h
        unfold C_impl_Join_6 at h; dsimp only at h
        split at h
        · exact ⟨4000, (c_impl_Join_6 k _ _ _ _ _).trans h⟩
        · cases h
    · refine ⟨fun vs os => ?_, by kernel_rfl, fun k vs os r h => ?_⟩
      · show C_impl_Join_14.fn 0 vs os = none
        unfold C_impl_Join_14; dsimp only; split <;> rfl
      · change C_impl_Join_14.fn (k + 1) vs os = some r at h
        unfold C_impl_Join_14 at h; dsimp only at h
        split at h
        · exact ⟨4000, (c_impl_Join_14 k _ _ _ _ _).trans h⟩
        · cases h
  · intro args os r h
    change (S_impl_Join k).run args os = some r at h
    unfold S_impl_Join at h; dsimp only at h
    split at h
    · exact ⟨Nat.le_of_ble_eq_true (by kernel_rfl), rfl, rfl, k, 4000, (e_impl_Join k _).trans h⟩
    · cases h
noncomputable def S_spec_l1Open (k : Nat) : Summ K TyK where
  R := DL1Rd
  modes := [.pe]
  run := fun args objs => match args, objs with
    | [.inl false .byte v1], [] => spec_l1Open k v1
    | _, _ => none
  ret := fun r => (.ref 0 0, [.box [.inl false .byte r.b, .lit (.int .i64 r.p)]])
  quiet := false
noncomputable def D_spec_l1Open (v : V) (os : Objs K TyK) : Option (DL1Rd) :=
  match v, os with
  | .ref 0 0, [.box [.inl false .byte v1, .lit (.int .i64 v2)]] => some (⟨v1, v2⟩ : DL1Rd)
  | _, _ => none
noncomputable def C_spec_l1Open_3 : Cut K TyK (DL1Rd) where
  slots := [0]
  fn := fun k vs os => match vs, os with
    | [.inl false .byte x0], [] => spec_l1Open_l3 k x0
    | _, _ => none
noncomputable abbrev G_spec_l1Open (k : Nat) : FuncId → Option (Summ K TyK) := lookT []
noncomputable abbrev L_spec_l1Open : List (Nat × Cut K TyK (DL1Rd)) := [(3, C_spec_l1Open_3)]
theorem c_spec_l1Open_3 (k : Nat) (x0 : List Int) : run cod T (G_spec_l1Open k) (lam L_spec_l1Open k) (cutsOf L_spec_l1Open) 0 (finish cod T false 0 [.tmp 2] D_spec_l1Open) 4000 true (todoAt 3 (bodyOf Try.f75)) (envOf [0] [.inl false .byte x0]) [] = spec_l1Open_l3 (k + 1) x0 := by kernel_rfl
theorem e_spec_l1Open (k : Nat) (a0 : List Int) : run cod T (G_spec_l1Open k) (lam L_spec_l1Open k) (cutsOf L_spec_l1Open) 0 (finish cod T false 0 [.tmp 2] D_spec_l1Open) 4000 false [.code (bodyOf Try.f75)] (envOf [0] [.inl false .byte a0]) [] = spec_l1Open k a0 := by kernel_rfl
theorem ok_spec_l1Open (k : Nat) : SummOk Try.prog cod 75 (S_spec_l1Open k) := by
  refine summ_of (T := T) Try.f75 (G_spec_l1Open) L_spec_l1Open false [.tmp 2] 0 D_spec_l1Open mixed (fun k => Known.of tok eok codOk ?_) (fun k => QuietOk.of ?_) Try.func75 (by kernel_rfl) (by kernel_rfl) (by kernel_rfl) (by kernel_rfl) (by kernel_rfl) ?_ ?_ [] ?_
  · exact all_nil
  · exact all_nil
  · intro v os r h
    unfold D_spec_l1Open at h
    split at h <;> first | (cases h; rfl) | cases h
  · refine all_cons ?_ (all_nil)
    · refine ⟨fun vs os => ?_, by kernel_rfl, fun k vs os r h => ?_⟩
      · show C_spec_l1Open_3.fn 0 vs os = none
        unfold C_spec_l1Open_3; dsimp only; split <;> rfl
      · change C_spec_l1Open_3.fn (k + 1) vs os = some r at h
        unfold C_spec_l1Open_3 at h; dsimp only at h
        split at h
        · exact ⟨4000, (c_spec_l1Open_3 k _).trans h⟩
        · cases h
  · intro args os r h
    change (S_spec_l1Open k).run args os = some r at h
    unfold S_spec_l1Open at h; dsimp only at h
    split at h
    · exact ⟨Nat.le_of_ble_eq_true (by kernel_rfl), rfl, rfl, k, 4000, (e_spec_l1Open k _).trans h⟩
    · cases h
noncomputable def S_spec_l1Rd_pick (k : Nat) : Summ K TyK where
  R := Int × DL1Rd
  modes := [.mv, .bo]
  run := fun args objs => match args, objs with
    | [.ref 0 0, .lit (.int .i64 v1)], [.box [.inl false .byte v2, .lit (.int .i64 v3)]] => spec_l1Rd_pick k (⟨v2, v3⟩ : DL1Rd) v1
    | _, _ => none
  ret := fun r => (.lit (.int .i64 r.1), [.box [.inl false .byte r.2.b, .lit (.int .i64 r.2.p)]])
  quiet := false
noncomputable def D_spec_l1Rd_pick (v : V) (os : Objs K TyK) : Option (Int × DL1Rd) :=
  match v, os with
  | .lit (.int .i64 v1), [.box [.inl false .byte v2, .lit (.int .i64 v3)]] => some (v1, (⟨v2, v3⟩ : DL1Rd))
  | _, _ => none
noncomputable abbrev G_spec_l1Rd_pick (k : Nat) : FuncId → Option (Summ K TyK) := lookT []
noncomputable abbrev L_spec_l1Rd_pick : List (Nat × Cut K TyK (Int × DL1Rd)) := []
theorem e_spec_l1Rd_pick (k : Nat) (a0 : DL1Rd) (a1 : Int) : run cod T (G_spec_l1Rd_pick k) (lam L_spec_l1Rd_pick k) (cutsOf L_spec_l1Rd_pick) 1 (finish cod T false 1 [.tmp 4] D_spec_l1Rd_pick) 4000 false [.code (bodyOf Try.f76)] (envOf [0, 1] [.ref 0 0, .lit (.int .i64 a1)]) [.box [.inl false .byte a0.b, .lit (.int .i64 a0.p)]] = spec_l1Rd_pick k a0 a1 := by kernel_rfl
theorem ok_spec_l1Rd_pick (k : Nat) : SummOk Try.prog cod 76 (S_spec_l1Rd_pick k) := by
  refine summ_of (T := T) Try.f76 (G_spec_l1Rd_pick) L_spec_l1Rd_pick false [.tmp 4] 1 D_spec_l1Rd_pick mixed (fun k => Known.of tok eok codOk ?_) (fun k => QuietOk.of ?_) Try.func76 (by kernel_rfl) (by kernel_rfl) (by kernel_rfl) (by kernel_rfl) (by kernel_rfl) ?_ ?_ [false] ?_
  · exact all_nil
  · exact all_nil
  · intro v os r h
    unfold D_spec_l1Rd_pick at h
    split at h <;> first | (cases h; rfl) | cases h
  · refine all_nil
  · intro args os r h
    change (S_spec_l1Rd_pick k).run args os = some r at h
    unfold S_spec_l1Rd_pick at h; dsimp only at h
    split at h
    · exact ⟨Nat.le_of_ble_eq_true (by kernel_rfl), rfl, rfl, k, 4000, (e_spec_l1Rd_pick k ⟨_, _⟩ _).trans h⟩
    · cases h
noncomputable def S_spec_l1Many (k : Nat) : Summ K TyK where
  R := ByteArray
  modes := [.bo, .bo]
  run := fun args objs => match args, objs with
    | [.lit (.string v1), .lit (.int .i64 v2)], [] => spec_l1Many k v1 v2
    | _, _ => none
  ret := fun r => (.lit (.string r), [])
  quiet := true
noncomputable def D_spec_l1Many (v : V) (os : Objs K TyK) : Option (ByteArray) :=
  match v, os with
  | .lit (.string v1), [] => some v1
  | _, _ => none
noncomputable def C_spec_l1Many_2 : Cut K TyK (ByteArray) where
  slots := [0, 1, 5]
  fn := fun k vs os => match vs, os with
    | [.lit (.string x0), .lit (.int .i64 x1), .lit (.string x2)], [] => spec_l1Many_l2 k x0 x1 x2
    | _, _ => none
noncomputable def C_spec_l1Many_5 : Cut K TyK (ByteArray) where
  slots := [0, 1, 5]
  fn := fun k vs os => match vs, os with
    | [.lit (.string x0), .lit (.int .i64 x1), .lit (.string x2)], [] => spec_l1Many_l5 k x0 x1 x2
    | _, _ => none
noncomputable abbrev G_spec_l1Many (k : Nat) : FuncId → Option (Summ K TyK) := lookT []
noncomputable abbrev L_spec_l1Many : List (Nat × Cut K TyK (ByteArray)) := [(2, C_spec_l1Many_2), (5, C_spec_l1Many_5)]
theorem c_spec_l1Many_2 (k : Nat) (x0 : ByteArray) (x1 : Int) (x2 : ByteArray) : run cod T (G_spec_l1Many k) (lam L_spec_l1Many k) (cutsOf L_spec_l1Many) 0 (finish cod T false 0 [.tmp 4] D_spec_l1Many) 4000 true (todoAt 2 (bodyOf Try.f77)) (envOf [0, 1, 5] [.lit (.string x0), .lit (.int .i64 x1), .lit (.string x2)]) [] = spec_l1Many_l2 (k + 1) x0 x1 x2 := by kernel_rfl
theorem c_spec_l1Many_5 (k : Nat) (x0 : ByteArray) (x1 : Int) (x2 : ByteArray) : run cod T (G_spec_l1Many k) (lam L_spec_l1Many k) (cutsOf L_spec_l1Many) 0 (finish cod T false 0 [.tmp 4] D_spec_l1Many) 4000 true (todoAt 5 (bodyOf Try.f77)) (envOf [0, 1, 5] [.lit (.string x0), .lit (.int .i64 x1), .lit (.string x2)]) [] = spec_l1Many_l5 (k + 1) x0 x1 x2 := by kernel_rfl
theorem e_spec_l1Many (k : Nat) (a0 : ByteArray) (a1 : Int) : run cod T (G_spec_l1Many k) (lam L_spec_l1Many k) (cutsOf L_spec_l1Many) 0 (finish cod T false 0 [.tmp 4] D_spec_l1Many) 4000 false [.code (bodyOf Try.f77)] (envOf [0, 1] [.lit (.string a0), .lit (.int .i64 a1)]) [] = spec_l1Many k a0 a1 := by kernel_rfl
theorem ok_spec_l1Many (k : Nat) : SummOk Try.prog cod 77 (S_spec_l1Many k) := by
  refine summ_of (T := T) Try.f77 (G_spec_l1Many) L_spec_l1Many false [.tmp 4] 0 D_spec_l1Many mixed (fun k => Known.of tok eok codOk ?_) (fun k => QuietOk.of ?_) Try.func77 (by kernel_rfl) (by kernel_rfl) (by kernel_rfl) (by kernel_rfl) (by kernel_rfl) ?_ ?_ [] ?_
  · exact all_nil
  · exact all_nil
  · intro v os r h
    unfold D_spec_l1Many at h
    split at h <;> first | (cases h; rfl) | cases h
  · refine all_cons ?_ (all_cons ?_ (all_nil))
    · refine ⟨fun vs os => ?_, by kernel_rfl, fun k vs os r h => ?_⟩
      · show C_spec_l1Many_2.fn 0 vs os = none
        unfold C_spec_l1Many_2; dsimp only; split <;> rfl
      · change C_spec_l1Many_2.fn (k + 1) vs os = some r at h
        unfold C_spec_l1Many_2 at h; dsimp only at h
        split at h
        · exact ⟨4000, (c_spec_l1Many_2 k _ _ _).trans h⟩
        · cases h
    · refine ⟨fun vs os => ?_, by kernel_rfl, fun k vs os r h => ?_⟩
      · show C_spec_l1Many_5.fn 0 vs os = none
        unfold C_spec_l1Many_5; dsimp only; split <;> rfl
      · change C_spec_l1Many_5.fn (k + 1) vs os = some r at h
        unfold C_spec_l1Many_5 at h; dsimp only at h
        split at h
        · exact ⟨4000, (c_spec_l1Many_5 k _ _ _).trans h⟩
        · cases h
  · intro args os r h
    change (S_spec_l1Many k).run args os = some r at h
    unfold S_spec_l1Many at h; dsimp only at h
    split at h
    · exact ⟨Nat.le_of_ble_eq_true (by kernel_rfl), rfl, rfl, k, 4000, (e_spec_l1Many k _ _).trans h⟩
    · cases h
noncomputable def S_spec_l1Message (k : Nat) : Summ K TyK where
  R := ByteArray × DL1Rd
  modes := [.bo]
  run := fun args objs => match args, objs with
    | [.ref 0 0], [.box [.inl false .byte v1, .lit (.int .i64 v2)]] => spec_l1Message k (⟨v1, v2⟩ : DL1Rd)
    | _, _ => none
  ret := fun r => (.lit (.string r.1), [.box [.inl false .byte r.2.b, .lit (.int .i64 r.2.p)]])
  quiet := false
noncomputable def D_spec_l1Message (v : V) (os : Objs K TyK) : Option (ByteArray × DL1Rd) :=
  match v, os with
  | .lit (.string v1), [.box [.inl false .byte v2, .lit (.int .i64 v3)]] => some (v1, (⟨v2, v3⟩ : DL1Rd))
  | _, _ => none
noncomputable def C_spec_l1Message_12 : Cut K TyK (ByteArray × DL1Rd) where
  slots := [0, 3, 4]
  fn := fun k vs os => match vs, os with
    | [.ref 0 0, .lit (.string x0), .lit (.int .i64 x1)], [.box [.inl false .byte x2, .lit (.int .i64 x3)]] => spec_l1Message_l12 k x0 x1 x2 x3
    | _, _ => none
noncomputable abbrev G_spec_l1Message (k : Nat) : FuncId → Option (Summ K TyK) := lookT [(76, S_spec_l1Rd_pick k), (77, S_spec_l1Many k)]
noncomputable abbrev L_spec_l1Message : List (Nat × Cut K TyK (ByteArray × DL1Rd)) := [(12, C_spec_l1Message_12)]
theorem c_spec_l1Message_12 (k : Nat) (x0 : ByteArray) (x1 : Int) (x2 : List Int) (x3 : Int) : run cod T (G_spec_l1Message k) (lam L_spec_l1Message k) (cutsOf L_spec_l1Message) 1 (finish cod T false 1 [.tmp 2] D_spec_l1Message) 4000 true (todoAt 12 (bodyOf Try.f78)) (envOf [0, 3, 4] [.ref 0 0, .lit (.string x0), .lit (.int .i64 x1)]) [.box [.inl false .byte x2, .lit (.int .i64 x3)]] = spec_l1Message_l12 (k + 1) x0 x1 x2 x3 := by kernel_rfl
theorem e_spec_l1Message (k : Nat) (a0 : DL1Rd) : run cod T (G_spec_l1Message k) (lam L_spec_l1Message k) (cutsOf L_spec_l1Message) 1 (finish cod T false 1 [.tmp 2] D_spec_l1Message) 4000 false [.code (bodyOf Try.f78)] (envOf [0] [.ref 0 0]) [.box [.inl false .byte a0.b, .lit (.int .i64 a0.p)]] = spec_l1Message k a0 := by kernel_rfl
theorem ok_spec_l1Message (k : Nat) : SummOk Try.prog cod 78 (S_spec_l1Message k) := by
  refine summ_of (T := T) Try.f78 (G_spec_l1Message) L_spec_l1Message false [.tmp 2] 1 D_spec_l1Message mixed (fun k => Known.of tok eok codOk ?_) (fun k => QuietOk.of ?_) Try.func78 (by kernel_rfl) (by kernel_rfl) (by kernel_rfl) (by kernel_rfl) (by kernel_rfl) ?_ ?_ [false] ?_
  · exact all_cons (ok_spec_l1Rd_pick k) (all_cons (ok_spec_l1Many k) (all_nil))
  · exact all_cons (fun h r => by cases h) (all_cons (fun h r => ⟨rfl, rfl⟩) (all_nil))
  · intro v os r h
    unfold D_spec_l1Message at h
    split at h <;> first | (cases h; rfl) | cases h
  · refine all_cons ?_ (all_nil)
    · refine ⟨fun vs os => ?_, by kernel_rfl, fun k vs os r h => ?_⟩
      · show C_spec_l1Message_12.fn 0 vs os = none
        unfold C_spec_l1Message_12; dsimp only; split <;> rfl
      · change C_spec_l1Message_12.fn (k + 1) vs os = some r at h
        unfold C_spec_l1Message_12 at h; dsimp only at h
        split at h
        · exact ⟨4000, (c_spec_l1Message_12 k _ _ _ _).trans h⟩
        · cases h
  · intro args os r h
    change (S_spec_l1Message k).run args os = some r at h
    unfold S_spec_l1Message at h; dsimp only at h
    split at h
    · exact ⟨Nat.le_of_ble_eq_true (by kernel_rfl), rfl, rfl, k, 4000, (e_spec_l1Message k ⟨_, _⟩).trans h⟩
    · cases h
noncomputable def S_spec_DrawCut (k : Nat) : Summ K TyK where
  R := ByteArray
  modes := [.pe]
  run := fun args objs => match args, objs with
    | [.inl false .byte v1], [] => spec_DrawCut k v1
    | _, _ => none
  ret := fun r => (.lit (.string r), [])
  quiet := true
noncomputable def D_spec_DrawCut (v : V) (os : Objs K TyK) : Option (ByteArray) :=
  match v, os with
  | .lit (.string v1), [] => some v1
  | _, _ => none
noncomputable abbrev G_spec_DrawCut (k : Nat) : FuncId → Option (Summ K TyK) := lookT [(75, S_spec_l1Open k), (76, S_spec_l1Rd_pick k), (77, S_spec_l1Many k), (78, S_spec_l1Message k)]
noncomputable abbrev L_spec_DrawCut : List (Nat × Cut K TyK (ByteArray)) := []
theorem e_spec_DrawCut (k : Nat) (a0 : List Int) : run cod T (G_spec_DrawCut k) (lam L_spec_DrawCut k) (cutsOf L_spec_DrawCut) 0 (finish cod T false 0 [.tmp 2] D_spec_DrawCut) 4000 false [.code (bodyOf Try.f24)] (envOf [0] [.inl false .byte a0]) [] = spec_DrawCut k a0 := by kernel_rfl
theorem ok_spec_DrawCut (k : Nat) : SummOk Try.prog cod 24 (S_spec_DrawCut k) := by
  refine summ_of (T := T) Try.f24 (G_spec_DrawCut) L_spec_DrawCut false [.tmp 2] 0 D_spec_DrawCut mixed (fun k => Known.of tok eok codOk ?_) (fun k => QuietOk.of ?_) Try.func24 (by kernel_rfl) (by kernel_rfl) (by kernel_rfl) (by kernel_rfl) (by kernel_rfl) ?_ ?_ [] ?_
  · exact all_cons (ok_spec_l1Open k) (all_cons (ok_spec_l1Rd_pick k) (all_cons (ok_spec_l1Many k) (all_cons (ok_spec_l1Message k) (all_nil))))
  · exact all_cons (fun h r => by cases h) (all_cons (fun h r => by cases h) (all_cons (fun h r => ⟨rfl, rfl⟩) (all_cons (fun h r => by cases h) (all_nil))))
  · intro v os r h
    unfold D_spec_DrawCut at h
    split at h <;> first | (cases h; rfl) | cases h
  · refine all_nil
  · intro args os r h
    change (S_spec_DrawCut k).run args os = some r at h
    unfold S_spec_DrawCut at h; dsimp only at h
    split at h
    · exact ⟨Nat.le_of_ble_eq_true (by kernel_rfl), rfl, rfl, k, 4000, (e_spec_DrawCut k _).trans h⟩
    · cases h
noncomputable def S_impl_Cut (k : Nat) : Summ K TyK where
  R := List DPart
  modes := [.bo]
  run := fun args objs => match args, objs with
    | [.lit (.string v1)], [] => impl_Cut k v1
    | _, _ => none
  ret := fun r => (.own 0, [.sl .part r])
  quiet := false
noncomputable def D_impl_Cut (v : V) (os : Objs K TyK) : Option (List DPart) :=
  match v, os with
  | .own 0, [.sl .part v1] => some v1
  | _, _ => none
noncomputable def C_impl_Cut_4 : Cut K TyK (List DPart) where
  slots := [0, 3]
  fn := fun k vs os => match vs, os with
    | [.lit (.string x0), .own 0], [.sl .part x1] => impl_Cut_l4 k x0 x1
    | _, _ => none
noncomputable abbrev G_impl_Cut (k : Nat) : FuncId → Option (Summ K TyK) := lookT []
noncomputable abbrev L_impl_Cut : List (Nat × Cut K TyK (List DPart)) := [(4, C_impl_Cut_4)]
theorem c_impl_Cut_4 (k : Nat) (x0 : ByteArray) (x1 : List DPart) : run cod T (G_impl_Cut k) (lam L_impl_Cut k) (cutsOf L_impl_Cut) 0 (finish cod T false 0 [.tmp 2] D_impl_Cut) 4000 true (todoAt 4 (bodyOf Try.f25)) (envOf [0, 3] [.lit (.string x0), .own 0]) [.sl .part x1] = impl_Cut_l4 (k + 1) x0 x1 := by kernel_rfl
theorem e_impl_Cut (k : Nat) (a0 : ByteArray) : run cod T (G_impl_Cut k) (lam L_impl_Cut k) (cutsOf L_impl_Cut) 0 (finish cod T false 0 [.tmp 2] D_impl_Cut) 4000 false [.code (bodyOf Try.f25)] (envOf [0] [.lit (.string a0)]) [] = impl_Cut k a0 := by kernel_rfl
theorem ok_impl_Cut (k : Nat) : SummOk Try.prog cod 25 (S_impl_Cut k) := by
  refine summ_of (T := T) Try.f25 (G_impl_Cut) L_impl_Cut false [.tmp 2] 0 D_impl_Cut mixed (fun k => Known.of tok eok codOk ?_) (fun k => QuietOk.of ?_) Try.func25 (by kernel_rfl) (by kernel_rfl) (by kernel_rfl) (by kernel_rfl) (by kernel_rfl) ?_ ?_ [] ?_
  · exact all_nil
  · exact all_nil
  · intro v os r h
    unfold D_impl_Cut at h
    split at h <;> first | (cases h; rfl) | cases h
  · refine all_cons ?_ (all_nil)
    · refine ⟨fun vs os => ?_, by kernel_rfl, fun k vs os r h => ?_⟩
      · show C_impl_Cut_4.fn 0 vs os = none
        unfold C_impl_Cut_4; dsimp only; split <;> rfl
      · change C_impl_Cut_4.fn (k + 1) vs os = some r at h
        unfold C_impl_Cut_4 at h; dsimp only at h
        split at h
        · exact ⟨4000, (c_impl_Cut_4 k _ _).trans h⟩
        · cases h
  · intro args os r h
    change (S_impl_Cut k).run args os = some r at h
    unfold S_impl_Cut at h; dsimp only at h
    split at h
    · exact ⟨Nat.le_of_ble_eq_true (by kernel_rfl), rfl, rfl, k, 4000, (e_impl_Cut k _).trans h⟩
    · cases h
noncomputable def S_spec_Cut (k : Nat) : Summ K TyK where
  R := List DPart
  modes := [.bo]
  run := fun args objs => match args, objs with
    | [.lit (.string v1)], [] => spec_Cut k v1
    | _, _ => none
  ret := fun r => (.own 0, [.sl .part r])
  quiet := false
noncomputable def D_spec_Cut (v : V) (os : Objs K TyK) : Option (List DPart) :=
  match v, os with
  | .own 0, [.sl .part v1] => some v1
  | _, _ => none
noncomputable def C_spec_Cut_4 : Cut K TyK (List DPart) where
  slots := [0, 3]
  fn := fun k vs os => match vs, os with
    | [.lit (.string x0), .own 0], [.sl .part x1] => spec_Cut_l4 k x0 x1
    | _, _ => none
noncomputable abbrev G_spec_Cut (k : Nat) : FuncId → Option (Summ K TyK) := lookT []
noncomputable abbrev L_spec_Cut : List (Nat × Cut K TyK (List DPart)) := [(4, C_spec_Cut_4)]
theorem c_spec_Cut_4 (k : Nat) (x0 : ByteArray) (x1 : List DPart) : run cod T (G_spec_Cut k) (lam L_spec_Cut k) (cutsOf L_spec_Cut) 0 (finish cod T false 0 [.tmp 2] D_spec_Cut) 4000 true (todoAt 4 (bodyOf Try.f26)) (envOf [0, 3] [.lit (.string x0), .own 0]) [.sl .part x1] = spec_Cut_l4 (k + 1) x0 x1 := by kernel_rfl
theorem e_spec_Cut (k : Nat) (a0 : ByteArray) : run cod T (G_spec_Cut k) (lam L_spec_Cut k) (cutsOf L_spec_Cut) 0 (finish cod T false 0 [.tmp 2] D_spec_Cut) 4000 false [.code (bodyOf Try.f26)] (envOf [0] [.lit (.string a0)]) [] = spec_Cut k a0 := by kernel_rfl
theorem ok_spec_Cut (k : Nat) : SummOk Try.prog cod 26 (S_spec_Cut k) := by
  refine summ_of (T := T) Try.f26 (G_spec_Cut) L_spec_Cut false [.tmp 2] 0 D_spec_Cut mixed (fun k => Known.of tok eok codOk ?_) (fun k => QuietOk.of ?_) Try.func26 (by kernel_rfl) (by kernel_rfl) (by kernel_rfl) (by kernel_rfl) (by kernel_rfl) ?_ ?_ [] ?_
  · exact all_nil
  · exact all_nil
  · intro v os r h
    unfold D_spec_Cut at h
    split at h <;> first | (cases h; rfl) | cases h
  · refine all_cons ?_ (all_nil)
    · refine ⟨fun vs os => ?_, by kernel_rfl, fun k vs os r h => ?_⟩
      · show C_spec_Cut_4.fn 0 vs os = none
        unfold C_spec_Cut_4; dsimp only; split <;> rfl
      · change C_spec_Cut_4.fn (k + 1) vs os = some r at h
        unfold C_spec_Cut_4 at h; dsimp only at h
        split at h
        · exact ⟨4000, (c_spec_Cut_4 k _ _).trans h⟩
        · cases h
  · intro args os r h
    change (S_spec_Cut k).run args os = some r at h
    unfold S_spec_Cut at h; dsimp only at h
    split at h
    · exact ⟨Nat.le_of_ble_eq_true (by kernel_rfl), rfl, rfl, k, 4000, (e_spec_Cut k _).trans h⟩
    · cases h
noncomputable def S_laws_wTexts (k : Nat) : Summ K TyK where
  R := Bool
  modes := [.bo, .bo]
  run := fun args objs => match args, objs with
    | [.inl true .str v1, .inl true .str v2], [] => laws_wTexts k v1 v2
    | _, _ => none
  ret := fun r => (.lit (.bool r), [])
  quiet := true
noncomputable def D_laws_wTexts (v : V) (os : Objs K TyK) : Option (Bool) :=
  match v, os with
  | .lit (.bool v1), [] => some v1
  | _, _ => none
noncomputable def C_laws_wTexts_4 : Cut K TyK (Bool) where
  slots := [0, 1, 5]
  fn := fun k vs os => match vs, os with
    | [.inl true .str x0, .inl true .str x1, .lit (.int .i64 x2)], [] => laws_wTexts_l4 k x0 x1 x2
    | _, _ => none
noncomputable abbrev G_laws_wTexts (k : Nat) : FuncId → Option (Summ K TyK) := lookT []
noncomputable abbrev L_laws_wTexts : List (Nat × Cut K TyK (Bool)) := [(4, C_laws_wTexts_4)]
theorem c_laws_wTexts_4 (k : Nat) (x0 : List ByteArray) (x1 : List ByteArray) (x2 : Int) : run cod T (G_laws_wTexts k) (lam L_laws_wTexts k) (cutsOf L_laws_wTexts) 0 (finish cod T false 0 [.tmp 4] D_laws_wTexts) 4000 true (todoAt 4 (bodyOf Try.f27)) (envOf [0, 1, 5] [.inl true .str x0, .inl true .str x1, .lit (.int .i64 x2)]) [] = laws_wTexts_l4 (k + 1) x0 x1 x2 := by kernel_rfl
theorem e_laws_wTexts (k : Nat) (a0 : List ByteArray) (a1 : List ByteArray) : run cod T (G_laws_wTexts k) (lam L_laws_wTexts k) (cutsOf L_laws_wTexts) 0 (finish cod T false 0 [.tmp 4] D_laws_wTexts) 4000 false [.code (bodyOf Try.f27)] (envOf [0, 1] [.inl true .str a0, .inl true .str a1]) [] = laws_wTexts k a0 a1 := by kernel_rfl
theorem ok_laws_wTexts (k : Nat) : SummOk Try.prog cod 27 (S_laws_wTexts k) := by
  refine summ_of (T := T) Try.f27 (G_laws_wTexts) L_laws_wTexts false [.tmp 4] 0 D_laws_wTexts mixed (fun k => Known.of tok eok codOk ?_) (fun k => QuietOk.of ?_) Try.func27 (by kernel_rfl) (by kernel_rfl) (by kernel_rfl) (by kernel_rfl) (by kernel_rfl) ?_ ?_ [] ?_
  · exact all_nil
  · exact all_nil
  · intro v os r h
    unfold D_laws_wTexts at h
    split at h <;> first | (cases h; rfl) | cases h
  · refine all_cons ?_ (all_nil)
    · refine ⟨fun vs os => ?_, by kernel_rfl, fun k vs os r h => ?_⟩
      · show C_laws_wTexts_4.fn 0 vs os = none
        unfold C_laws_wTexts_4; dsimp only; split <;> rfl
      · change C_laws_wTexts_4.fn (k + 1) vs os = some r at h
        unfold C_laws_wTexts_4 at h; dsimp only at h
        split at h
        · exact ⟨4000, (c_laws_wTexts_4 k _ _ _).trans h⟩
        · cases h
  · intro args os r h
    change (S_laws_wTexts k).run args os = some r at h
    unfold S_laws_wTexts at h; dsimp only at h
    split at h
    · exact ⟨Nat.le_of_ble_eq_true (by kernel_rfl), rfl, rfl, k, 4000, (e_laws_wTexts k _ _).trans h⟩
    · cases h
noncomputable def S_spec_DrawJoin (k : Nat) : Summ K TyK where
  R := List DPart
  modes := [.pe]
  run := fun args objs => match args, objs with
    | [.inl false .byte v1], [] => spec_DrawJoin k v1
    | _, _ => none
  ret := fun r => (.own 0, [.sl .part r])
  quiet := false
noncomputable def D_spec_DrawJoin (v : V) (os : Objs K TyK) : Option (List DPart) :=
  match v, os with
  | .own 0, [.sl .part v1] => some v1
  | _, _ => none
noncomputable def C_spec_DrawJoin_4 : Cut K TyK (List DPart) where
  slots := [3, 4, 5]
  fn := fun k vs os => match vs, os with
    | [.ref 0 0, .own 1, .lit (.int .i64 x0)], [.box [.inl false .byte x1, .lit (.int .i64 x2)], .sl .part x3] => spec_DrawJoin_l4 k x0 x1 x2 x3
    | _, _ => none
noncomputable def C_spec_DrawJoin_20 : Cut K TyK (List DPart) where
  slots := [4]
  fn := fun k vs os => match vs, os with
    | [.own 0], [.sl .part x0] => spec_DrawJoin_l20 k x0
    | _, _ => none
noncomputable def C_spec_DrawJoin_11 : Cut K TyK (List DPart) where
  slots := [3, 4, 7]
  fn := fun k vs os => match vs, os with
    | [.ref 0 0, .own 1, .lit (.int .i64 x0)], [.box [.inl false .byte x1, .lit (.int .i64 x2)], .sl .part x3] => spec_DrawJoin_l11 k x0 x1 x2 x3
    | _, _ => none
noncomputable abbrev G_spec_DrawJoin (k : Nat) : FuncId → Option (Summ K TyK) := lookT [(75, S_spec_l1Open k), (76, S_spec_l1Rd_pick k), (78, S_spec_l1Message k), (26, S_spec_Cut k), (77, S_spec_l1Many k)]
noncomputable abbrev L_spec_DrawJoin : List (Nat × Cut K TyK (List DPart)) := [(4, C_spec_DrawJoin_4), (20, C_spec_DrawJoin_20), (11, C_spec_DrawJoin_11)]
theorem c_spec_DrawJoin_4 (k : Nat) (x0 : Int) (x1 : List Int) (x2 : Int) (x3 : List DPart) : run cod T (G_spec_DrawJoin k) (lam L_spec_DrawJoin k) (cutsOf L_spec_DrawJoin) 0 (finish cod T false 0 [.tmp 2] D_spec_DrawJoin) 4000 true (todoAt 4 (bodyOf Try.f28)) (envOf [3, 4, 5] [.ref 0 0, .own 1, .lit (.int .i64 x0)]) [.box [.inl false .byte x1, .lit (.int .i64 x2)], .sl .part x3] = spec_DrawJoin_l4 (k + 1) x0 x1 x2 x3 := by kernel_rfl
theorem c_spec_DrawJoin_20 (k : Nat) (x0 : List DPart) : run cod T (G_spec_DrawJoin k) (lam L_spec_DrawJoin k) (cutsOf L_spec_DrawJoin) 0 (finish cod T false 0 [.tmp 2] D_spec_DrawJoin) 4000 true (todoAt 20 (bodyOf Try.f28)) (envOf [4] [.own 0]) [.sl .part x0] = spec_DrawJoin_l20 (k + 1) x0 := by kernel_rfl
theorem c_spec_DrawJoin_11 (k : Nat) (x0 : Int) (x1 : List Int) (x2 : Int) (x3 : List DPart) : run cod T (G_spec_DrawJoin k) (lam L_spec_DrawJoin k) (cutsOf L_spec_DrawJoin) 0 (finish cod T false 0 [.tmp 2] D_spec_DrawJoin) 4000 true (todoAt 11 (bodyOf Try.f28)) (envOf [3, 4, 7] [.ref 0 0, .own 1, .lit (.int .i64 x0)]) [.box [.inl false .byte x1, .lit (.int .i64 x2)], .sl .part x3] = spec_DrawJoin_l11 (k + 1) x0 x1 x2 x3 := by kernel_rfl
theorem e_spec_DrawJoin (k : Nat) (a0 : List Int) : run cod T (G_spec_DrawJoin k) (lam L_spec_DrawJoin k) (cutsOf L_spec_DrawJoin) 0 (finish cod T false 0 [.tmp 2] D_spec_DrawJoin) 4000 false [.code (bodyOf Try.f28)] (envOf [0] [.inl false .byte a0]) [] = spec_DrawJoin k a0 := by kernel_rfl
theorem ok_spec_DrawJoin (k : Nat) : SummOk Try.prog cod 28 (S_spec_DrawJoin k) := by
  refine summ_of (T := T) Try.f28 (G_spec_DrawJoin) L_spec_DrawJoin false [.tmp 2] 0 D_spec_DrawJoin mixed (fun k => Known.of tok eok codOk ?_) (fun k => QuietOk.of ?_) Try.func28 (by kernel_rfl) (by kernel_rfl) (by kernel_rfl) (by kernel_rfl) (by kernel_rfl) ?_ ?_ [] ?_
  · exact all_cons (ok_spec_l1Open k) (all_cons (ok_spec_l1Rd_pick k) (all_cons (ok_spec_l1Message k) (all_cons (ok_spec_Cut k) (all_cons (ok_spec_l1Many k) (all_nil)))))
  · exact all_cons (fun h r => by cases h) (all_cons (fun h r => by cases h) (all_cons (fun h r => by cases h) (all_cons (fun h r => by cases h) (all_cons (fun h r => ⟨rfl, rfl⟩) (all_nil)))))
  · intro v os r h
    unfold D_spec_DrawJoin at h
    split at h <;> first | (cases h; rfl) | cases h
  · refine all_cons ?_ (all_cons ?_ (all_cons ?_ (all_nil)))
    · refine ⟨fun vs os => ?_, by kernel_rfl, fun k vs os r h => ?_⟩
      · show C_spec_DrawJoin_4.fn 0 vs os = none
        unfold C_spec_DrawJoin_4; dsimp only; split <;> rfl
      · change C_spec_DrawJoin_4.fn (k + 1) vs os = some r at h
        unfold C_spec_DrawJoin_4 at h; dsimp only at h
        split at h
        · exact ⟨4000, (c_spec_DrawJoin_4 k _ _ _ _).trans h⟩
        · cases h
    · refine ⟨fun vs os => ?_, by kernel_rfl, fun k vs os r h => ?_⟩
      · show C_spec_DrawJoin_20.fn 0 vs os = none
        unfold C_spec_DrawJoin_20; dsimp only; split <;> rfl
      · change C_spec_DrawJoin_20.fn (k + 1) vs os = some r at h
        unfold C_spec_DrawJoin_20 at h; dsimp only at h
        split at h
        · exact ⟨4000, (c_spec_DrawJoin_20 k _).trans h⟩
        · cases h
    · refine ⟨fun vs os => ?_, by kernel_rfl, fun k vs os r h => ?_⟩
      · show C_spec_DrawJoin_11.fn 0 vs os = none
        unfold C_spec_DrawJoin_11; dsimp only; split <;> rfl
      · change C_spec_DrawJoin_11.fn (k + 1) vs os = some r at h
        unfold C_spec_DrawJoin_11 at h; dsimp only at h
        split at h
        · exact ⟨4000, (c_spec_DrawJoin_11 k _ _ _ _).trans h⟩
        · cases h
  · intro args os r h
    change (S_spec_DrawJoin k).run args os = some r at h
    unfold S_spec_DrawJoin at h; dsimp only at h
    split at h
    · exact ⟨Nat.le_of_ble_eq_true (by kernel_rfl), rfl, rfl, k, 4000, (e_spec_DrawJoin k _).trans h⟩
    · cases h
noncomputable def S_laws_FnParts (k : Nat) : Summ K TyK where
  R := Bool
  modes := [.pe, .pe]
  run := fun args objs => match args, objs with
    | [.inl false .byte v1, .inl false .byte v2], [] => laws_FnParts k v1 v2
    | _, _ => none
  ret := fun r => (.lit (.bool r), [])
  quiet := true
noncomputable def D_laws_FnParts (v : V) (os : Objs K TyK) : Option (Bool) :=
  match v, os with
  | .lit (.bool v1), [] => some v1
  | _, _ => none
noncomputable def C_laws_FnParts_13 : Cut K TyK (Bool) where
  slots := [0, 6, 9, 10, 11, 12]
  fn := fun k vs os => match vs, os with
    | [.inl false .byte x0, .lit (.string x1), .own 0, .lit (.string x2), .lit (.bool x3), .own 1], [.sl .str x4, .sl .str x5] => laws_FnParts_l13 k x0 x1 x2 x3 x4 x5
    | _, _ => none
noncomputable def C_laws_FnParts_15 : Cut K TyK (Bool) where
  slots := [0, 9, 10, 11, 12]
  fn := fun k vs os => match vs, os with
    | [.inl false .byte x0, .own 0, .lit (.string x1), .lit (.bool x2), .own 1], [.sl .str x3, .sl .str x4] => laws_FnParts_l15 k x0 x1 x2 x3 x4
    | _, _ => none
noncomputable abbrev G_laws_FnParts (k : Nat) : FuncId → Option (Summ K TyK) := lookT [(24, S_spec_DrawCut k), (25, S_impl_Cut k), (26, S_spec_Cut k), (18, S_impl_Join k), (27, S_laws_wTexts k), (28, S_spec_DrawJoin k), (16, S_spec_Join k)]
noncomputable abbrev L_laws_FnParts : List (Nat × Cut K TyK (Bool)) := [(13, C_laws_FnParts_13), (15, C_laws_FnParts_15)]
theorem c_laws_FnParts_13 (k : Nat) (x0 : List Int) (x1 : ByteArray) (x2 : ByteArray) (x3 : Bool) (x4 : List ByteArray) (x5 : List ByteArray) : run cod T (G_laws_FnParts k) (lam L_laws_FnParts k) (cutsOf L_laws_FnParts) 0 (finish cod T false 0 [.tmp 4] D_laws_FnParts) 4000 true (todoAt 13 (bodyOf Try.f4)) (envOf [0, 6, 9, 10, 11, 12] [.inl false .byte x0, .lit (.string x1), .own 0, .lit (.string x2), .lit (.bool x3), .own 1]) [.sl .str x4, .sl .str x5] = laws_FnParts_l13 (k + 1) x0 x1 x2 x3 x4 x5 := by kernel_rfl
theorem c_laws_FnParts_15 (k : Nat) (x0 : List Int) (x1 : ByteArray) (x2 : Bool) (x3 : List ByteArray) (x4 : List ByteArray) : run cod T (G_laws_FnParts k) (lam L_laws_FnParts k) (cutsOf L_laws_FnParts) 0 (finish cod T false 0 [.tmp 4] D_laws_FnParts) 4000 true (todoAt 15 (bodyOf Try.f4)) (envOf [0, 9, 10, 11, 12] [.inl false .byte x0, .own 0, .lit (.string x1), .lit (.bool x2), .own 1]) [.sl .str x3, .sl .str x4] = laws_FnParts_l15 (k + 1) x0 x1 x2 x3 x4 := by kernel_rfl
theorem e_laws_FnParts (k : Nat) (a0 : List Int) (a1 : List Int) : run cod T (G_laws_FnParts k) (lam L_laws_FnParts k) (cutsOf L_laws_FnParts) 0 (finish cod T false 0 [.tmp 4] D_laws_FnParts) 4000 false [.code (bodyOf Try.f4)] (envOf [0, 1] [.inl false .byte a0, .inl false .byte a1]) [] = laws_FnParts k a0 a1 := by kernel_rfl
theorem ok_laws_FnParts (k : Nat) : SummOk Try.prog cod 4 (S_laws_FnParts k) := by
  refine summ_of (T := T) Try.f4 (G_laws_FnParts) L_laws_FnParts false [.tmp 4] 0 D_laws_FnParts mixed (fun k => Known.of tok eok codOk ?_) (fun k => QuietOk.of ?_) Try.func4 (by kernel_rfl) (by kernel_rfl) (by kernel_rfl) (by kernel_rfl) (by kernel_rfl) ?_ ?_ [] ?_
  · exact all_cons (ok_spec_DrawCut k) (all_cons (ok_impl_Cut k) (all_cons (ok_spec_Cut k) (all_cons (ok_impl_Join k) (all_cons (ok_laws_wTexts k) (all_cons (ok_spec_DrawJoin k) (all_cons (ok_spec_Join k) (all_nil)))))))
  · exact all_cons (fun h r => ⟨rfl, rfl⟩) (all_cons (fun h r => by cases h) (all_cons (fun h r => by cases h) (all_cons (fun h r => by cases h) (all_cons (fun h r => ⟨rfl, rfl⟩) (all_cons (fun h r => by cases h) (all_cons (fun h r => by cases h) (all_nil)))))))
  · intro v os r h
    unfold D_laws_FnParts at h
    split at h <;> first | (cases h; rfl) | cases h
  · refine all_cons ?_ (all_cons ?_ (all_nil))
    · refine ⟨fun vs os => ?_, by kernel_rfl, fun k vs os r h => ?_⟩
      · show C_laws_FnParts_13.fn 0 vs os = none
        unfold C_laws_FnParts_13; dsimp only; split <;> rfl
      · change C_laws_FnParts_13.fn (k + 1) vs os = some r at h
        unfold C_laws_FnParts_13 at h; dsimp only at h
        split at h
        · exact ⟨4000, (c_laws_FnParts_13 k _ _ _ _ _ _).trans h⟩
        · cases h
    · refine ⟨fun vs os => ?_, by kernel_rfl, fun k vs os r h => ?_⟩
      · show C_laws_FnParts_15.fn 0 vs os = none
        unfold C_laws_FnParts_15; dsimp only; split <;> rfl
      · change C_laws_FnParts_15.fn (k + 1) vs os = some r at h
        unfold C_laws_FnParts_15 at h; dsimp only at h
        split at h
        · exact ⟨4000, (c_laws_FnParts_15 k _ _ _ _ _).trans h⟩
        · cases h
  · intro args os r h
    change (S_laws_FnParts k).run args os = some r at h
    unfold S_laws_FnParts at h; dsimp only at h
    split at h
    · exact ⟨Nat.le_of_ble_eq_true (by kernel_rfl), rfl, rfl, k, 4000, (e_laws_FnParts k _ _).trans h⟩
    · cases h
end Km.X
