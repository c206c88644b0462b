/- A part of the proof of FnTakes: each function does what its reading says. There is no condition. -/
import Derived.Test.YtlgdbdkjkjocjaaKmSeat
import Derived.Test.YtlgdbdkjkjocjaaKxDef
namespace Km.X
open Go Km Go.Proofs
set_option linter.unusedVariables false
set_option maxRecDepth 100000
set_option maxHeartbeats 4000000
noncomputable def S_spec_Join (k : Nat) : Summ K TyK where
  R := List ByteArray × ByteArray × Bool
  modes := [.bo]
  run := fun args objs => match args, objs with
    | [.inl true .part v1], [] => spec_Join k v1
    | _, _ => none
  ret := fun r => (.tup [.own 0, .lit (.string r.2.1), .lit (.bool r.2.2)], [.sl .str r.1])
  quiet := false
noncomputable def D_spec_Join (v : V) (os : Objs K TyK) : Option (List ByteArray × ByteArray × Bool) :=
  match v, os with
  | .tup [.own 0, .lit (.string v1), .lit (.bool v2)], [.sl .str v3] => some (v3, v1, v2)
  | _, _ => none
noncomputable def C_spec_Join_6 : Cut K TyK (List ByteArray × ByteArray × Bool) where
  slots := [0, 5, 6, 7]
  fn := fun k vs os => match vs, os with
    | [.inl true .part x0, .own 0, .lit (.string x1), .lit (.int .i64 x2)], [.sl .str x3] => spec_Join_l6 k x0 x1 x2 x3
    | _, _ => none
noncomputable def C_spec_Join_7 : Cut K TyK (List ByteArray × ByteArray × Bool) where
  slots := [0, 5, 6, 7]
  fn := fun k vs os => match vs, os with
    | [.inl true .part x0, .own 0, .lit (.string x1), .lit (.int .i64 x2)], [.sl .str x3] => spec_Join_l7 k x0 x1 x2 x3
    | _, _ => none
noncomputable abbrev G_spec_Join (k : Nat) : FuncId → Option (Summ K TyK) := lookT []
noncomputable abbrev L_spec_Join : List (Nat × Cut K TyK (List ByteArray × ByteArray × Bool)) := [(6, C_spec_Join_6), (7, C_spec_Join_7)]
theorem c_spec_Join_6 (k : Nat) (x0 : List DPart) (x1 : ByteArray) (x2 : Int) (x3 : List ByteArray) : run cod T (G_spec_Join k) (lam L_spec_Join k) (cutsOf L_spec_Join) 0 (finish cod T false 0 [.tmp 2, .tmp 3, .tmp 4] D_spec_Join) 4000 true (todoAt 6 (bodyOf Try.f16)) (envOf [0, 5, 6, 7] [.inl true .part x0, .own 0, .lit (.string x1), .lit (.int .i64 x2)]) [.sl .str x3] = spec_Join_l6 (k + 1) x0 x1 x2 x3 := by kernel_rfl
theorem c_spec_Join_7 (k : Nat) (x0 : List DPart) (x1 : ByteArray) (x2 : Int) (x3 : List ByteArray) : run cod T (G_spec_Join k) (lam L_spec_Join k) (cutsOf L_spec_Join) 0 (finish cod T false 0 [.tmp 2, .tmp 3, .tmp 4] D_spec_Join) 4000 true (todoAt 7 (bodyOf Try.f16)) (envOf [0, 5, 6, 7] [.inl true .part x0, .own 0, .lit (.string x1), .lit (.int .i64 x2)]) [.sl .str x3] = spec_Join_l7 (k + 1) x0 x1 x2 x3 := by kernel_rfl
theorem e_spec_Join (k : Nat) (a0 : List DPart) : run cod T (G_spec_Join k) (lam L_spec_Join k) (cutsOf L_spec_Join) 0 (finish cod T false 0 [.tmp 2, .tmp 3, .tmp 4] D_spec_Join) 4000 false [.code (bodyOf Try.f16)] (envOf [0] [.inl true .part a0]) [] = spec_Join k a0 := by kernel_rfl
theorem ok_spec_Join (k : Nat) : SummOk Try.prog cod 16 (S_spec_Join k) := by
  refine summ_of (T := T) Try.f16 (G_spec_Join) L_spec_Join false [.tmp 2, .tmp 3, .tmp 4] 0 D_spec_Join mixed (fun k => Known.of tok eok codOk ?_) (fun k => QuietOk.of ?_) Try.func16 (by kernel_rfl) (by kernel_rfl) (by kernel_rfl) (by kernel_rfl) (by kernel_rfl) ?_ ?_ [] ?_
  · exact all_nil
  · exact all_nil
  · intro v os r h
    unfold D_spec_Join at h
    split at h <;> first | (cases h; rfl) | cases h
  · refine all_cons ?_ (all_cons ?_ (all_nil))
    · refine ⟨fun vs os => ?_, by kernel_rfl, fun k vs os r h => ?_⟩
      · show C_spec_Join_6.fn 0 vs os = none
        unfold C_spec_Join_6; dsimp only; split <;> rfl
      · change C_spec_Join_6.fn (k + 1) vs os = some r at h
        unfold C_spec_Join_6 at h; dsimp only at h
        split at h
        · exact ⟨4000, (c_spec_Join_6 k _ _ _ _).trans h⟩
        · cases h
    · refine ⟨fun vs os => ?_, by kernel_rfl, fun k vs os r h => ?_⟩
      · show C_spec_Join_7.fn 0 vs os = none
        unfold C_spec_Join_7; dsimp only; split <;> rfl
      · change C_spec_Join_7.fn (k + 1) vs os = some r at h
        unfold C_spec_Join_7 at h; dsimp only at h
        split at h
        · exact ⟨4000, (c_spec_Join_7 k _ _ _ _).trans h⟩
        · cases h
  · intro args os r h
    change (S_spec_Join k).run args os = some r at h
    unfold S_spec_Join at h; dsimp only at h
    split at h
    · exact ⟨Nat.le_of_ble_eq_true (by kernel_rfl), rfl, rfl, k, 4000, (e_spec_Join k _).trans h⟩
    · cases h
noncomputable def S_impl_Join (k : Nat) : Summ K TyK where
  R := List ByteArray × ByteArray × Bool
  modes := [.bo]
  run := fun args objs => match args, objs with
    | [.inl true .part v1], [] => impl_Join k v1
    | _, _ => none
  ret := fun r => (.tup [.own 0, .lit (.string r.2.1), .lit (.bool r.2.2)], [.sl .str r.1])
  quiet := false
noncomputable def D_impl_Join (v : V) (os : Objs K TyK) : Option (List ByteArray × ByteArray × Bool) :=
  match v, os with
  | .tup [.own 0, .lit (.string v1), .lit (.bool v2)], [.sl .str v3] => some (v3, v1, v2)
  | _, _ => none
noncomputable def C_impl_Join_6 : Cut K TyK (List ByteArray × ByteArray × Bool) where
  slots := [5, 6, 12, 13, 14]
  fn := fun k vs os => match vs, os with
    | [.own 0, .lit (.string x0), .inl true .part x1, .lit (.int .i64 x2), .lit (.int .i64 x3)], [.sl .str x4] => impl_Join_l6 k x0 x1 x2 x3 x4
    | _, _ => none
noncomputable def C_impl_Join_14 : Cut K TyK (List ByteArray × ByteArray × Bool) where
  slots := [5, 6, 12, 13, 14]
  fn := fun k vs os => match vs, os with
    | [.own 0, .lit (.string x0), .inl true .part x1, .lit (.int .i64 x2), .lit (.int .i64 x3)], [.sl .str x4] => impl_Join_l14 k x0 x1 x2 x3 x4
    | _, _ => none
noncomputable abbrev G_impl_Join (k : Nat) : FuncId → Option (Summ K TyK) := lookT []
noncomputable abbrev L_impl_Join : List (Nat × Cut K TyK (List ByteArray × ByteArray × Bool)) := [(6, C_impl_Join_6), (14, C_impl_Join_14)]
theorem c_impl_Join_6 (k : Nat) (x0 : ByteArray) (x1 : List DPart) (x2 : Int) (x3 : Int) (x4 : List ByteArray) : run cod T (G_impl_Join k) (lam L_impl_Join k) (cutsOf L_impl_Join) 0 (finish cod T false 0 [.tmp 2, .tmp 3, .tmp 4] D_impl_Join) 4000 true (todoAt 6 (bodyOf Try.f18)) (envOf [5, 6, 12, 13, 14] [.own 0, .lit (.string x0), .inl true .part x1, .lit (.int .i64 x2), .lit (.int .i64 x3)]) [.sl .str x4] = impl_Join_l6 (k + 1) x0 x1 x2 x3 x4 := by kernel_rfl
theorem c_impl_Join_14 (k : Nat) (x0 : ByteArray) (x1 : List DPart) (x2 : Int) (x3 : Int) (x4 : List ByteArray) : run cod T (G_impl_Join k) (lam L_impl_Join k) (cutsOf L_impl_Join) 0 (finish cod T false 0 [.tmp 2, .tmp 3, .tmp 4] D_impl_Join) 4000 true (todoAt 14 (bodyOf Try.f18)) (envOf [5, 6, 12, 13, 14] [.own 0, .lit (.string x0), .inl true .part x1, .lit (.int .i64 x2), .lit (.int .i64 x3)]) [.sl .str x4] = impl_Join_l14 (k + 1) x0 x1 x2 x3 x4 := by kernel_rfl
theorem e_impl_Join (k : Nat) (a0 : List DPart) : run cod T (G_impl_Join k) (lam L_impl_Join k) (cutsOf L_impl_Join) 0 (finish cod T false 0 [.tmp 2, .tmp 3, .tmp 4] D_impl_Join) 4000 false [.code (bodyOf Try.f18)] (envOf [0] [.inl true .part a0]) [] = impl_Join k a0 := by kernel_rfl
theorem ok_impl_Join (k : Nat) : SummOk Try.prog cod 18 (S_impl_Join k) := by
  refine summ_of (T := T) Try.f18 (G_impl_Join) L_impl_Join false [.tmp 2, .tmp 3, .tmp 4] 0 D_impl_Join mixed (fun k => Known.of tok eok codOk ?_) (fun k => QuietOk.of ?_) Try.func18 (by kernel_rfl) (by kernel_rfl) (by kernel_rfl) (by kernel_rfl) (by kernel_rfl) ?_ ?_ [] ?_
  · exact all_nil
  · exact all_nil
  · intro v os r h
    unfold D_impl_Join at h
    split at h <;> first | (cases h; rfl) | cases h
  · refine all_cons ?_ (all_cons ?_ (all_nil))
    · refine ⟨fun vs os => ?_, by kernel_rfl, fun k vs os r h => ?_⟩
      · show C_impl_Join_6.fn 0 vs os = none
        unfold C_impl_Join_6; dsimp only; split <;> rfl
      · change C_impl_Join_6.fn (k + 1) vs os = some r at h
        unfold C_impl_Join_6 at h; dsimp only at h
        split at h
        · exact ⟨4000, (c_impl_Join_6 k _ _ _ _ _).trans h⟩
        · cases h
    · refine ⟨fun vs os => ?_, by kernel_rfl, fun k vs os r h => ?_⟩
      · show C_impl_Join_14.fn 0 vs os = none
        unfold C_impl_Join_14; dsimp only; split <;> rfl
      · change C_impl_Join_14.fn (k + 1) vs os = some r at h
        unfold C_impl_Join_14 at h; dsimp only at h
        split at h
        · exact ⟨4000, (c_impl_Join_14 k _ _ _ _ _).trans h⟩
        · cases h
  · intro args os r h
    change (S_impl_Join k).run args os = some r at h
    unfold S_impl_Join at h; dsimp only at h
    split at h
    · exact ⟨Nat.le_of_ble_eq_true (by kernel_rfl), rfl, rfl, k, 4000, (e_impl_Join k _).trans h⟩
    · cases h
noncomputable def S_spec_l1Open (k : Nat) : Summ K TyK where
  R := DL1Rd
  modes := [.pe]
  run := fun args objs => match args, objs with
    | [.inl false .byte v1], [] => spec_l1Open k v1
    | _, _ => none
  ret := fun r => (.ref 0 0, [.box [.inl false .byte r.b, .lit (.int .i64 r.p)]])
  quiet := false
noncomputable def D_spec_l1Open (v : V) (os : Objs K TyK) : Option (DL1Rd) :=
  match v, os with
  | .ref 0 0, [.box [.inl false .byte v1, .lit (.int .i64 v2)]] => some (⟨v1, v2⟩ : DL1Rd)
  | _, _ => none
noncomputable def C_spec_l1Open_3 : Cut K TyK (DL1Rd) where
  slots := [0]
  fn := fun k vs os => match vs, os with
    | [.inl false .byte x0], [] => spec_l1Open_l3 k x0
    | _, _ => none
noncomputable abbrev G_spec_l1Open (k : Nat) : FuncId → Option (Summ K TyK) := lookT []
noncomputable abbrev L_spec_l1Open : List (Nat × Cut K TyK (DL1Rd)) := [(3, C_spec_l1Open_3)]
theorem c_spec_l1Open_3 (k : Nat) (x0 : List Int) : run cod T (G_spec_l1Open k) (lam L_spec_l1Open k) (cutsOf L_spec_l1Open) 0 (finish cod T false 0 [.tmp 2] D_spec_l1Open) 4000 true (todoAt 3 (bodyOf Try.f75)) (envOf [0] [.inl false .byte x0]) [] = spec_l1Open_l3 (k + 1) x0 := by kernel_rfl
theorem e_spec_l1Open (k : Nat) (a0 : List Int) : run cod T (G_spec_l1Open k) (lam L_spec_l1Open k) (cutsOf L_spec_l1Open) 0 (finish cod T false 0 [.tmp 2] D_spec_l1Open) 4000 false [.code (bodyOf Try.f75)] (envOf [0] [.inl false .byte a0]) [] = spec_l1Open k a0 := by kernel_rfl
theorem ok_spec_l1Open (k : Nat) : SummOk Try.prog cod 75 (S_spec_l1Open k) := by
  refine summ_of (T := T) Try.f75 (G_spec_l1Open) L_spec_l1Open false [.tmp 2] 0 D_spec_l1Open mixed (fun k => Known.of tok eok codOk ?_) (fun k => QuietOk.of ?_) Try.func75 (by kernel_rfl) (by kernel_rfl) (by kernel_rfl) (by kernel_rfl) (by kernel_rfl) ?_ ?_ [] ?_
  · exact all_nil
  · exact all_nil
  · intro v os r h
    unfold D_spec_l1Open at h
    split at h <;> first | (cases h; rfl) | cases h
  · refine all_cons ?_ (all_nil)
    · refine ⟨fun vs os => ?_, by kernel_rfl, fun k vs os r h => ?_⟩
      · show C_spec_l1Open_3.fn 0 vs os = none
        unfold C_spec_l1Open_3; dsimp only; split <;> rfl
      · change C_spec_l1Open_3.fn (k + 1) vs os = some r at h
        unfold C_spec_l1Open_3 at h; dsimp only at h
        split at h
        · exact ⟨4000, (c_spec_l1Open_3 k _).trans h⟩
        · cases h
  · intro args os r h
    change (S_spec_l1Open k).run args os = some r at h
    unfold S_spec_l1Open at h; dsimp only at h
    split at h
    · exact ⟨Nat.le_of_ble_eq_true (by kernel_rfl), rfl, rfl, k, 4000, (e_spec_l1Open k _).trans h⟩
    · cases h
noncomputable def S_spec_l1Rd_pick (k : Nat) : Summ K TyK where
  R := Int × DL1Rd
  modes := [.mv, .bo]
  run := fun args objs => match args, objs with
    | [.ref 0 0, .lit (.int .i64 v1)], [.box [.inl false .byte v2, .lit (.int .i64 v3)]] => spec_l1Rd_pick k (⟨v2, v3⟩ : DL1Rd) v1
    | _, _ => none
  ret := fun r => (.lit (.int .i64 r.1), [.box [.inl false .byte r.2.b, .lit (.int .i64 r.2.p)]])
  quiet := false
noncomputable def D_spec_l1Rd_pick (v : V) (os : Objs K TyK) : Option (Int × DL1Rd) :=
  match v, os with
  | .lit (.int .i64 v1), [.box [.inl false .byte v2, .lit (.int .i64 v3)]] => some (v1, (⟨v2, v3⟩ : DL1Rd))
  | _, _ => none
noncomputable abbrev G_spec_l1Rd_pick (k : Nat) : FuncId → Option (Summ K TyK) := lookT []
noncomputable abbrev L_spec_l1Rd_pick : List (Nat × Cut K TyK (Int × DL1Rd)) := []
theorem e_spec_l1Rd_pick (k : Nat) (a0 : DL1Rd) (a1 : Int) : run cod T (G_spec_l1Rd_pick k) (lam L_spec_l1Rd_pick k) (cutsOf L_spec_l1Rd_pick) 1 (finish cod T false 1 [.tmp 4] D_spec_l1Rd_pick) 4000 false [.code (bodyOf Try.f76)] (envOf [0, 1] [.ref 0 0, .lit (.int .i64 a1)]) [.box [.inl false .byte a0.b, .lit (.int .i64 a0.p)]] = spec_l1Rd_pick k a0 a1 := by kernel_rfl
theorem ok_spec_l1Rd_pick (k : Nat) : SummOk Try.prog cod 76 (S_spec_l1Rd_pick k) := by
  refine summ_of (T := T) Try.f76 (G_spec_l1Rd_pick) L_spec_l1Rd_pick false [.tmp 4] 1 D_spec_l1Rd_pick mixed (fun k => Known.of tok eok codOk ?_) (fun k => QuietOk.of ?_) Try.func76 (by kernel_rfl) (by kernel_rfl) (by kernel_rfl) (by kernel_rfl) (by kernel_rfl) ?_ ?_ [false] ?_
  · exact all_nil
  · exact all_nil
  · intro v os r h
    unfold D_spec_l1Rd_pick at h
    split at h <;> first | (cases h; rfl) | cases h
  · refine all_nil
  · intro args os r h
    change (S_spec_l1Rd_pick k).run args os = some r at h
    unfold S_spec_l1Rd_pick at h; dsimp only at h
    split at h
    · exact ⟨Nat.le_of_ble_eq_true (by kernel_rfl), rfl, rfl, k, 4000, (e_spec_l1Rd_pick k ⟨_, _⟩ _).trans h⟩
    · cases h
noncomputable def S_spec_l1Many (k : Nat) : Summ K TyK where
  R := ByteArray
  modes := [.bo, .bo]
  run := fun args objs => match args, objs with
    | [.lit (.string v1), .lit (.int .i64 v2)], [] => spec_l1Many k v1 v2
    | _, _ => none
  ret := fun r => (.lit (.string r), [])
  quiet := true
noncomputable def D_spec_l1Many (v : V) (os : Objs K TyK) : Option (ByteArray) :=
  match v, os with
  | .lit (.string v1), [] => some v1
  | _, _ => none
noncomputable def C_spec_l1Many_2 : Cut K TyK (ByteArray) where
  slots := [0, 1, 5]
  fn := fun k vs os => match vs, os with
    | [.lit (.string x0), .lit (.int .i64 x1), .lit (.string x2)], [] => spec_l1Many_l2 k x0 x1 x2
    | _, _ => none
noncomputable def C_spec_l1Many_5 : Cut K TyK (ByteArray) where
  slots := [0, 1, 5]
  fn := fun k vs os => match vs, os with
    | [.lit (.string x0), .lit (.int .i64 x1), .lit (.string x2)], [] => spec_l1Many_l5 k x0 x1 x2
    | _, _ => none
noncomputable abbrev G_spec_l1Many (k : Nat) : FuncId → Option (Summ K TyK) := lookT []
noncomputable abbrev L_spec_l1Many : List (Nat × Cut K TyK (ByteArray)) := [(2, C_spec_l1Many_2), (5, C_spec_l1Many_5)]
theorem c_spec_l1Many_2 (k : Nat) (x0 : ByteArray) (x1 : Int) (x2 : ByteArray) : run cod T (G_spec_l1Many k) (lam L_spec_l1Many k) (cutsOf L_spec_l1Many) 0 (finish cod T false 0 [.tmp 4] D_spec_l1Many) 4000 true (todoAt 2 (bodyOf Try.f77)) (envOf [0, 1, 5] [.lit (.string x0), .lit (.int .i64 x1), .lit (.string x2)]) [] = spec_l1Many_l2 (k + 1) x0 x1 x2 := by kernel_rfl
theorem c_spec_l1Many_5 (k : Nat) (x0 : ByteArray) (x1 : Int) (x2 : ByteArray) : run cod T (G_spec_l1Many k) (lam L_spec_l1Many k) (cutsOf L_spec_l1Many) 0 (finish cod T false 0 [.tmp 4] D_spec_l1Many) 4000 true (todoAt 5 (bodyOf Try.f77)) (envOf [0, 1, 5] [.lit (.string x0), .lit (.int .i64 x1), .lit (.string x2)]) [] = spec_l1Many_l5 (k + 1) x0 x1 x2 := by kernel_rfl
theorem e_spec_l1Many (k : Nat) (a0 : ByteArray) (a1 : Int) : run cod T (G_spec_l1Many k) (lam L_spec_l1Many k) (cutsOf L_spec_l1Many) 0 (finish cod T false 0 [.tmp 4] D_spec_l1Many) 4000 false [.code (bodyOf Try.f77)] (envOf [0, 1] [.lit (.string a0), .lit (.int .i64 a1)]) [] = spec_l1Many k a0 a1 := by kernel_rfl
theorem ok_spec_l1Many (k : Nat) : SummOk Try.prog cod 77 (S_spec_l1Many k) := by
  refine summ_of (T := T) Try.f77 (G_spec_l1Many) L_spec_l1Many false [.tmp 4] 0 D_spec_l1Many mixed (fun k => Known.of tok eok codOk ?_) (fun k => QuietOk.of ?_) Try.func77 (by kernel_rfl) (by kernel_rfl) (by kernel_rfl) (by kernel_rfl) (by kernel_rfl) ?_ ?_ [] ?_
  · exact all_nil
  · exact all_nil
  · intro v os r h
    unfold D_spec_l1Many at h
    split at h <;> first | (cases h; rfl) | cases h
  · refine all_cons ?_ (all_cons ?_ (all_nil))
    · refine ⟨fun vs os => ?_, by kernel_rfl, fun k vs os r h => ?_⟩
      · show C_spec_l1Many_2.fn 0 vs os = none
        unfold C_spec_l1Many_2; dsimp only; split <;> rfl
      · change C_spec_l1Many_2.fn (k + 1) vs os = some r at h
        unfold C_spec_l1Many_2 at h; dsimp only at h
        split at h
        · exact ⟨4000, (c_spec_l1Many_2 k _ _ _).trans h⟩
        · cases h
    · refine ⟨fun vs os => ?_, by kernel_rfl, fun k vs os r h => ?_⟩
      · show C_spec_l1Many_5.fn 0 vs os = none
        unfold C_spec_l1Many_5; dsimp only; split <;> rfl
      · change C_spec_l1Many_5.fn (k + 1) vs os = some r at h
        unfold C_spec_l1Many_5 at h; dsimp only at h
        split at h
        · exact ⟨4000, (c_spec_l1Many_5 k _ _ _).trans h⟩
        · cases h
  · intro args os r h
    change (S_spec_l1Many k).run args os = some r at h
    unfold S_spec_l1Many at h; dsimp only at h
    split at h
    · exact ⟨Nat.le_of_ble_eq_true (by kernel_rfl), rfl, rfl, k, 4000, (e_spec_l1Many k _ _).trans h⟩
    · cases h
noncomputable def S_spec_l1Message (k : Nat) : Summ K TyK where
  R := ByteArray × DL1Rd
  modes := [.bo]
  run := fun args objs => match args, objs with
    | [.ref 0 0], [.box [.inl false .byte v1, .lit (.int .i64 v2)]] => spec_l1Message k (⟨v1, v2⟩ : DL1Rd)
    | _, _ => none
  ret := fun r => (.lit (.string r.1), [.box [.inl false .byte r.2.b, .lit (.int .i64 r.2.p)]])
  quiet := false
noncomputable def D_spec_l1Message (v : V) (os : Objs K TyK) : Option (ByteArray × DL1Rd) :=
  match v, os with
  | .lit (.string v1), [.box [.inl false .byte v2, .lit (.int .i64 v3)]] => some (v1, (⟨v2, v3⟩ : DL1Rd))
  | _, _ => none
noncomputable def C_spec_l1Message_12 : Cut K TyK (ByteArray × DL1Rd) where
  slots := [0, 3, 4]
  fn := fun k vs os => match vs, os with
    | [.ref 0 0, .lit (.string x0), .lit (.int .i64 x1)], [.box [.inl false .byte x2, .lit (.int .i64 x3)]] => spec_l1Message_l12 k x0 x1 x2 x3
    | _, _ => none
noncomputable abbrev G_spec_l1Message (k : Nat) : FuncId → Option (Summ K TyK) := lookT [(76, S_spec_l1Rd_pick k), (77, S_spec_l1Many k)]
noncomputable abbrev L_spec_l1Message : List (Nat × Cut K TyK (ByteArray × DL1Rd)) := [(12, C_spec_l1Message_12)]
theorem c_spec_l1Message_12 (k : Nat) (x0 : ByteArray) (x1 : Int) (x2 : List Int) (x3 : Int) : run cod T (G_spec_l1Message k) (lam L_spec_l1Message k) (cutsOf L_spec_l1Message) 1 (finish cod T false 1 [.tmp 2] D_spec_l1Message) 4000 true (todoAt 12 (bodyOf Try.f78)) (envOf [0, 3, 4] [.ref 0 0, .lit (.string x0), .lit (.int .i64 x1)]) [.box [.inl false .byte x2, .lit (.int .i64 x3)]] = spec_l1Message_l12 (k + 1) x0 x1 x2 x3 := by kernel_rfl
theorem e_spec_l1Message (k : Nat) (a0 : DL1Rd) : run cod T (G_spec_l1Message k) (lam L_spec_l1Message k) (cutsOf L_spec_l1Message) 1 (finish cod T false 1 [.tmp 2] D_spec_l1Message) 4000 false [.code (bodyOf Try.f78)] (envOf [0] [.ref 0 0]) [.box [.inl false .byte a0.b, .lit (.int .i64 a0.p)]] = spec_l1Message k a0 := by kernel_rfl
theorem ok_spec_l1Message (k : Nat) : SummOk Try.prog cod 78 (S_spec_l1Message k) := by
  refine summ_of (T := T) Try.f78 (G_spec_l1Message) L_spec_l1Message false [.tmp 2] 1 D_spec_l1Message mixed (fun k => Known.of tok eok codOk ?_) (fun k => QuietOk.of ?_) Try.func78 (by kernel_rfl) (by kernel_rfl) (by kernel_rfl) (by kernel_rfl) (by kernel_rfl) ?_ ?_ [false] ?_
  · exact all_cons (ok_spec_l1Rd_pick k) (all_cons (ok_spec_l1Many k) (all_nil))
  · exact all_cons (fun h r => by cases h) (all_cons (fun h r => ⟨rfl, rfl⟩) (all_nil))
  · intro v os r h
    unfold D_spec_l1Message at h
    split at h <;> first | (cases h; rfl) | cases h
  · refine all_cons ?_ (all_nil)
    · refine ⟨fun vs os => ?_, by kernel_rfl, fun k vs os r h => ?_⟩
      · show C_spec_l1Message_12.fn 0 vs os = none
        unfold C_spec_l1Message_12; dsimp only; split <;> rfl
      · change C_spec_l1Message_12.fn (k + 1) vs os = some r at h
        unfold C_spec_l1Message_12 at h; dsimp only at h
        split at h
        · exact ⟨4000, (c_spec_l1Message_12 k _ _ _ _).trans h⟩
        · cases h
  · intro args os r h
    change (S_spec_l1Message k).run args os = some r at h
    unfold S_spec_l1Message at h; dsimp only at h
    split at h
    · exact ⟨Nat.le_of_ble_eq_true (by kernel_rfl), rfl, rfl, k, 4000, (e_spec_l1Message k ⟨_, _⟩).trans h⟩
    · cases h
noncomputable def S_spec_Cut (k : Nat) : Summ K TyK where
  R := List DPart
  modes := [.bo]
  run := fun args objs => match args, objs with
    | [.lit (.string v1)], [] => spec_Cut k v1
    | _, _ => none
  ret := fun r => (.own 0, [.sl .part r])
  quiet := false
noncomputable def D_spec_Cut (v : V) (os : Objs K TyK) : Option (List DPart) :=
  match v, os with
  | .own 0, [.sl .part v1] => some v1
  | _, _ => none
noncomputable def C_spec_Cut_4 : Cut K TyK (List DPart) where
  slots := [0, 3]
  fn := fun k vs os => match vs, os with
    | [.lit (.string x0), .own 0], [.sl .part x1] => spec_Cut_l4 k x0 x1
    | _, _ => none
noncomputable abbrev G_spec_Cut (k : Nat) : FuncId → Option (Summ K TyK) := lookT []
noncomputable abbrev L_spec_Cut : List (Nat × Cut K TyK (List DPart)) := [(4, C_spec_Cut_4)]
theorem c_spec_Cut_4 (k : Nat) (x0 : ByteArray) (x1 : List DPart) : run cod T (G_spec_Cut k) (lam L_spec_Cut k) (cutsOf L_spec_Cut) 0 (finish cod T false 0 [.tmp 2] D_spec_Cut) 4000 true (todoAt 4 (bodyOf Try.f26)) (envOf [0, 3] [.lit (.string x0), .own 0]) [.sl .part x1] = spec_Cut_l4 (k + 1) x0 x1 := by kernel_rfl
theorem e_spec_Cut (k : Nat) (a0 : ByteArray) : run cod T (G_spec_Cut k) (lam L_spec_Cut k) (cutsOf L_spec_Cut) 0 (finish cod T false 0 [.tmp 2] D_spec_Cut) 4000 false [.code (bodyOf Try.f26)] (envOf [0] [.lit (.string a0)]) [] = spec_Cut k a0 := by kernel_rfl
theorem ok_spec_Cut (k : Nat) : SummOk Try.prog cod 26 (S_spec_Cut k) := by
  refine summ_of (T := T) Try.f26 (G_spec_Cut) L_spec_Cut false [.tmp 2] 0 D_spec_Cut mixed (fun k => Known.of tok eok codOk ?_) (fun k => QuietOk.of ?_) Try.func26 (by kernel_rfl) (by kernel_rfl) (by kernel_rfl) (by kernel_rfl) (by kernel_rfl) ?_ ?_ [] ?_
  · exact all_nil
  · exact all_nil
  · intro v os r h
    unfold D_spec_Cut at h
    split at h <;> first | (cases h; rfl) | cases h
  · refine all_cons ?_ (all_nil)
    · refine ⟨fun vs os => ?_, by kernel_rfl, fun k vs os r h => ?_⟩
      · show C_spec_Cut_4.fn 0 vs os = none
        unfold C_spec_Cut_4; dsimp only; split <;> rfl
      · change C_spec_Cut_4.fn (k + 1) vs os = some r at h
        unfold C_spec_Cut_4 at h; dsimp only at h
        split at h
        · exact ⟨4000, (c_spec_Cut_4 k _ _).trans h⟩
        · cases h
  · intro args os r h
    change (S_spec_Cut k).run args os = some r at h
    unfold S_spec_Cut at h; dsimp only at h
    split at h
    · exact ⟨Nat.le_of_ble_eq_true (by kernel_rfl), rfl, rfl, k, 4000, (e_spec_Cut k _).trans h⟩
    · cases h
noncomputable def S_laws_wTexts (k : Nat) : Summ K TyK where
  R := Bool
  modes := [.bo, .bo]
  run := fun args objs => match args, objs with
    | [.inl true .str v1, .inl true .str v2], [] => laws_wTexts k v1 v2
    | _, _ => none
  ret := fun r => (.lit (.bool r), [])
  quiet := true
noncomputable def D_laws_wTexts (v : V) (os : Objs K TyK) : Option (Bool) :=
  match v, os with
  | .lit (.bool v1), [] => some v1
  | _, _ => none
noncomputable def C_laws_wTexts_4 : Cut K TyK (Bool) where
  slots := [0, 1, 5]
  fn := fun k vs os => match vs, os with
    | [.inl true .str x0, .inl true .str x1, .lit (.int .i64 x2)], [] => laws_wTexts_l4 k x0 x1 x2
    | _, _ => none
noncomputable abbrev G_laws_wTexts (k : Nat) : FuncId → Option (Summ K TyK) := lookT []
noncomputable abbrev L_laws_wTexts : List (Nat × Cut K TyK (Bool)) := [(4, C_laws_wTexts_4)]
theorem c_laws_wTexts_4 (k : Nat) (x0 : List ByteArray) (x1 : List ByteArray) (x2 : Int) : run cod T (G_laws_wTexts k) (lam L_laws_wTexts k) (cutsOf L_laws_wTexts) 0 (finish cod T false 0 [.tmp 4] D_laws_wTexts) 4000 true (todoAt 4 (bodyOf Try.f27)) (envOf [0, 1, 5] [.inl true .str x0, .inl true .str x1, .lit (.int .i64 x2)]) [] = laws_wTexts_l4 (k + 1) x0 x1 x2 := by kernel_rfl
theorem e_laws_wTexts (k : Nat) (a0 : List ByteArray) (a1 : List ByteArray) : run cod T (G_laws_wTexts k) (lam L_laws_wTexts k) (cutsOf L_laws_wTexts) 0 (finish cod T false 0 [.tmp 4] D_laws_wTexts) 4000 false [.code (bodyOf Try.f27)] (envOf [0, 1] [.inl true .str a0, .inl true .str a1]) [] = laws_wTexts k a0 a1 := by kernel_rfl
theorem ok_laws_wTexts (k : Nat) : SummOk Try.prog cod 27 (S_laws_wTexts k) := by
  refine summ_of (T := T) Try.f27 (G_laws_wTexts) L_laws_wTexts false [.tmp 4] 0 D_laws_wTexts mixed (fun k => Known.of tok eok codOk ?_) (fun k => QuietOk.of ?_) Try.func27 (by kernel_rfl) (by kernel_rfl) (by kernel_rfl) (by kernel_rfl) (by kernel_rfl) ?_ ?_ [] ?_
  · exact all_nil
  · exact all_nil
  · intro v os r h
    unfold D_laws_wTexts at h
    split at h <;> first | (cases h; rfl) | cases h
  · refine all_cons ?_ (all_nil)
    · refine ⟨fun vs os => ?_, by kernel_rfl, fun k vs os r h => ?_⟩
      · show C_laws_wTexts_4.fn 0 vs os = none
        unfold C_laws_wTexts_4; dsimp only; split <;> rfl
      · change C_laws_wTexts_4.fn (k + 1) vs os = some r at h
        unfold C_laws_wTexts_4 at h; dsimp only at h
        split at h
        · exact ⟨4000, (c_laws_wTexts_4 k _ _ _).trans h⟩
        · cases h
  · intro args os r h
    change (S_laws_wTexts k).run args os = some r at h
    unfold S_laws_wTexts at h; dsimp only at h
    split at h
    · exact ⟨Nat.le_of_ble_eq_true (by kernel_rfl), rfl, rfl, k, 4000, (e_laws_wTexts k _ _).trans h⟩
    · cases h
noncomputable def S_spec_DrawJoin (k : Nat) : Summ K TyK where
  R := List DPart
  modes := [.pe]
  run := fun args objs => match args, objs with
    | [.inl false .byte v1], [] => spec_DrawJoin k v1
    | _, _ => none
  ret := fun r => (.own 0, [.sl .part r])
  quiet := false
noncomputable def D_spec_DrawJoin (v : V) (os : Objs K TyK) : Option (List DPart) :=
  match v, os with
  | .own 0, [.sl .part v1] => some v1
  | _, _ => none
noncomputable def C_spec_DrawJoin_4 : Cut K TyK (List DPart) where
  slots := [3, 4, 5]
  fn := fun k vs os => match vs, os with
    | [.ref 0 0, .own 1, .lit (.int .i64 x0)], [.box [.inl false .byte x1, .lit (.int .i64 x2)], .sl .part x3] => spec_DrawJoin_l4 k x0 x1 x2 x3
    | _, _ => none
noncomputable def C_spec_DrawJoin_20 : Cut K TyK (List DPart) where
  slots := [4]
  fn := fun k vs os => match vs, os with
    | [.own 0], [.sl .part x0] => spec_DrawJoin_l20 k x0
    | _, _ => none
noncomputable def C_spec_DrawJoin_11 : Cut K TyK (List DPart) where
  slots := [3, 4, 7]
  fn := fun k vs os => match vs, os with
    | [.ref 0 0, .own 1, .lit (.int .i64 x0)], [.box [.inl false .byte x1, .lit (.int .i64 x2)], .sl .part x3] => spec_DrawJoin_l11 k x0 x1 x2 x3
    | _, _ => none
noncomputable abbrev G_spec_DrawJoin (k : Nat) : FuncId → Option (Summ K TyK) := lookT [(75, S_spec_l1Open k), (76, S_spec_l1Rd_pick k), (78, S_spec_l1Message k), (26, S_spec_Cut k), (77, S_spec_l1Many k)]
noncomputable abbrev L_spec_DrawJoin : List (Nat × Cut K TyK (List DPart)) := [(4, C_spec_DrawJoin_4), (20, C_spec_DrawJoin_20), (11, C_spec_DrawJoin_11)]
theorem c_spec_DrawJoin_4 (k : Nat) (x0 : Int) (x1 : List Int) (x2 : Int) (x3 : List DPart) : run cod T (G_spec_DrawJoin k) (lam L_spec_DrawJoin k) (cutsOf L_spec_DrawJoin) 0 (finish cod T false 0 [.tmp 2] D_spec_DrawJoin) 4000 true (todoAt 4 (bodyOf Try.f28)) (envOf [3, 4, 5] [.ref 0 0, .own 1, .lit (.int .i64 x0)]) [.box [.inl false .byte x1, .lit (.int .i64 x2)], .sl .part x3] = spec_DrawJoin_l4 (k + 1) x0 x1 x2 x3 := by kernel_rfl
theorem c_spec_DrawJoin_20 (k : Nat) (x0 : List DPart) : run cod T (G_spec_DrawJoin k) (lam L_spec_DrawJoin k) (cutsOf L_spec_DrawJoin) 0 (finish cod T false 0 [.tmp 2] D_spec_DrawJoin) 4000 true (todoAt 20 (bodyOf Try.f28)) (envOf [4] [.own 0]) [.sl .part x0] = spec_DrawJoin_l20 (k + 1) x0 := by kernel_rfl
theorem c_spec_DrawJoin_11 (k : Nat) (x0 : Int) (x1 : List Int) (x2 : Int) (x3 : List DPart) : run cod T (G_spec_DrawJoin k) (lam L_spec_DrawJoin k) (cutsOf L_spec_DrawJoin) 0 (finish cod T false 0 [.tmp 2] D_spec_DrawJoin) 4000 true (todoAt 11 (bodyOf Try.f28)) (envOf [3, 4, 7] [.ref 0 0, .own 1, .lit (.int .i64 x0)]) [.box [.inl false .byte x1, .lit (.int .i64 x2)], .sl .part x3] = spec_DrawJoin_l11 (k + 1) x0 x1 x2 x3 := by kernel_rfl
theorem e_spec_DrawJoin (k : Nat) (a0 : List Int) : run cod T (G_spec_DrawJoin k) (lam L_spec_DrawJoin k) (cutsOf L_spec_DrawJoin) 0 (finish cod T false 0 [.tmp 2] D_spec_DrawJoin) 4000 false [.code (bodyOf Try.f28)] (envOf [0] [.inl false .byte a0]) [] = spec_DrawJoin k a0 := by kernel_rfl
theorem ok_spec_DrawJoin (k : Nat) : SummOk Try.prog cod 28 (S_spec_DrawJoin k) := by
  refine summ_of (T := T) Try.f28 (G_spec_DrawJoin) L_spec_DrawJoin false [.tmp 2] 0 D_spec_DrawJoin mixed (fun k => Known.of tok eok codOk ?_) (fun k => QuietOk.of ?_) Try.func28 (by kernel_rfl) (by kernel_rfl) (by kernel_rfl) (by kernel_rfl) (by kernel_rfl) ?_ ?_ [] ?_
  · exact all_cons (ok_spec_l1Open k) (all_cons (ok_spec_l1Rd_pick k) (all_cons (ok_spec_l1Message k) (all_cons (ok_spec_Cut k) (all_cons (ok_spec_l1Many k) (all_nil)))))
  · exact all_cons (fun h r => by cases h) (all_cons (fun h r => by cases h) (all_cons (fun h r => by cases h) (all_cons (fun h r => by cases h) (all_cons (fun h r => ⟨rfl, rfl⟩) (all_nil)))))
  · intro v os r h
    unfold D_spec_DrawJoin at h
    split at h <;> first | (cases h; rfl) | cases h
  · refine all_cons ?_ (all_cons ?_ (all_cons ?_ (all_nil)))
    · refine ⟨fun vs os => ?_, by kernel_rfl, fun k vs os r h => ?_⟩
      · show C_spec_DrawJoin_4.fn 0 vs os = none
        unfold C_spec_DrawJoin_4; dsimp only; split <;> rfl
      · change C_spec_DrawJoin_4.fn (k + 1) vs os = some r at h
        unfold C_spec_DrawJoin_4 at h; dsimp only at h
        split at h
        · exact ⟨4000, (c_spec_DrawJoin_4 k _ _ _ _).trans h⟩
        · cases h
    · refine ⟨fun vs os => ?_, by kernel_rfl, fun k vs os r h => ?_⟩
      · show C_spec_DrawJoin_20.fn 0 vs os = none
        unfold C_spec_DrawJoin_20; dsimp only; split <;> rfl
      · change C_spec_DrawJoin_20.fn (k + 1) vs os = some r at h
        unfold C_spec_DrawJoin_20 at h; dsimp only at h
        split at h
        · exact ⟨4000, (c_spec_DrawJoin_20 k _).trans h⟩
        · cases h
    · refine ⟨fun vs os => ?_, by kernel_rfl, fun k vs os r h => ?_⟩
      · show C_spec_DrawJoin_11.fn 0 vs os = none
        unfold C_spec_DrawJoin_11; dsimp only; split <;> rfl
      · change C_spec_DrawJoin_11.fn (k + 1) vs os = some r at h
        unfold C_spec_DrawJoin_11 at h; dsimp only at h
        split at h
        · exact ⟨4000, (c_spec_DrawJoin_11 k _ _ _ _).trans h⟩
        · cases h
  · intro args os r h
    change (S_spec_DrawJoin k).run args os = some r at h
    unfold S_spec_DrawJoin at h; dsimp only at h
    split at h
    · exact ⟨Nat.le_of_ble_eq_true (by kernel_rfl), rfl, rfl, k, 4000, (e_spec_DrawJoin k _).trans h⟩
    · cases h
noncomputable def S_impl_in (k : Nat) : Summ K TyK where
  R := Bool
  modes := [.bo, .bo, .bo]
  run := fun args objs => match args, objs with
    | [.lit (.int .i64 v1), .lit (.int .i64 v2), .lit (.int .i64 v3)], [] => impl_in k v1 v2 v3
    | _, _ => none
  ret := fun r => (.lit (.bool r), [])
  quiet := true
noncomputable def D_impl_in (v : V) (os : Objs K TyK) : Option (Bool) :=
  match v, os with
  | .lit (.bool v1), [] => some v1
  | _, _ => none
noncomputable abbrev G_impl_in (k : Nat) : FuncId → Option (Summ K TyK) := lookT []
noncomputable abbrev L_impl_in : List (Nat × Cut K TyK (Bool)) := []
theorem e_impl_in (k : Nat) (a0 : Int) (a1 : Int) (a2 : Int) : run cod T (G_impl_in k) (lam L_impl_in k) (cutsOf L_impl_in) 0 (finish cod T false 0 [.tmp 6] D_impl_in) 4000 false [.code (bodyOf Try.f89)] (envOf [0, 1, 2] [.lit (.int .i64 a0), .lit (.int .i64 a1), .lit (.int .i64 a2)]) [] = impl_in k a0 a1 a2 := by kernel_rfl
theorem ok_impl_in (k : Nat) : SummOk Try.prog cod 89 (S_impl_in k) := by
  refine summ_of (T := T) Try.f89 (G_impl_in) L_impl_in false [.tmp 6] 0 D_impl_in mixed (fun k => Known.of tok eok codOk ?_) (fun k => QuietOk.of ?_) Try.func89 (by kernel_rfl) (by kernel_rfl) (by kernel_rfl) (by kernel_rfl) (by kernel_rfl) ?_ ?_ [] ?_
  · exact all_nil
  · exact all_nil
  · intro v os r h
    unfold D_impl_in at h
    split at h <;> first | (cases h; rfl) | cases h
  · refine all_nil
  · intro args os r h
    change (S_impl_in k).run args os = some r at h
    unfold S_impl_in at h; dsimp only at h
    split at h
    · exact ⟨Nat.le_of_ble_eq_true (by kernel_rfl), rfl, rfl, k, 4000, (e_impl_in k _ _ _).trans h⟩
    · cases h
noncomputable def S_impl_goes (k : Nat) : Summ K TyK where
  R := Bool
  modes := [.bo, .bo]
  run := fun args objs => match args, objs with
    | [.agg [.lit (.int .i64 v1), .inl true .held v2, .lit (.string v3), .inl true .str v4], .agg [.lit (.string v5), .lit (.bool v6)]], [] => impl_goes k (⟨v1, v2, v3, v4⟩ : DTake) (⟨v5, v6⟩ : DPart)
    | _, _ => none
  ret := fun r => (.lit (.bool r), [])
  quiet := true
noncomputable def D_impl_goes (v : V) (os : Objs K TyK) : Option (Bool) :=
  match v, os with
  | .lit (.bool v1), [] => some v1
  | _, _ => none
noncomputable abbrev G_impl_goes (k : Nat) : FuncId → Option (Summ K TyK) := lookT []
noncomputable abbrev L_impl_goes : List (Nat × Cut K TyK (Bool)) := []
theorem e_impl_goes (k : Nat) (a0 : DTake) (a1 : DPart) : run cod T (G_impl_goes k) (lam L_impl_goes k) (cutsOf L_impl_goes) 0 (finish cod T false 0 [.tmp 4] D_impl_goes) 4000 false [.code (bodyOf Try.f90)] (envOf [0, 1] [.agg [.lit (.int .i64 a0.Next), .inl true .held a0.Held, .lit (.string a0.Open), .inl true .str a0.Ready], .agg [.lit (.string a1.Text), .lit (.bool a1.Last)]]) [] = impl_goes k a0 a1 := by kernel_rfl
theorem ok_impl_goes (k : Nat) : SummOk Try.prog cod 90 (S_impl_goes k) := by
  refine summ_of (T := T) Try.f90 (G_impl_goes) L_impl_goes false [.tmp 4] 0 D_impl_goes mixed (fun k => Known.of tok eok codOk ?_) (fun k => QuietOk.of ?_) Try.func90 (by kernel_rfl) (by kernel_rfl) (by kernel_rfl) (by kernel_rfl) (by kernel_rfl) ?_ ?_ [] ?_
  · exact all_nil
  · exact all_nil
  · intro v os r h
    unfold D_impl_goes at h
    split at h <;> first | (cases h; rfl) | cases h
  · refine all_nil
  · intro args os r h
    change (S_impl_goes k).run args os = some r at h
    unfold S_impl_goes at h; dsimp only at h
    split at h
    · exact ⟨Nat.le_of_ble_eq_true (by kernel_rfl), rfl, rfl, k, 4000, (e_impl_goes k ⟨_, _, _, _⟩ ⟨_, _⟩).trans h⟩
    · cases h
noncomputable def S_impl_ValidTake (k : Nat) : Summ K TyK where
  R := Bool
  modes := [.bo]
  run := fun args objs => match args, objs with
    | [.agg [.lit (.int .i64 v1), .inl true .held v2, .lit (.string v3), .inl true .str v4]], [] => impl_ValidTake k (⟨v1, v2, v3, v4⟩ : DTake)
    | _, _ => none
  ret := fun r => (.lit (.bool r), [])
  quiet := true
noncomputable def D_impl_ValidTake (v : V) (os : Objs K TyK) : Option (Bool) :=
  match v, os with
  | .lit (.bool v1), [] => some v1
  | _, _ => none
noncomputable def C_impl_ValidTake_4 : Cut K TyK (Bool) where
  slots := [1, 30, 31, 32]
  fn := fun k vs os => match vs, os with
    | [.ref 0 0, .inl true .held x0, .lit (.int .i64 x1), .lit (.int .i64 x2)], [.box [.lit (.int .i64 x3), .inl true .held x4, .lit (.string x5), .inl true .str x6]] => impl_ValidTake_l4 k x0 x1 x2 x3 x4 x5 x6
    | _, _ => none
noncomputable def C_impl_ValidTake_12 : Cut K TyK (Bool) where
  slots := [88, 89, 90]
  fn := fun k vs os => match vs, os with
    | [.inl true .str x0, .lit (.int .i64 x1), .lit (.int .i64 x2)], [] => impl_ValidTake_l12 k x0 x1 x2
    | _, _ => none
noncomputable abbrev G_impl_ValidTake (k : Nat) : FuncId → Option (Summ K TyK) := lookT [(89, S_impl_in k), (90, S_impl_goes k)]
noncomputable abbrev L_impl_ValidTake : List (Nat × Cut K TyK (Bool)) := [(4, C_impl_ValidTake_4), (12, C_impl_ValidTake_12)]
theorem c_impl_ValidTake_4 (k : Nat) (x0 : List DHeld) (x1 : Int) (x2 : Int) (x3 : Int) (x4 : List DHeld) (x5 : ByteArray) (x6 : List ByteArray) : run cod T (G_impl_ValidTake k) (lam L_impl_ValidTake k) (cutsOf L_impl_ValidTake) 0 (finish cod T false 0 [.tmp 2] D_impl_ValidTake) 4000 true (todoAt 4 (bodyOf Try.f35)) (envOf [1, 30, 31, 32] [.ref 0 0, .inl true .held x0, .lit (.int .i64 x1), .lit (.int .i64 x2)]) [.box [.lit (.int .i64 x3), .inl true .held x4, .lit (.string x5), .inl true .str x6]] = impl_ValidTake_l4 (k + 1) x0 x1 x2 x3 x4 x5 x6 := by kernel_rfl
theorem c_impl_ValidTake_12 (k : Nat) (x0 : List ByteArray) (x1 : Int) (x2 : Int) : run cod T (G_impl_ValidTake k) (lam L_impl_ValidTake k) (cutsOf L_impl_ValidTake) 0 (finish cod T false 0 [.tmp 2] D_impl_ValidTake) 4000 true (todoAt 12 (bodyOf Try.f35)) (envOf [88, 89, 90] [.inl true .str x0, .lit (.int .i64 x1), .lit (.int .i64 x2)]) [] = impl_ValidTake_l12 (k + 1) x0 x1 x2 := by kernel_rfl
theorem e_impl_ValidTake (k : Nat) (a0 : DTake) : run cod T (G_impl_ValidTake k) (lam L_impl_ValidTake k) (cutsOf L_impl_ValidTake) 0 (finish cod T false 0 [.tmp 2] D_impl_ValidTake) 4000 false [.code (bodyOf Try.f35)] (envOf [0] [.agg [.lit (.int .i64 a0.Next), .inl true .held a0.Held, .lit (.string a0.Open), .inl true .str a0.Ready]]) [] = impl_ValidTake k a0 := by kernel_rfl
theorem ok_impl_ValidTake (k : Nat) : SummOk Try.prog cod 35 (S_impl_ValidTake k) := by
  refine summ_of (T := T) Try.f35 (G_impl_ValidTake) L_impl_ValidTake false [.tmp 2] 0 D_impl_ValidTake mixed (fun k => Known.of tok eok codOk ?_) (fun k => QuietOk.of ?_) Try.func35 (by kernel_rfl) (by kernel_rfl) (by kernel_rfl) (by kernel_rfl) (by kernel_rfl) ?_ ?_ [] ?_
  · exact all_cons (ok_impl_in k) (all_cons (ok_impl_goes k) (all_nil))
  · exact all_cons (fun h r => ⟨rfl, rfl⟩) (all_cons (fun h r => ⟨rfl, rfl⟩) (all_nil))
  · intro v os r h
    unfold D_impl_ValidTake at h
    split at h <;> first | (cases h; rfl) | cases h
  · refine all_cons ?_ (all_cons ?_ (all_nil))
    · refine ⟨fun vs os => ?_, by kernel_rfl, fun k vs os r h => ?_⟩
      · show C_impl_ValidTake_4.fn 0 vs os = none
        unfold C_impl_ValidTake_4; dsimp only; split <;> rfl
      · change C_impl_ValidTake_4.fn (k + 1) vs os = some r at h
        unfold C_impl_ValidTake_4 at h; dsimp only at h
        split at h
        · exact ⟨4000, (c_impl_ValidTake_4 k _ _ _ _ _ _ _).trans h⟩
        · cases h
    · refine ⟨fun vs os => ?_, by kernel_rfl, fun k vs os r h => ?_⟩
      · show C_impl_ValidTake_12.fn 0 vs os = none
        unfold C_impl_ValidTake_12; dsimp only; split <;> rfl
      · change C_impl_ValidTake_12.fn (k + 1) vs os = some r at h
        unfold C_impl_ValidTake_12 at h; dsimp only at h
        split at h
        · exact ⟨4000, (c_impl_ValidTake_12 k _ _ _).trans h⟩
        · cases h
  · intro args os r h
    change (S_impl_ValidTake k).run args os = some r at h
    unfold S_impl_ValidTake at h; dsimp only at h
    split at h
    · exact ⟨Nat.le_of_ble_eq_true (by kernel_rfl), rfl, rfl, k, 4000, (e_impl_ValidTake k ⟨_, _, _, _⟩).trans h⟩
    · cases h
noncomputable def S_impl_copyTake (k : Nat) : Summ K TyK where
  R := DTake
  modes := [.bo]
  run := fun args objs => match args, objs with
    | [.agg [.lit (.int .i64 v1), .inl true .held v2, .lit (.string v3), .inl true .str v4]], [] => impl_copyTake k (⟨v1, v2, v3, v4⟩ : DTake)
    | _, _ => none
  ret := fun r => (.agg [.lit (.int .i64 r.Next), .own 0, .lit (.string r.Open), .own 1], [.sl .held r.Held, .sl .str r.Ready])
  quiet := false
noncomputable def D_impl_copyTake (v : V) (os : Objs K TyK) : Option (DTake) :=
  match v, os with
  | .agg [.lit (.int .i64 v1), .own 0, .lit (.string v2), .own 1], [.sl .held v3, .sl .str v4] => some (⟨v1, v3, v2, v4⟩ : DTake)
  | _, _ => none
noncomputable abbrev G_impl_copyTake (k : Nat) : FuncId → Option (Summ K TyK) := lookT []
noncomputable abbrev L_impl_copyTake : List (Nat × Cut K TyK (DTake)) := []
theorem e_impl_copyTake (k : Nat) (a0 : DTake) : run cod T (G_impl_copyTake k) (lam L_impl_copyTake k) (cutsOf L_impl_copyTake) 0 (finish cod T false 0 [.cell 2 52] D_impl_copyTake) 4000 false [.code (bodyOf Try.f92)] (envOf [0] [.agg [.lit (.int .i64 a0.Next), .inl true .held a0.Held, .lit (.string a0.Open), .inl true .str a0.Ready]]) [] = impl_copyTake k a0 := by kernel_rfl
theorem ok_impl_copyTake (k : Nat) : SummOk Try.prog cod 92 (S_impl_copyTake k) := by
  refine summ_of (T := T) Try.f92 (G_impl_copyTake) L_impl_copyTake false [.cell 2 52] 0 D_impl_copyTake mixed (fun k => Known.of tok eok codOk ?_) (fun k => QuietOk.of ?_) Try.func92 (by kernel_rfl) (by kernel_rfl) (by kernel_rfl) (by kernel_rfl) (by kernel_rfl) ?_ ?_ [] ?_
  · exact all_nil
  · exact all_nil
  · intro v os r h
    unfold D_impl_copyTake at h
    split at h <;> first | (cases h; rfl) | cases h
  · refine all_nil
  · intro args os r h
    change (S_impl_copyTake k).run args os = some r at h
    unfold S_impl_copyTake at h; dsimp only at h
    split at h
    · exact ⟨Nat.le_of_ble_eq_true (by kernel_rfl), rfl, rfl, k, 4000, (e_impl_copyTake k ⟨_, _, _, _⟩).trans h⟩
    · cases h
noncomputable def S_impl_flow (k : Nat) : Summ K TyK where
  R := DTake
  modes := [.mv]
  run := fun args objs => match args, objs with
    | [.agg [.lit (.int .i64 v1), .own 0, .lit (.string v2), .own 1]], [.sl .held v3, .sl .str v4] => impl_flow k (⟨v1, v3, v2, v4⟩ : DTake)
    | _, _ => none
  ret := fun r => (.agg [.lit (.int .i64 r.Next), .own 2, .lit (.string r.Open), .own 3], [.dead, .dead, .sl .held r.Held, .sl .str r.Ready])
  quiet := false
noncomputable def D_impl_flow (v : V) (os : Objs K TyK) : Option (DTake) :=
  match v, os with
  | .agg [.lit (.int .i64 v1), .own 2, .lit (.string v2), .own 3], [.dead, .dead, .sl .held v3, .sl .str v4] => some (⟨v1, v3, v2, v4⟩ : DTake)
  | _, _ => none
noncomputable def C_impl_flow_1 : Cut K TyK (DTake) where
  slots := [1, 2]
  fn := fun k vs os => match vs, os with
    | [.ref 2 0, .ref 3 0], [.dead, .dead, .box [.lit (.int .i64 x0), .own 4, .lit (.string x1), .own 5], .box [.lit (.int .i64 x2), .own 6, .lit (.string x3), .own 7], .sl .held x4, .sl .str x5, .sl .held x6, .sl .str x7] => impl_flow_l1 k x0 x1 x2 x3 x4 x5 x6 x7
    | _, _ => none
noncomputable abbrev G_impl_flow (k : Nat) : FuncId → Option (Summ K TyK) := lookT [(90, S_impl_goes k)]
noncomputable abbrev L_impl_flow : List (Nat × Cut K TyK (DTake)) := [(1, C_impl_flow_1)]
theorem c_impl_flow_1 (k : Nat) (x0 : Int) (x1 : ByteArray) (x2 : Int) (x3 : ByteArray) (x4 : List DHeld) (x5 : List ByteArray) (x6 : List DHeld) (x7 : List ByteArray) : run cod T (G_impl_flow k) (lam L_impl_flow k) (cutsOf L_impl_flow) 2 (finish cod T false 2 [.cell 2 52] D_impl_flow) 4000 true (todoAt 1 (bodyOf Try.f93)) (envOf [1, 2] [.ref 2 0, .ref 3 0]) [.dead, .dead, .box [.lit (.int .i64 x0), .own 4, .lit (.string x1), .own 5], .box [.lit (.int .i64 x2), .own 6, .lit (.string x3), .own 7], .sl .held x4, .sl .str x5, .sl .held x6, .sl .str x7] = impl_flow_l1 (k + 1) x0 x1 x2 x3 x4 x5 x6 x7 := by kernel_rfl
theorem e_impl_flow (k : Nat) (a0 : DTake) : run cod T (G_impl_flow k) (lam L_impl_flow k) (cutsOf L_impl_flow) 2 (finish cod T false 2 [.cell 2 52] D_impl_flow) 4000 false [.code (bodyOf Try.f93)] (envOf [0] [.agg [.lit (.int .i64 a0.Next), .own 2, .lit (.string a0.Open), .own 3]]) [.dead, .dead, .sl .held a0.Held, .sl .str a0.Ready] = impl_flow k a0 := by kernel_rfl
theorem ok_impl_flow (k : Nat) : SummOk Try.prog cod 93 (S_impl_flow k) := by
  refine summ_of (T := T) Try.f93 (G_impl_flow) L_impl_flow false [.cell 2 52] 2 D_impl_flow mixed (fun k => Known.of tok eok codOk ?_) (fun k => QuietOk.of ?_) Try.func93 (by kernel_rfl) (by kernel_rfl) (by kernel_rfl) (by kernel_rfl) (by kernel_rfl) ?_ ?_ [true, true] ?_
  · exact all_cons (ok_impl_goes k) (all_nil)
  · exact all_cons (fun h r => ⟨rfl, rfl⟩) (all_nil)
  · intro v os r h
    unfold D_impl_flow at h
    split at h <;> first | (cases h; rfl) | cases h
  · refine all_cons ?_ (all_nil)
    · refine ⟨fun vs os => ?_, by kernel_rfl, fun k vs os r h => ?_⟩
      · show C_impl_flow_1.fn 0 vs os = none
        unfold C_impl_flow_1; dsimp only; split <;> rfl
      · change C_impl_flow_1.fn (k + 1) vs os = some r at h
        unfold C_impl_flow_1 at h; dsimp only at h
        split at h
        · exact ⟨4000, (c_impl_flow_1 k _ _ _ _ _ _ _ _).trans h⟩
        · cases h
  · intro args os r h
    change (S_impl_flow k).run args os = some r at h
    unfold S_impl_flow at h; dsimp only at h
    split at h
    · exact ⟨Nat.le_of_ble_eq_true (by kernel_rfl), rfl, rfl, k, 4000, (e_impl_flow k ⟨_, _, _, _⟩).trans h⟩
    · cases h
noncomputable def S_impl_TakePull (k : Nat) : Summ K TyK where
  R := DTake × ByteArray × Bool
  modes := [.bo]
  run := fun args objs => match args, objs with
    | [.agg [.lit (.int .i64 v1), .inl true .held v2, .lit (.string v3), .inl true .str v4]], [] => impl_TakePull k (⟨v1, v2, v3, v4⟩ : DTake)
    | _, _ => none
  ret := fun r => (.tup [.agg [.lit (.int .i64 r.1.Next), .own 0, .lit (.string r.1.Open), .own 1], .lit (.string r.2.1), .lit (.bool r.2.2)], [.sl .held r.1.Held, .sl .str r.1.Ready])
  quiet := false
noncomputable def D_impl_TakePull (v : V) (os : Objs K TyK) : Option (DTake × ByteArray × Bool) :=
  match v, os with
  | .tup [.agg [.lit (.int .i64 v1), .own 0, .lit (.string v2), .own 1], .lit (.string v3), .lit (.bool v4)], [.sl .held v5, .sl .str v6] => some ((⟨v1, v5, v2, v6⟩ : DTake), v3, v4)
  | _, _ => none
noncomputable abbrev G_impl_TakePull (k : Nat) : FuncId → Option (Summ K TyK) := lookT [(35, S_impl_ValidTake k), (92, S_impl_copyTake k), (93, S_impl_flow k)]
noncomputable abbrev L_impl_TakePull : List (Nat × Cut K TyK (DTake × ByteArray × Bool)) := []
theorem e_impl_TakePull (k : Nat) (a0 : DTake) : run cod T (G_impl_TakePull k) (lam L_impl_TakePull k) (cutsOf L_impl_TakePull) 0 (finish cod T false 0 [.cell 2 52, .tmp 3, .tmp 4] D_impl_TakePull) 4000 false [.code (bodyOf Try.f37)] (envOf [0] [.agg [.lit (.int .i64 a0.Next), .inl true .held a0.Held, .lit (.string a0.Open), .inl true .str a0.Ready]]) [] = impl_TakePull k a0 := by kernel_rfl
theorem ok_impl_TakePull (k : Nat) : SummOk Try.prog cod 37 (S_impl_TakePull k) := by
  refine summ_of (T := T) Try.f37 (G_impl_TakePull) L_impl_TakePull false [.cell 2 52, .tmp 3, .tmp 4] 0 D_impl_TakePull mixed (fun k => Known.of tok eok codOk ?_) (fun k => QuietOk.of ?_) Try.func37 (by kernel_rfl) (by kernel_rfl) (by kernel_rfl) (by kernel_rfl) (by kernel_rfl) ?_ ?_ [] ?_
  · exact all_cons (ok_impl_ValidTake k) (all_cons (ok_impl_copyTake k) (all_cons (ok_impl_flow k) (all_nil)))
  · exact all_cons (fun h r => ⟨rfl, rfl⟩) (all_cons (fun h r => by cases h) (all_cons (fun h r => by cases h) (all_nil)))
  · intro v os r h
    unfold D_impl_TakePull at h
    split at h <;> first | (cases h; rfl) | cases h
  · refine all_nil
  · intro args os r h
    change (S_impl_TakePull k).run args os = some r at h
    unfold S_impl_TakePull at h; dsimp only at h
    split at h
    · exact ⟨Nat.le_of_ble_eq_true (by kernel_rfl), rfl, rfl, k, 4000, (e_impl_TakePull k ⟨_, _, _, _⟩).trans h⟩
    · cases h
noncomputable def S_impl_TakePart (k : Nat) : Summ K TyK where
  R := DTake
  modes := [.bo, .bo, .bo]
  run := fun args objs => match args, objs with
    | [.agg [.lit (.int .i64 v1), .inl true .held v2, .lit (.string v3), .inl true .str v4], .lit (.int .i64 v5), .agg [.lit (.string v6), .lit (.bool v7)]], [] => impl_TakePart k (⟨v1, v2, v3, v4⟩ : DTake) v5 (⟨v6, v7⟩ : DPart)
    | _, _ => none
  ret := fun r => (.agg [.lit (.int .i64 r.Next), .own 0, .lit (.string r.Open), .own 1], [.sl .held r.Held, .sl .str r.Ready])
  quiet := false
noncomputable def D_impl_TakePart (v : V) (os : Objs K TyK) : Option (DTake) :=
  match v, os with
  | .agg [.lit (.int .i64 v1), .own 0, .lit (.string v2), .own 1], [.sl .held v3, .sl .str v4] => some (⟨v1, v3, v2, v4⟩ : DTake)
  | _, _ => none
noncomputable def C_impl_TakePart_7 : Cut K TyK (DTake) where
  slots := [1, 5, 6, 7, 8]
  fn := fun k vs os => match vs, os with
    | [.lit (.int .i64 x0), .ref 0 0, .ref 1 0, .ref 2 0, .lit (.int .i64 x1)], [.box [.lit (.string x2), .lit (.bool x3)], .box [.lit (.int .i64 x4), .own 3, .lit (.string x5), .own 4], .box [.lit (.int .i64 x6), .own 5, .lit (.string x7), .own 6], .sl .held x8, .sl .str x9, .sl .held x10, .sl .str x11] => impl_TakePart_l7 k x0 x1 x2 x3 x4 x5 x6 x7 x8 x9 x10 x11
    | _, _ => none
noncomputable abbrev G_impl_TakePart (k : Nat) : FuncId → Option (Summ K TyK) := lookT [(35, S_impl_ValidTake k), (92, S_impl_copyTake k), (89, S_impl_in k), (93, S_impl_flow k)]
noncomputable abbrev L_impl_TakePart : List (Nat × Cut K TyK (DTake)) := [(7, C_impl_TakePart_7)]
theorem c_impl_TakePart_7 (k : Nat) (x0 : Int) (x1 : Int) (x2 : ByteArray) (x3 : Bool) (x4 : Int) (x5 : ByteArray) (x6 : Int) (x7 : ByteArray) (x8 : List DHeld) (x9 : List ByteArray) (x10 : List DHeld) (x11 : List ByteArray) : run cod T (G_impl_TakePart k) (lam L_impl_TakePart k) (cutsOf L_impl_TakePart) 0 (finish cod T false 0 [.cell 6 52] D_impl_TakePart) 4000 true (todoAt 7 (bodyOf Try.f38)) (envOf [1, 5, 6, 7, 8] [.lit (.int .i64 x0), .ref 0 0, .ref 1 0, .ref 2 0, .lit (.int .i64 x1)]) [.box [.lit (.string x2), .lit (.bool x3)], .box [.lit (.int .i64 x4), .own 3, .lit (.string x5), .own 4], .box [.lit (.int .i64 x6), .own 5, .lit (.string x7), .own 6], .sl .held x8, .sl .str x9, .sl .held x10, .sl .str x11] = impl_TakePart_l7 (k + 1) x0 x1 x2 x3 x4 x5 x6 x7 x8 x9 x10 x11 := by kernel_rfl
theorem e_impl_TakePart (k : Nat) (a0 : DTake) (a1 : Int) (a2 : DPart) : run cod T (G_impl_TakePart k) (lam L_impl_TakePart k) (cutsOf L_impl_TakePart) 0 (finish cod T false 0 [.cell 6 52] D_impl_TakePart) 4000 false [.code (bodyOf Try.f38)] (envOf [0, 1, 2] [.agg [.lit (.int .i64 a0.Next), .inl true .held a0.Held, .lit (.string a0.Open), .inl true .str a0.Ready], .lit (.int .i64 a1), .agg [.lit (.string a2.Text), .lit (.bool a2.Last)]]) [] = impl_TakePart k a0 a1 a2 := by kernel_rfl
theorem ok_impl_TakePart (k : Nat) : SummOk Try.prog cod 38 (S_impl_TakePart k) := by
  refine summ_of (T := T) Try.f38 (G_impl_TakePart) L_impl_TakePart false [.cell 6 52] 0 D_impl_TakePart mixed (fun k => Known.of tok eok codOk ?_) (fun k => QuietOk.of ?_) Try.func38 (by kernel_rfl) (by kernel_rfl) (by kernel_rfl) (by kernel_rfl) (by kernel_rfl) ?_ ?_ [] ?_
  · exact all_cons (ok_impl_ValidTake k) (all_cons (ok_impl_copyTake k) (all_cons (ok_impl_in k) (all_cons (ok_impl_flow k) (all_nil))))
  · exact all_cons (fun h r => ⟨rfl, rfl⟩) (all_cons (fun h r => by cases h) (all_cons (fun h r => ⟨rfl, rfl⟩) (all_cons (fun h r => by cases h) (all_nil))))
  · intro v os r h
    unfold D_impl_TakePart at h
    split at h <;> first | (cases h; rfl) | cases h
  · refine all_cons ?_ (all_nil)
    · refine ⟨fun vs os => ?_, by kernel_rfl, fun k vs os r h => ?_⟩
      · show C_impl_TakePart_7.fn 0 vs os = none
        unfold C_impl_TakePart_7; dsimp only; split <;> rfl
      · change C_impl_TakePart_7.fn (k + 1) vs os = some r at h
        unfold C_impl_TakePart_7 at h; dsimp only at h
        split at h
        · exact ⟨4000, (c_impl_TakePart_7 k _ _ _ _ _ _ _ _ _ _ _ _).trans h⟩
        · cases h
  · intro args os r h
    change (S_impl_TakePart k).run args os = some r at h
    unfold S_impl_TakePart at h; dsimp only at h
    split at h
    · exact ⟨Nat.le_of_ble_eq_true (by kernel_rfl), rfl, rfl, k, 4000, (e_impl_TakePart k ⟨_, _, _, _⟩ _ ⟨_, _⟩).trans h⟩
    · cases h
noncomputable def S_laws_wTake (k : Nat) : Summ K TyK where
  R := Bool
  modes := [.bo, .bo]
  run := fun args objs => match args, objs with
    | [.agg [.lit (.int .i64 v1), .inl true .held v2, .lit (.string v3), .inl true .str v4], .agg [.lit (.int .i64 v5), .inl true .held v6, .lit (.string v7), .inl true .str v8]], [] => laws_wTake k (⟨v1, v2, v3, v4⟩ : DTake) (⟨v5, v6, v7, v8⟩ : DTake)
    | _, _ => none
  ret := fun r => (.lit (.bool r), [])
  quiet := true
noncomputable def D_laws_wTake (v : V) (os : Objs K TyK) : Option (Bool) :=
  match v, os with
  | .lit (.bool v1), [] => some v1
  | _, _ => none
noncomputable def C_laws_wTake_4 : Cut K TyK (Bool) where
  slots := [2, 3, 5]
  fn := fun k vs os => match vs, os with
    | [.ref 0 0, .ref 1 0, .lit (.int .i64 x0)], [.box [.lit (.int .i64 x1), .inl true .held x2, .lit (.string x3), .inl true .str x4], .box [.lit (.int .i64 x5), .inl true .held x6, .lit (.string x7), .inl true .str x8]] => laws_wTake_l4 k x0 x1 x2 x3 x4 x5 x6 x7 x8
    | _, _ => none
noncomputable abbrev G_laws_wTake (k : Nat) : FuncId → Option (Summ K TyK) := lookT [(27, S_laws_wTexts k)]
noncomputable abbrev L_laws_wTake : List (Nat × Cut K TyK (Bool)) := [(4, C_laws_wTake_4)]
theorem c_laws_wTake_4 (k : Nat) (x0 : Int) (x1 : Int) (x2 : List DHeld) (x3 : ByteArray) (x4 : List ByteArray) (x5 : Int) (x6 : List DHeld) (x7 : ByteArray) (x8 : List ByteArray) : run cod T (G_laws_wTake k) (lam L_laws_wTake k) (cutsOf L_laws_wTake) 0 (finish cod T false 0 [.tmp 4] D_laws_wTake) 4000 true (todoAt 4 (bodyOf Try.f39)) (envOf [2, 3, 5] [.ref 0 0, .ref 1 0, .lit (.int .i64 x0)]) [.box [.lit (.int .i64 x1), .inl true .held x2, .lit (.string x3), .inl true .str x4], .box [.lit (.int .i64 x5), .inl true .held x6, .lit (.string x7), .inl true .str x8]] = laws_wTake_l4 (k + 1) x0 x1 x2 x3 x4 x5 x6 x7 x8 := by kernel_rfl
theorem e_laws_wTake (k : Nat) (a0 : DTake) (a1 : DTake) : run cod T (G_laws_wTake k) (lam L_laws_wTake k) (cutsOf L_laws_wTake) 0 (finish cod T false 0 [.tmp 4] D_laws_wTake) 4000 false [.code (bodyOf Try.f39)] (envOf [0, 1] [.agg [.lit (.int .i64 a0.Next), .inl true .held a0.Held, .lit (.string a0.Open), .inl true .str a0.Ready], .agg [.lit (.int .i64 a1.Next), .inl true .held a1.Held, .lit (.string a1.Open), .inl true .str a1.Ready]]) [] = laws_wTake k a0 a1 := by kernel_rfl
theorem ok_laws_wTake (k : Nat) : SummOk Try.prog cod 39 (S_laws_wTake k) := by
  refine summ_of (T := T) Try.f39 (G_laws_wTake) L_laws_wTake false [.tmp 4] 0 D_laws_wTake mixed (fun k => Known.of tok eok codOk ?_) (fun k => QuietOk.of ?_) Try.func39 (by kernel_rfl) (by kernel_rfl) (by kernel_rfl) (by kernel_rfl) (by kernel_rfl) ?_ ?_ [] ?_
  · exact all_cons (ok_laws_wTexts k) (all_nil)
  · exact all_cons (fun h r => ⟨rfl, rfl⟩) (all_nil)
  · intro v os r h
    unfold D_laws_wTake at h
    split at h <;> first | (cases h; rfl) | cases h
  · refine all_cons ?_ (all_nil)
    · refine ⟨fun vs os => ?_, by kernel_rfl, fun k vs os r h => ?_⟩
      · show C_laws_wTake_4.fn 0 vs os = none
        unfold C_laws_wTake_4; dsimp only; split <;> rfl
      · change C_laws_wTake_4.fn (k + 1) vs os = some r at h
        unfold C_laws_wTake_4 at h; dsimp only at h
        split at h
        · exact ⟨4000, (c_laws_wTake_4 k _ _ _ _ _ _ _ _ _).trans h⟩
        · cases h
  · intro args os r h
    change (S_laws_wTake k).run args os = some r at h
    unfold S_laws_wTake at h; dsimp only at h
    split at h
    · exact ⟨Nat.le_of_ble_eq_true (by kernel_rfl), rfl, rfl, k, 4000, (e_laws_wTake k ⟨_, _, _, _⟩ ⟨_, _, _, _⟩).trans h⟩
    · cases h
noncomputable def S_laws_wBegins (k : Nat) : Summ K TyK where
  R := Bool
  modes := [.bo, .bo]
  run := fun args objs => match args, objs with
    | [.inl true .str v1, .inl true .str v2], [] => laws_wBegins k v1 v2
    | _, _ => none
  ret := fun r => (.lit (.bool r), [])
  quiet := true
noncomputable def D_laws_wBegins (v : V) (os : Objs K TyK) : Option (Bool) :=
  match v, os with
  | .lit (.bool v1), [] => some v1
  | _, _ => none
noncomputable abbrev G_laws_wBegins (k : Nat) : FuncId → Option (Summ K TyK) := lookT [(27, S_laws_wTexts k)]
noncomputable abbrev L_laws_wBegins : List (Nat × Cut K TyK (Bool)) := []
theorem e_laws_wBegins (k : Nat) (a0 : List ByteArray) (a1 : List ByteArray) : run cod T (G_laws_wBegins k) (lam L_laws_wBegins k) (cutsOf L_laws_wBegins) 0 (finish cod T false 0 [.tmp 4] D_laws_wBegins) 4000 false [.code (bodyOf Try.f40)] (envOf [0, 1] [.inl true .str a0, .inl true .str a1]) [] = laws_wBegins k a0 a1 := by kernel_rfl
theorem ok_laws_wBegins (k : Nat) : SummOk Try.prog cod 40 (S_laws_wBegins k) := by
  refine summ_of (T := T) Try.f40 (G_laws_wBegins) L_laws_wBegins false [.tmp 4] 0 D_laws_wBegins mixed (fun k => Known.of tok eok codOk ?_) (fun k => QuietOk.of ?_) Try.func40 (by kernel_rfl) (by kernel_rfl) (by kernel_rfl) (by kernel_rfl) (by kernel_rfl) ?_ ?_ [] ?_
  · exact all_cons (ok_laws_wTexts k) (all_nil)
  · exact all_cons (fun h r => ⟨rfl, rfl⟩) (all_nil)
  · intro v os r h
    unfold D_laws_wBegins at h
    split at h <;> first | (cases h; rfl) | cases h
  · refine all_nil
  · intro args os r h
    change (S_laws_wBegins k).run args os = some r at h
    unfold S_laws_wBegins at h; dsimp only at h
    split at h
    · exact ⟨Nat.le_of_ble_eq_true (by kernel_rfl), rfl, rfl, k, 4000, (e_laws_wBegins k _ _).trans h⟩
    · cases h
noncomputable def S_laws_FnTakes (k : Nat) : Summ K TyK where
  R := Bool
  modes := [.pe, .pe]
  run := fun args objs => match args, objs with
    | [.inl false .byte v1, .inl false .byte v2], [] => laws_FnTakes k v1 v2
    | _, _ => none
  ret := fun r => (.lit (.bool r), [])
  quiet := true
noncomputable def D_laws_FnTakes (v : V) (os : Objs K TyK) : Option (Bool) :=
  match v, os with
  | .lit (.bool v1), [] => some v1
  | _, _ => none
noncomputable def C_laws_FnTakes_11 : Cut K TyK (Bool) where
  slots := [1, 5, 6, 12, 13, 14]
  fn := fun k vs os => match vs, os with
    | [.inl false .byte x0, .own 0, .own 1, .ref 2 0, .own 3, .lit (.int .i64 x1)], [.sl .part x2, .sl .str x3, .box [.lit (.int .i64 x4), .own 4, .lit (.string x5), .own 5], .sl .str x6, .sl .held x7, .sl .str x8] => laws_FnTakes_l11 k x0 x1 x2 x3 x4 x5 x6 x7 x8
    | _, _ => none
noncomputable def C_laws_FnTakes_16 : Cut K TyK (Bool) where
  slots := [1, 5, 6, 12, 13, 14, 15]
  fn := fun k vs os => match vs, os with
    | [.inl false .byte x0, .own 0, .own 1, .ref 2 0, .own 3, .lit (.int .i64 x1), .lit (.int .i64 x2)], [.sl .part x3, .sl .str x4, .box [.lit (.int .i64 x5), .own 4, .lit (.string x6), .own 5], .sl .str x7, .sl .held x8, .sl .str x9] => laws_FnTakes_l16 k x0 x1 x2 x3 x4 x5 x6 x7 x8 x9
    | _, _ => none
noncomputable def C_laws_FnTakes_29 : Cut K TyK (Bool) where
  slots := [5, 6, 12, 13, 20]
  fn := fun k vs os => match vs, os with
    | [.own 0, .own 1, .ref 2 0, .own 3, .lit (.int .i64 x0)], [.sl .part x1, .sl .str x2, .box [.lit (.int .i64 x3), .own 4, .lit (.string x4), .own 5], .sl .str x5, .sl .held x6, .sl .str x7] => laws_FnTakes_l29 k x0 x1 x2 x3 x4 x5 x6 x7
    | _, _ => none
noncomputable def C_laws_FnTakes_12 : Cut K TyK (Bool) where
  slots := [1, 5, 6, 12, 13, 14]
  fn := fun k vs os => match vs, os with
    | [.inl false .byte x0, .own 0, .own 1, .ref 2 0, .own 3, .lit (.int .i64 x1)], [.sl .part x2, .sl .str x3, .box [.lit (.int .i64 x4), .own 4, .lit (.string x5), .own 5], .sl .str x6, .sl .held x7, .sl .str x8] => laws_FnTakes_l12 k x0 x1 x2 x3 x4 x5 x6 x7 x8
    | _, _ => none
noncomputable def C_laws_FnTakes_33 : Cut K TyK (Bool) where
  slots := [5, 6, 12, 13, 20]
  fn := fun k vs os => match vs, os with
    | [.own 0, .own 1, .ref 2 0, .own 3, .lit (.int .i64 x0)], [.sl .part x1, .sl .str x2, .box [.lit (.int .i64 x3), .own 4, .lit (.string x4), .own 5], .sl .str x5, .sl .held x6, .sl .str x7] => laws_FnTakes_l33 k x0 x1 x2 x3 x4 x5 x6 x7
    | _, _ => none
noncomputable def C_laws_FnTakes_34 : Cut K TyK (Bool) where
  slots := [5, 6, 12, 13, 20, 21]
  fn := fun k vs os => match vs, os with
    | [.own 0, .own 1, .ref 2 0, .own 3, .lit (.int .i64 x0), .lit (.int .i64 x1)], [.sl .part x2, .sl .str x3, .box [.lit (.int .i64 x4), .own 4, .lit (.string x5), .own 5], .sl .str x6, .sl .held x7, .sl .str x8] => laws_FnTakes_l34 k x0 x1 x2 x3 x4 x5 x6 x7 x8
    | _, _ => none
noncomputable abbrev G_laws_FnTakes (k : Nat) : FuncId → Option (Summ K TyK) := lookT [(28, S_spec_DrawJoin k), (16, S_spec_Join k), (18, S_impl_Join k), (37, S_impl_TakePull k), (38, S_impl_TakePart k), (35, S_impl_ValidTake k), (39, S_laws_wTake k), (40, S_laws_wBegins k), (27, S_laws_wTexts k)]
noncomputable abbrev L_laws_FnTakes : List (Nat × Cut K TyK (Bool)) := [(11, C_laws_FnTakes_11), (16, C_laws_FnTakes_16), (29, C_laws_FnTakes_29), (12, C_laws_FnTakes_12), (33, C_laws_FnTakes_33), (34, C_laws_FnTakes_34)]
theorem c_laws_FnTakes_11 (k : Nat) (x0 : List Int) (x1 : Int) (x2 : List DPart) (x3 : List ByteArray) (x4 : Int) (x5 : ByteArray) (x6 : List ByteArray) (x7 : List DHeld) (x8 : List ByteArray) : run cod T (G_laws_FnTakes k) (lam L_laws_FnTakes k) (cutsOf L_laws_FnTakes) 0 (finish cod T false 0 [.tmp 4] D_laws_FnTakes) 4000 true (todoAt 11 (bodyOf Try.f7)) (envOf [1, 5, 6, 12, 13, 14] [.inl false .byte x0, .own 0, .own 1, .ref 2 0, .own 3, .lit (.int .i64 x1)]) [.sl .part x2, .sl .str x3, .box [.lit (.int .i64 x4), .own 4, .lit (.string x5), .own 5], .sl .str x6, .sl .held x7, .sl .str x8] = laws_FnTakes_l11 (k + 1) x0 x1 x2 x3 x4 x5 x6 x7 x8 := by kernel_rfl
theorem c_laws_FnTakes_16 (k : Nat) (x0 : List Int) (x1 : Int) (x2 : Int) (x3 : List DPart) (x4 : List ByteArray) (x5 : Int) (x6 : ByteArray) (x7 : List ByteArray) (x8 : List DHeld) (x9 : List ByteArray) : run cod T (G_laws_FnTakes k) (lam L_laws_FnTakes k) (cutsOf L_laws_FnTakes) 0 (finish cod T false 0 [.tmp 4] D_laws_FnTakes) 4000 true (todoAt 16 (bodyOf Try.f7)) (envOf [1, 5, 6, 12, 13, 14, 15] [.inl false .byte x0, .own 0, .own 1, .ref 2 0, .own 3, .lit (.int .i64 x1), .lit (.int .i64 x2)]) [.sl .part x3, .sl .str x4, .box [.lit (.int .i64 x5), .own 4, .lit (.string x6), .own 5], .sl .str x7, .sl .held x8, .sl .str x9] = laws_FnTakes_l16 (k + 1) x0 x1 x2 x3 x4 x5 x6 x7 x8 x9 := by kernel_rfl
theorem c_laws_FnTakes_29 (k : Nat) (x0 : Int) (x1 : List DPart) (x2 : List ByteArray) (x3 : Int) (x4 : ByteArray) (x5 : List ByteArray) (x6 : List DHeld) (x7 : List ByteArray) : run cod T (G_laws_FnTakes k) (lam L_laws_FnTakes k) (cutsOf L_laws_FnTakes) 0 (finish cod T false 0 [.tmp 4] D_laws_FnTakes) 4000 true (todoAt 29 (bodyOf Try.f7)) (envOf [5, 6, 12, 13, 20] [.own 0, .own 1, .ref 2 0, .own 3, .lit (.int .i64 x0)]) [.sl .part x1, .sl .str x2, .box [.lit (.int .i64 x3), .own 4, .lit (.string x4), .own 5], .sl .str x5, .sl .held x6, .sl .str x7] = laws_FnTakes_l29 (k + 1) x0 x1 x2 x3 x4 x5 x6 x7 := by kernel_rfl
theorem c_laws_FnTakes_12 (k : Nat) (x0 : List Int) (x1 : Int) (x2 : List DPart) (x3 : List ByteArray) (x4 : Int) (x5 : ByteArray) (x6 : List ByteArray) (x7 : List DHeld) (x8 : List ByteArray) : run cod T (G_laws_FnTakes k) (lam L_laws_FnTakes k) (cutsOf L_laws_FnTakes) 0 (finish cod T false 0 [.tmp 4] D_laws_FnTakes) 4000 true (todoAt 12 (bodyOf Try.f7)) (envOf [1, 5, 6, 12, 13, 14] [.inl false .byte x0, .own 0, .own 1, .ref 2 0, .own 3, .lit (.int .i64 x1)]) [.sl .part x2, .sl .str x3, .box [.lit (.int .i64 x4), .own 4, .lit (.string x5), .own 5], .sl .str x6, .sl .held x7, .sl .str x8] = laws_FnTakes_l12 (k + 1) x0 x1 x2 x3 x4 x5 x6 x7 x8 := by kernel_rfl
theorem c_laws_FnTakes_33 (k : Nat) (x0 : Int) (x1 : List DPart) (x2 : List ByteArray) (x3 : Int) (x4 : ByteArray) (x5 : List ByteArray) (x6 : List DHeld) (x7 : List ByteArray) : run cod T (G_laws_FnTakes k) (lam L_laws_FnTakes k) (cutsOf L_laws_FnTakes) 0 (finish cod T false 0 [.tmp 4] D_laws_FnTakes) 4000 true (todoAt 33 (bodyOf Try.f7)) (envOf [5, 6, 12, 13, 20] [.own 0, .own 1, .ref 2 0, .own 3, .lit (.int .i64 x0)]) [.sl .part x1, .sl .str x2, .box [.lit (.int .i64 x3), .own 4, .lit (.string x4), .own 5], .sl .str x5, .sl .held x6, .sl .str x7] = laws_FnTakes_l33 (k + 1) x0 x1 x2 x3 x4 x5 x6 x7 := by kernel_rfl
theorem c_laws_FnTakes_34 (k : Nat) (x0 : Int) (x1 : Int) (x2 : List DPart) (x3 : List ByteArray) (x4 : Int) (x5 : ByteArray) (x6 : List ByteArray) (x7 : List DHeld) (x8 : List ByteArray) : run cod T (G_laws_FnTakes k) (lam L_laws_FnTakes k) (cutsOf L_laws_FnTakes) 0 (finish cod T false 0 [.tmp 4] D_laws_FnTakes) 4000 true (todoAt 34 (bodyOf Try.f7)) (envOf [5, 6, 12, 13, 20, 21] [.own 0, .own 1, .ref 2 0, .own 3, .lit (.int .i64 x0), .lit (.int .i64 x1)]) [.sl .part x2, .sl .str x3, .box [.lit (.int .i64 x4), .own 4, .lit (.string x5), .own 5], .sl .str x6, .sl .held x7, .sl .str x8] = laws_FnTakes_l34 (k + 1) x0 x1 x2 x3 x4 x5 x6 x7 x8 := by kernel_rfl
theorem e_laws_FnTakes (k : Nat) (a0 : List Int) (a1 : List Int) : run cod T (G_laws_FnTakes k) (lam L_laws_FnTakes k) (cutsOf L_laws_FnTakes) 0 (finish cod T false 0 [.tmp 4] D_laws_FnTakes) 4000 false [.code (bodyOf Try.f7)] (envOf [0, 1] [.inl false .byte a0, .inl false .byte a1]) [] = laws_FnTakes k a0 a1 := by kernel_rfl
theorem ok_laws_FnTakes (k : Nat) : SummOk Try.prog cod 7 (S_laws_FnTakes k) := by
  refine summ_of (T := T) Try.f7 (G_laws_FnTakes) L_laws_FnTakes false [.tmp 4] 0 D_laws_FnTakes mixed (fun k => Known.of tok eok codOk ?_) (fun k => QuietOk.of ?_) Try.func7 (by kernel_rfl) (by kernel_rfl) (by kernel_rfl) (by kernel_rfl) (by kernel_rfl) ?_ ?_ [] ?_
  · exact all_cons (ok_spec_DrawJoin k) (all_cons (ok_spec_Join k) (all_cons (ok_impl_Join k) (all_cons (ok_impl_TakePull k) (all_cons (ok_impl_TakePart k) (all_cons (ok_impl_ValidTake k) (all_cons (ok_laws_wTake k) (all_cons (ok_laws_wBegins k) (all_cons (ok_laws_wTexts k) (all_nil)))))))))
  · exact all_cons (fun h r => by cases h) (all_cons (fun h r => by cases h) (all_cons (fun h r => by cases h) (all_cons (fun h r => by cases h) (all_cons (fun h r => by cases h) (all_cons (fun h r => ⟨rfl, rfl⟩) (all_cons (fun h r => ⟨rfl, rfl⟩) (all_cons (fun h r => ⟨rfl, rfl⟩) (all_cons (fun h r => ⟨rfl, rfl⟩) (all_nil)))))))))
  · intro v os r h
    unfold D_laws_FnTakes at h
    split at h <;> first | (cases h; rfl) | cases h
  · refine all_cons ?_ (all_cons ?_ (all_cons ?_ (all_cons ?_ (all_cons ?_ (all_cons ?_ (all_nil))))))
    · refine ⟨fun vs os => ?_, by kernel_rfl, fun k vs os r h => ?_⟩
      · show C_laws_FnTakes_11.fn 0 vs os = none
        unfold C_laws_FnTakes_11; dsimp only; split <;> rfl
      · change C_laws_FnTakes_11.fn (k + 1) vs os = some r at h
        unfold C_laws_FnTakes_11 at h; dsimp only at h
        split at h
        · exact ⟨4000, (c_laws_FnTakes_11 k _ _ _ _ _ _ _ _ _).trans h⟩
        · cases h
    · refine ⟨fun vs os => ?_, by kernel_rfl, fun k vs os r h => ?_⟩
      · show C_laws_FnTakes_16.fn 0 vs os = none
        unfold C_laws_FnTakes_16; dsimp only; split <;> rfl
      · change C_laws_FnTakes_16.fn (k + 1) vs os = some r at h
        unfold C_laws_FnTakes_16 at h; dsimp only at h
        split at h
        · exact ⟨4000, (c_laws_FnTakes_16 k _ _ _ _ _ _ _ _ _ _).trans h⟩
        · cases h
    · refine ⟨fun vs os => ?_, by kernel_rfl, fun k vs os r h => ?_⟩
      · show C_laws_FnTakes_29.fn 0 vs os = none
        unfold C_laws_FnTakes_29; dsimp only; split <;> rfl
      · change C_laws_FnTakes_29.fn (k + 1) vs os = some r at h
        unfold C_laws_FnTakes_29 at h; dsimp only at h
        split at h
        · exact ⟨4000, (c_laws_FnTakes_29 k _ _ _ _ _ _ _ _).trans h⟩
        · cases h
    · refine ⟨fun vs os => ?_, by kernel_rfl, fun k vs os r h => ?_⟩
      · show C_laws_FnTakes_12.fn 0 vs os = none
        unfold C_laws_FnTakes_12; dsimp only; split <;> rfl
      · change C_laws_FnTakes_12.fn (k + 1) vs os = some r at h
        unfold C_laws_FnTakes_12 at h; dsimp only at h
        split at h
        · exact ⟨4000, (c_laws_FnTakes_12 k _ _ _ _ _ _ _ _ _).trans h⟩
        · cases h
    · refine ⟨fun vs os => ?_, by kernel_rfl, fun k vs os r h => ?_⟩
      · show C_laws_FnTakes_33.fn 0 vs os = none
        unfold C_laws_FnTakes_33; dsimp only; split <;> rfl
      · change C_laws_FnTakes_33.fn (k + 1) vs os = some r at h
        unfold C_laws_FnTakes_33 at h; dsimp only at h
        split at h
        · exact ⟨4000, (c_laws_FnTakes_33 k _ _ _ _ _ _ _ _).trans h⟩
        · cases h
    · refine ⟨fun vs os => ?_, by kernel_rfl, fun k vs os r h => ?_⟩
      · show C_laws_FnTakes_34.fn 0 vs os = none
        unfold C_laws_FnTakes_34; dsimp only; split <;> rfl
      · change C_laws_FnTakes_34.fn (k + 1) vs os = some r at h
        unfold C_laws_FnTakes_34 at h; dsimp only at h
        split at h
        · exact ⟨4000, (c_laws_FnTakes_34 k _ _ _ _ _ _ _ _ _).trans h⟩
        · cases h
  · intro args os r h
    change (S_laws_FnTakes k).run args os = some r at h
    unfold S_laws_FnTakes at h; dsimp only at h
    split at h
    · exact ⟨Nat.le_of_ble_eq_true (by kernel_rfl), rfl, rfl, k, 4000, (e_laws_FnTakes k _ _).trans h⟩
    · cases h
end Km.X
