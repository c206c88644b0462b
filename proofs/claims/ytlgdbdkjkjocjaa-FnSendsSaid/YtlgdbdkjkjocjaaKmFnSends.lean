/- A part of the proof of FnSends: each function does what its reading says. There is no condition. -/
import Derived.Test.YtlgdbdkjkjocjaaKmSeat
import Derived.Test.YtlgdbdkjkjocjaaKxDef2
namespace Km.X
open Go Km Go.Proofs
set_option linter.unusedVariables false
set_option maxRecDepth 100000
set_option maxHeartbeats 4000000
noncomputable def S_spec_l1Open (k : Nat) : Summ K TyK where
  R := DL1Rd
  modes := [.pe]
  run := fun args objs => match args, objs with
    | [.inl false .byte v1], [] => spec_l1Open k v1
    | _, _ => none
  ret := fun r => (.ref 0 0, [.box [.inl false .byte r.b, .lit (.int .i64 r.p)]])
  quiet := false
noncomputable def D_spec_l1Open (v : V) (os : Objs K TyK) : Option (DL1Rd) :=
  match v, os with
  | .ref 0 0, [.box [.inl false .byte v1, .lit (.int .i64 v2)]] => some (⟨v1, v2⟩ : DL1Rd)
  | _, _ => none
noncomputable def C_spec_l1Open_3 : Cut K TyK (DL1Rd) where
  slots := [0]
  fn := fun k vs os => match vs, os with
    | [.inl false .byte x0], [] => spec_l1Open_l3 k x0
    | _, _ => none
noncomputable abbrev G_spec_l1Open (k : Nat) : FuncId → Option (Summ K TyK) := lookT []
noncomputable abbrev L_spec_l1Open : List (Nat × Cut K TyK (DL1Rd)) := [(3, C_spec_l1Open_3)]
theorem c_spec_l1Open_3 (k : Nat) (x0 : List Int) : run cod T (G_spec_l1Open k) (lam L_spec_l1Open k) (cutsOf L_spec_l1Open) 0 (finish cod T false 0 [.tmp 2] D_spec_l1Open) 4000 true (todoAt 3 (bodyOf Try.f75)) (envOf [0] [.inl false .byte x0]) [] = spec_l1Open_l3 (k + 1) x0 := by kernel_rfl
theorem e_spec_l1Open (k : Nat) (a0 : List Int) : run cod T (G_spec_l1Open k) (lam L_spec_l1Open k) (cutsOf L_spec_l1Open) 0 (finish cod T false 0 [.tmp 2] D_spec_l1Open) 4000 false [.code (bodyOf Try.f75)] (envOf [0] [.inl false .byte a0]) [] = spec_l1Open k a0 := by kernel_rfl
theorem ok_spec_l1Open (k : Nat) : SummOk Try.prog cod 75 (S_spec_l1Open k) := by
  refine summ_of (T := T) Try.f75 (G_spec_l1Open) L_spec_l1Open false [.tmp 2] 0 D_spec_l1Open mixed (fun k => Known.of tok eok codOk ?_) (fun k => QuietOk.of ?_) Try.func75 (by kernel_rfl) (by kernel_rfl) (by kernel_rfl) (by kernel_rfl) (by kernel_rfl) ?_ ?_ [] ?_
  · exact all_nil
  · exact all_nil
  · intro v os r h
    unfold D_spec_l1Open at h
    split at h <;> first | (cases h; rfl) | cases h
  · refine all_cons ?_ (all_nil)
    · refine ⟨fun vs os => ?_, by kernel_rfl, fun k vs os r h => ?_⟩
      · show C_spec_l1Open_3.fn 0 vs os = none
        unfold C_spec_l1Open_3; dsimp only; split <;> rfl
      · change C_spec_l1Open_3.fn (k + 1) vs os = some r at h
        unfold C_spec_l1Open_3 at h; dsimp only at h
        split at h
        · exact ⟨4000, (c_spec_l1Open_3 k _).trans h⟩
        · cases h
  · intro args os r h
    change (S_spec_l1Open k).run args os = some r at h
    unfold S_spec_l1Open at h; dsimp only at h
    split at h
    · exact ⟨Nat.le_of_ble_eq_true (by kernel_rfl), rfl, rfl, k, 4000, (e_spec_l1Open k _).trans h⟩
    · cases h
noncomputable def S_spec_l1Rd_pick (k : Nat) : Summ K TyK where
  R := Int × DL1Rd
  modes := [.mv, .bo]
  run := fun args objs => match args, objs with
    | [.ref 0 0, .lit (.int .i64 v1)], [.box [.inl false .byte v2, .lit (.int .i64 v3)]] => spec_l1Rd_pick k (⟨v2, v3⟩ : DL1Rd) v1
    | _, _ => none
  ret := fun r => (.lit (.int .i64 r.1), [.box [.inl false .byte r.2.b, .lit (.int .i64 r.2.p)]])
  quiet := false
noncomputable def D_spec_l1Rd_pick (v : V) (os : Objs K TyK) : Option (Int × DL1Rd) :=
  match v, os with
  | .lit (.int .i64 v1), [.box [.inl false .byte v2, .lit (.int .i64 v3)]] => some (v1, (⟨v2, v3⟩ : DL1Rd))
  | _, _ => none
noncomputable abbrev G_spec_l1Rd_pick (k : Nat) : FuncId → Option (Summ K TyK) := lookT []
noncomputable abbrev L_spec_l1Rd_pick : List (Nat × Cut K TyK (Int × DL1Rd)) := []
theorem e_spec_l1Rd_pick (k : Nat) (a0 : DL1Rd) (a1 : Int) : run cod T (G_spec_l1Rd_pick k) (lam L_spec_l1Rd_pick k) (cutsOf L_spec_l1Rd_pick) 1 (finish cod T false 1 [.tmp 4] D_spec_l1Rd_pick) 4000 false [.code (bodyOf Try.f76)] (envOf [0, 1] [.ref 0 0, .lit (.int .i64 a1)]) [.box [.inl false .byte a0.b, .lit (.int .i64 a0.p)]] = spec_l1Rd_pick k a0 a1 := by kernel_rfl
theorem ok_spec_l1Rd_pick (k : Nat) : SummOk Try.prog cod 76 (S_spec_l1Rd_pick k) := by
  refine summ_of (T := T) Try.f76 (G_spec_l1Rd_pick) L_spec_l1Rd_pick false [.tmp 4] 1 D_spec_l1Rd_pick mixed (fun k => Known.of tok eok codOk ?_) (fun k => QuietOk.of ?_) Try.func76 (by kernel_rfl) (by kernel_rfl) (by kernel_rfl) (by kernel_rfl) (by kernel_rfl) ?_ ?_ [false] ?_
  · exact all_nil
  · exact all_nil
  · intro v os r h
    unfold D_spec_l1Rd_pick at h
    split at h <;> first | (cases h; rfl) | cases h
  · refine all_nil
  · intro args os r h
    change (S_spec_l1Rd_pick k).run args os = some r at h
    unfold S_spec_l1Rd_pick at h; dsimp only at h
    split at h
    · exact ⟨Nat.le_of_ble_eq_true (by kernel_rfl), rfl, rfl, k, 4000, (e_spec_l1Rd_pick k ⟨_, _⟩ _).trans h⟩
    · cases h
noncomputable def S_spec_l1Many (k : Nat) : Summ K TyK where
  R := ByteArray
  modes := [.bo, .bo]
  run := fun args objs => match args, objs with
    | [.lit (.string v1), .lit (.int .i64 v2)], [] => spec_l1Many k v1 v2
    | _, _ => none
  ret := fun r => (.lit (.string r), [])
  quiet := true
noncomputable def D_spec_l1Many (v : V) (os : Objs K TyK) : Option (ByteArray) :=
  match v, os with
  | .lit (.string v1), [] => some v1
  | _, _ => none
noncomputable def C_spec_l1Many_2 : Cut K TyK (ByteArray) where
  slots := [0, 1, 5]
  fn := fun k vs os => match vs, os with
    | [.lit (.string x0), .lit (.int .i64 x1), .lit (.string x2)], [] => spec_l1Many_l2 k x0 x1 x2
    | _, _ => none
noncomputable def C_spec_l1Many_5 : Cut K TyK (ByteArray) where
  slots := [0, 1, 5]
  fn := fun k vs os => match vs, os with
    | [.lit (.string x0), .lit (.int .i64 x1), .lit (.string x2)], [] => spec_l1Many_l5 k x0 x1 x2
    | _, _ => none
noncomputable abbrev G_spec_l1Many (k : Nat) : FuncId → Option (Summ K TyK) := lookT []
noncomputable abbrev L_spec_l1Many : List (Nat × Cut K TyK (ByteArray)) := [(2, C_spec_l1Many_2), (5, C_spec_l1Many_5)]
theorem c_spec_l1Many_2 (k : Nat) (x0 : ByteArray) (x1 : Int) (x2 : ByteArray) : run cod T (G_spec_l1Many k) (lam L_spec_l1Many k) (cutsOf L_spec_l1Many) 0 (finish cod T false 0 [.tmp 4] D_spec_l1Many) 4000 true (todoAt 2 (bodyOf Try.f77)) (envOf [0, 1, 5] [.lit (.string x0), .lit (.int .i64 x1), .lit (.string x2)]) [] = spec_l1Many_l2 (k + 1) x0 x1 x2 := by kernel_rfl
theorem c_spec_l1Many_5 (k : Nat) (x0 : ByteArray) (x1 : Int) (x2 : ByteArray) : run cod T (G_spec_l1Many k) (lam L_spec_l1Many k) (cutsOf L_spec_l1Many) 0 (finish cod T false 0 [.tmp 4] D_spec_l1Many) 4000 true (todoAt 5 (bodyOf Try.f77)) (envOf [0, 1, 5] [.lit (.string x0), .lit (.int .i64 x1), .lit (.string x2)]) [] = spec_l1Many_l5 (k + 1) x0 x1 x2 := by kernel_rfl
theorem e_spec_l1Many (k : Nat) (a0 : ByteArray) (a1 : Int) : run cod T (G_spec_l1Many k) (lam L_spec_l1Many k) (cutsOf L_spec_l1Many) 0 (finish cod T false 0 [.tmp 4] D_spec_l1Many) 4000 false [.code (bodyOf Try.f77)] (envOf [0, 1] [.lit (.string a0), .lit (.int .i64 a1)]) [] = spec_l1Many k a0 a1 := by kernel_rfl
theorem ok_spec_l1Many (k : Nat) : SummOk Try.prog cod 77 (S_spec_l1Many k) := by
  refine summ_of (T := T) Try.f77 (G_spec_l1Many) L_spec_l1Many false [.tmp 4] 0 D_spec_l1Many mixed (fun k => Known.of tok eok codOk ?_) (fun k => QuietOk.of ?_) Try.func77 (by kernel_rfl) (by kernel_rfl) (by kernel_rfl) (by kernel_rfl) (by kernel_rfl) ?_ ?_ [] ?_
  · exact all_nil
  · exact all_nil
  · intro v os r h
    unfold D_spec_l1Many at h
    split at h <;> first | (cases h; rfl) | cases h
  · refine all_cons ?_ (all_cons ?_ (all_nil))
    · refine ⟨fun vs os => ?_, by kernel_rfl, fun k vs os r h => ?_⟩
      · show C_spec_l1Many_2.fn 0 vs os = none
        unfold C_spec_l1Many_2; dsimp only; split <;> rfl
      · change C_spec_l1Many_2.fn (k + 1) vs os = some r at h
        unfold C_spec_l1Many_2 at h; dsimp only at h
        split at h
        · exact ⟨4000, (c_spec_l1Many_2 k _ _ _).trans h⟩
        · cases h
    · refine ⟨fun vs os => ?_, by kernel_rfl, fun k vs os r h => ?_⟩
      · show C_spec_l1Many_5.fn 0 vs os = none
        unfold C_spec_l1Many_5; dsimp only; split <;> rfl
      · change C_spec_l1Many_5.fn (k + 1) vs os = some r at h
        unfold C_spec_l1Many_5 at h; dsimp only at h
        split at h
        · exact ⟨4000, (c_spec_l1Many_5 k _ _ _).trans h⟩
        · cases h
  · intro args os r h
    change (S_spec_l1Many k).run args os = some r at h
    unfold S_spec_l1Many at h; dsimp only at h
    split at h
    · exact ⟨Nat.le_of_ble_eq_true (by kernel_rfl), rfl, rfl, k, 4000, (e_spec_l1Many k _ _).trans h⟩
    · cases h
noncomputable def S_spec_l1Message (k : Nat) : Summ K TyK where
  R := ByteArray × DL1Rd
  modes := [.bo]
  run := fun args objs => match args, objs with
    | [.ref 0 0], [.box [.inl false .byte v1, .lit (.int .i64 v2)]] => spec_l1Message k (⟨v1, v2⟩ : DL1Rd)
    | _, _ => none
  ret := fun r => (.lit (.string r.1), [.box [.inl false .byte r.2.b, .lit (.int .i64 r.2.p)]])
  quiet := false
noncomputable def D_spec_l1Message (v : V) (os : Objs K TyK) : Option (ByteArray × DL1Rd) :=
  match v, os with
  | .lit (.string v1), [.box [.inl false .byte v2, .lit (.int .i64 v3)]] => some (v1, (⟨v2, v3⟩ : DL1Rd))
  | _, _ => none
noncomputable def C_spec_l1Message_12 : Cut K TyK (ByteArray × DL1Rd) where
  slots := [0, 3, 4]
  fn := fun k vs os => match vs, os with
    | [.ref 0 0, .lit (.string x0), .lit (.int .i64 x1)], [.box [.inl false .byte x2, .lit (.int .i64 x3)]] => spec_l1Message_l12 k x0 x1 x2 x3
    | _, _ => none
noncomputable abbrev G_spec_l1Message (k : Nat) : FuncId → Option (Summ K TyK) := lookT [(76, S_spec_l1Rd_pick k), (77, S_spec_l1Many k)]
noncomputable abbrev L_spec_l1Message : List (Nat × Cut K TyK (ByteArray × DL1Rd)) := [(12, C_spec_l1Message_12)]
theorem c_spec_l1Message_12 (k : Nat) (x0 : ByteArray) (x1 : Int) (x2 : List Int) (x3 : Int) : run cod T (G_spec_l1Message k) (lam L_spec_l1Message k) (cutsOf L_spec_l1Message) 1 (finish cod T false 1 [.tmp 2] D_spec_l1Message) 4000 true (todoAt 12 (bodyOf Try.f78)) (envOf [0, 3, 4] [.ref 0 0, .lit (.string x0), .lit (.int .i64 x1)]) [.box [.inl false .byte x2, .lit (.int .i64 x3)]] = spec_l1Message_l12 (k + 1) x0 x1 x2 x3 := by kernel_rfl
theorem e_spec_l1Message (k : Nat) (a0 : DL1Rd) : run cod T (G_spec_l1Message k) (lam L_spec_l1Message k) (cutsOf L_spec_l1Message) 1 (finish cod T false 1 [.tmp 2] D_spec_l1Message) 4000 false [.code (bodyOf Try.f78)] (envOf [0] [.ref 0 0]) [.box [.inl false .byte a0.b, .lit (.int .i64 a0.p)]] = spec_l1Message k a0 := by kernel_rfl
theorem ok_spec_l1Message (k : Nat) : SummOk Try.prog cod 78 (S_spec_l1Message k) := by
  refine summ_of (T := T) Try.f78 (G_spec_l1Message) L_spec_l1Message false [.tmp 2] 1 D_spec_l1Message mixed (fun k => Known.of tok eok codOk ?_) (fun k => QuietOk.of ?_) Try.func78 (by kernel_rfl) (by kernel_rfl) (by kernel_rfl) (by kernel_rfl) (by kernel_rfl) ?_ ?_ [false] ?_
  · exact all_cons (ok_spec_l1Rd_pick k) (all_cons (ok_spec_l1Many k) (all_nil))
  · exact all_cons (fun h r => by cases h) (all_cons (fun h r => ⟨rfl, rfl⟩) (all_nil))
  · intro v os r h
    unfold D_spec_l1Message at h
    split at h <;> first | (cases h; rfl) | cases h
  · refine all_cons ?_ (all_nil)
    · refine ⟨fun vs os => ?_, by kernel_rfl, fun k vs os r h => ?_⟩
      · show C_spec_l1Message_12.fn 0 vs os = none
        unfold C_spec_l1Message_12; dsimp only; split <;> rfl
      · change C_spec_l1Message_12.fn (k + 1) vs os = some r at h
        unfold C_spec_l1Message_12 at h; dsimp only at h
        split at h
        · exact ⟨4000, (c_spec_l1Message_12 k _ _ _ _).trans h⟩
        · cases h
  · intro args os r h
    change (S_spec_l1Message k).run args os = some r at h
    unfold S_spec_l1Message at h; dsimp only at h
    split at h
    · exact ⟨Nat.le_of_ble_eq_true (by kernel_rfl), rfl, rfl, k, 4000, (e_spec_l1Message k ⟨_, _⟩).trans h⟩
    · cases h
noncomputable def S_spec_Cut (k : Nat) : Summ K TyK where
  R := List DPart
  modes := [.bo]
  run := fun args objs => match args, objs with
    | [.lit (.string v1)], [] => spec_Cut k v1
    | _, _ => none
  ret := fun r => (.own 0, [.sl .part r])
  quiet := false
noncomputable def D_spec_Cut (v : V) (os : Objs K TyK) : Option (List DPart) :=
  match v, os with
  | .own 0, [.sl .part v1] => some v1
  | _, _ => none
noncomputable def C_spec_Cut_4 : Cut K TyK (List DPart) where
  slots := [0, 3]
  fn := fun k vs os => match vs, os with
    | [.lit (.string x0), .own 0], [.sl .part x1] => spec_Cut_l4 k x0 x1
    | _, _ => none
noncomputable abbrev G_spec_Cut (k : Nat) : FuncId → Option (Summ K TyK) := lookT []
noncomputable abbrev L_spec_Cut : List (Nat × Cut K TyK (List DPart)) := [(4, C_spec_Cut_4)]
theorem c_spec_Cut_4 (k : Nat) (x0 : ByteArray) (x1 : List DPart) : run cod T (G_spec_Cut k) (lam L_spec_Cut k) (cutsOf L_spec_Cut) 0 (finish cod T false 0 [.tmp 2] D_spec_Cut) 4000 true (todoAt 4 (bodyOf Try.f26)) (envOf [0, 3] [.lit (.string x0), .own 0]) [.sl .part x1] = spec_Cut_l4 (k + 1) x0 x1 := by kernel_rfl
theorem e_spec_Cut (k : Nat) (a0 : ByteArray) : run cod T (G_spec_Cut k) (lam L_spec_Cut k) (cutsOf L_spec_Cut) 0 (finish cod T false 0 [.tmp 2] D_spec_Cut) 4000 false [.code (bodyOf Try.f26)] (envOf [0] [.lit (.string a0)]) [] = spec_Cut k a0 := by kernel_rfl
theorem ok_spec_Cut (k : Nat) : SummOk Try.prog cod 26 (S_spec_Cut k) := by
  refine summ_of (T := T) Try.f26 (G_spec_Cut) L_spec_Cut false [.tmp 2] 0 D_spec_Cut mixed (fun k => Known.of tok eok codOk ?_) (fun k => QuietOk.of ?_) Try.func26 (by kernel_rfl) (by kernel_rfl) (by kernel_rfl) (by kernel_rfl) (by kernel_rfl) ?_ ?_ [] ?_
  · exact all_nil
  · exact all_nil
  · intro v os r h
    unfold D_spec_Cut at h
    split at h <;> first | (cases h; rfl) | cases h
  · refine all_cons ?_ (all_nil)
    · refine ⟨fun vs os => ?_, by kernel_rfl, fun k vs os r h => ?_⟩
      · show C_spec_Cut_4.fn 0 vs os = none
        unfold C_spec_Cut_4; dsimp only; split <;> rfl
      · change C_spec_Cut_4.fn (k + 1) vs os = some r at h
        unfold C_spec_Cut_4 at h; dsimp only at h
        split at h
        · exact ⟨4000, (c_spec_Cut_4 k _ _).trans h⟩
        · cases h
  · intro args os r h
    change (S_spec_Cut k).run args os = some r at h
    unfold S_spec_Cut at h; dsimp only at h
    split at h
    · exact ⟨Nat.le_of_ble_eq_true (by kernel_rfl), rfl, rfl, k, 4000, (e_spec_Cut k _).trans h⟩
    · cases h
noncomputable def S_spec_l1In (k : Nat) : Summ K TyK where
  R := Bool
  modes := [.bo, .bo, .bo]
  run := fun args objs => match args, objs with
    | [.lit (.int .i64 v1), .lit (.int .i64 v2), .lit (.int .i64 v3)], [] => spec_l1In k v1 v2 v3
    | _, _ => none
  ret := fun r => (.lit (.bool r), [])
  quiet := true
noncomputable def D_spec_l1In (v : V) (os : Objs K TyK) : Option (Bool) :=
  match v, os with
  | .lit (.bool v1), [] => some v1
  | _, _ => none
noncomputable abbrev G_spec_l1In (k : Nat) : FuncId → Option (Summ K TyK) := lookT []
noncomputable abbrev L_spec_l1In : List (Nat × Cut K TyK (Bool)) := []
theorem e_spec_l1In (k : Nat) (a0 : Int) (a1 : Int) (a2 : Int) : run cod T (G_spec_l1In k) (lam L_spec_l1In k) (cutsOf L_spec_l1In) 0 (finish cod T false 0 [.tmp 6] D_spec_l1In) 4000 false [.code (bodyOf Try.f79)] (envOf [0, 1, 2] [.lit (.int .i64 a0), .lit (.int .i64 a1), .lit (.int .i64 a2)]) [] = spec_l1In k a0 a1 a2 := by kernel_rfl
theorem ok_spec_l1In (k : Nat) : SummOk Try.prog cod 79 (S_spec_l1In k) := by
  refine summ_of (T := T) Try.f79 (G_spec_l1In) L_spec_l1In false [.tmp 6] 0 D_spec_l1In mixed (fun k => Known.of tok eok codOk ?_) (fun k => QuietOk.of ?_) Try.func79 (by kernel_rfl) (by kernel_rfl) (by kernel_rfl) (by kernel_rfl) (by kernel_rfl) ?_ ?_ [] ?_
  · exact all_nil
  · exact all_nil
  · intro v os r h
    unfold D_spec_l1In at h
    split at h <;> first | (cases h; rfl) | cases h
  · refine all_nil
  · intro args os r h
    change (S_spec_l1In k).run args os = some r at h
    unfold S_spec_l1In at h; dsimp only at h
    split at h
    · exact ⟨Nat.le_of_ble_eq_true (by kernel_rfl), rfl, rfl, k, 4000, (e_spec_l1In k _ _ _).trans h⟩
    · cases h
noncomputable def S_impl_in (k : Nat) : Summ K TyK where
  R := Bool
  modes := [.bo, .bo, .bo]
  run := fun args objs => match args, objs with
    | [.lit (.int .i64 v1), .lit (.int .i64 v2), .lit (.int .i64 v3)], [] => impl_in k v1 v2 v3
    | _, _ => none
  ret := fun r => (.lit (.bool r), [])
  quiet := true
noncomputable def D_impl_in (v : V) (os : Objs K TyK) : Option (Bool) :=
  match v, os with
  | .lit (.bool v1), [] => some v1
  | _, _ => none
noncomputable abbrev G_impl_in (k : Nat) : FuncId → Option (Summ K TyK) := lookT []
noncomputable abbrev L_impl_in : List (Nat × Cut K TyK (Bool)) := []
theorem e_impl_in (k : Nat) (a0 : Int) (a1 : Int) (a2 : Int) : run cod T (G_impl_in k) (lam L_impl_in k) (cutsOf L_impl_in) 0 (finish cod T false 0 [.tmp 6] D_impl_in) 4000 false [.code (bodyOf Try.f89)] (envOf [0, 1, 2] [.lit (.int .i64 a0), .lit (.int .i64 a1), .lit (.int .i64 a2)]) [] = impl_in k a0 a1 a2 := by kernel_rfl
theorem ok_impl_in (k : Nat) : SummOk Try.prog cod 89 (S_impl_in k) := by
  refine summ_of (T := T) Try.f89 (G_impl_in) L_impl_in false [.tmp 6] 0 D_impl_in mixed (fun k => Known.of tok eok codOk ?_) (fun k => QuietOk.of ?_) Try.func89 (by kernel_rfl) (by kernel_rfl) (by kernel_rfl) (by kernel_rfl) (by kernel_rfl) ?_ ?_ [] ?_
  · exact all_nil
  · exact all_nil
  · intro v os r h
    unfold D_impl_in at h
    split at h <;> first | (cases h; rfl) | cases h
  · refine all_nil
  · intro args os r h
    change (S_impl_in k).run args os = some r at h
    unfold S_impl_in at h; dsimp only at h
    split at h
    · exact ⟨Nat.le_of_ble_eq_true (by kernel_rfl), rfl, rfl, k, 4000, (e_impl_in k _ _ _).trans h⟩
    · cases h
noncomputable def S_spec_ValidSend (k : Nat) : Summ K TyK where
  R := Bool
  modes := [.bo]
  run := fun args objs => match args, objs with
    | [.agg [.lit (.int .i64 v1), .inl true .item v2]], [] => spec_ValidSend k (⟨v1, v2⟩ : DSend)
    | _, _ => none
  ret := fun r => (.lit (.bool r), [])
  quiet := true
noncomputable def D_spec_ValidSend (v : V) (os : Objs K TyK) : Option (Bool) :=
  match v, os with
  | .lit (.bool v1), [] => some v1
  | _, _ => none
noncomputable def C_spec_ValidSend_4 : Cut K TyK (Bool) where
  slots := [1, 3]
  fn := fun k vs os => match vs, os with
    | [.ref 0 0, .lit (.int .i64 x0)], [.box [.lit (.int .i64 x1), .inl true .item x2]] => spec_ValidSend_l4 k x0 x1 x2
    | _, _ => none
noncomputable abbrev G_spec_ValidSend (k : Nat) : FuncId → Option (Summ K TyK) := lookT [(79, S_spec_l1In k)]
noncomputable abbrev L_spec_ValidSend : List (Nat × Cut K TyK (Bool)) := [(4, C_spec_ValidSend_4)]
theorem c_spec_ValidSend_4 (k : Nat) (x0 : Int) (x1 : Int) (x2 : List DItem) : run cod T (G_spec_ValidSend k) (lam L_spec_ValidSend k) (cutsOf L_spec_ValidSend) 0 (finish cod T false 0 [.tmp 2] D_spec_ValidSend) 4000 true (todoAt 4 (bodyOf Try.f64)) (envOf [1, 3] [.ref 0 0, .lit (.int .i64 x0)]) [.box [.lit (.int .i64 x1), .inl true .item x2]] = spec_ValidSend_l4 (k + 1) x0 x1 x2 := by kernel_rfl
theorem e_spec_ValidSend (k : Nat) (a0 : DSend) : run cod T (G_spec_ValidSend k) (lam L_spec_ValidSend k) (cutsOf L_spec_ValidSend) 0 (finish cod T false 0 [.tmp 2] D_spec_ValidSend) 4000 false [.code (bodyOf Try.f64)] (envOf [0] [.agg [.lit (.int .i64 a0.Base), .inl true .item a0.Items]]) [] = spec_ValidSend k a0 := by kernel_rfl
theorem ok_spec_ValidSend (k : Nat) : SummOk Try.prog cod 64 (S_spec_ValidSend k) := by
  refine summ_of (T := T) Try.f64 (G_spec_ValidSend) L_spec_ValidSend false [.tmp 2] 0 D_spec_ValidSend mixed (fun k => Known.of tok eok codOk ?_) (fun k => QuietOk.of ?_) Try.func64 (by kernel_rfl) (by kernel_rfl) (by kernel_rfl) (by kernel_rfl) (by kernel_rfl) ?_ ?_ [] ?_
  · exact all_cons (ok_spec_l1In k) (all_nil)
  · exact all_cons (fun h r => ⟨rfl, rfl⟩) (all_nil)
  · intro v os r h
    unfold D_spec_ValidSend at h
    split at h <;> first | (cases h; rfl) | cases h
  · refine all_cons ?_ (all_nil)
    · refine ⟨fun vs os => ?_, by kernel_rfl, fun k vs os r h => ?_⟩
      · show C_spec_ValidSend_4.fn 0 vs os = none
        unfold C_spec_ValidSend_4; dsimp only; split <;> rfl
      · change C_spec_ValidSend_4.fn (k + 1) vs os = some r at h
        unfold C_spec_ValidSend_4 at h; dsimp only at h
        split at h
        · exact ⟨4000, (c_spec_ValidSend_4 k _ _ _).trans h⟩
        · cases h
  · intro args os r h
    change (S_spec_ValidSend k).run args os = some r at h
    unfold S_spec_ValidSend at h; dsimp only at h
    split at h
    · exact ⟨Nat.le_of_ble_eq_true (by kernel_rfl), rfl, rfl, k, 4000, (e_spec_ValidSend k ⟨_, _⟩).trans h⟩
    · cases h
noncomputable def S_spec_l4Copy (k : Nat) : Summ K TyK where
  R := DSend
  modes := [.bo]
  run := fun args objs => match args, objs with
    | [.agg [.lit (.int .i64 v1), .inl true .item v2]], [] => spec_l4Copy k (⟨v1, v2⟩ : DSend)
    | _, _ => none
  ret := fun r => (.agg [.lit (.int .i64 r.Base), .own 0], [.sl .item r.Items])
  quiet := false
noncomputable def D_spec_l4Copy (v : V) (os : Objs K TyK) : Option (DSend) :=
  match v, os with
  | .agg [.lit (.int .i64 v1), .own 0], [.sl .item v2] => some (⟨v1, v2⟩ : DSend)
  | _, _ => none
noncomputable abbrev G_spec_l4Copy (k : Nat) : FuncId → Option (Summ K TyK) := lookT []
noncomputable abbrev L_spec_l4Copy : List (Nat × Cut K TyK (DSend)) := []
theorem e_spec_l4Copy (k : Nat) (a0 : DSend) : run cod T (G_spec_l4Copy k) (lam L_spec_l4Copy k) (cutsOf L_spec_l4Copy) 0 (finish cod T false 0 [.cell 2 69] D_spec_l4Copy) 4000 false [.code (bodyOf Try.f95)] (envOf [0] [.agg [.lit (.int .i64 a0.Base), .inl true .item a0.Items]]) [] = spec_l4Copy k a0 := by kernel_rfl
theorem ok_spec_l4Copy (k : Nat) : SummOk Try.prog cod 95 (S_spec_l4Copy k) := by
  refine summ_of (T := T) Try.f95 (G_spec_l4Copy) L_spec_l4Copy false [.cell 2 69] 0 D_spec_l4Copy mixed (fun k => Known.of tok eok codOk ?_) (fun k => QuietOk.of ?_) Try.func95 (by kernel_rfl) (by kernel_rfl) (by kernel_rfl) (by kernel_rfl) (by kernel_rfl) ?_ ?_ [] ?_
  · exact all_nil
  · exact all_nil
  · intro v os r h
    unfold D_spec_l4Copy at h
    split at h <;> first | (cases h; rfl) | cases h
  · refine all_nil
  · intro args os r h
    change (S_spec_l4Copy k).run args os = some r at h
    unfold S_spec_l4Copy at h; dsimp only at h
    split at h
    · exact ⟨Nat.le_of_ble_eq_true (by kernel_rfl), rfl, rfl, k, 4000, (e_spec_l4Copy k ⟨_, _⟩).trans h⟩
    · cases h
noncomputable def S_spec_l4Front (k : Nat) : Summ K TyK where
  R := Int
  modes := [.bo]
  run := fun args objs => match args, objs with
    | [.agg [.lit (.int .i64 v1), .inl true .item v2]], [] => spec_l4Front k (⟨v1, v2⟩ : DSend)
    | _, _ => none
  ret := fun r => (.lit (.int .i64 r), [])
  quiet := true
noncomputable def D_spec_l4Front (v : V) (os : Objs K TyK) : Option (Int) :=
  match v, os with
  | .lit (.int .i64 v1), [] => some v1
  | _, _ => none
noncomputable def C_spec_l4Front_2 : Cut K TyK (Int) where
  slots := [1, 3]
  fn := fun k vs os => match vs, os with
    | [.ref 0 0, .lit (.int .i64 x0)], [.box [.lit (.int .i64 x1), .inl true .item x2]] => spec_l4Front_l2 k x0 x1 x2
    | _, _ => none
noncomputable abbrev G_spec_l4Front (k : Nat) : FuncId → Option (Summ K TyK) := lookT []
noncomputable abbrev L_spec_l4Front : List (Nat × Cut K TyK (Int)) := [(2, C_spec_l4Front_2)]
theorem c_spec_l4Front_2 (k : Nat) (x0 : Int) (x1 : Int) (x2 : List DItem) : run cod T (G_spec_l4Front k) (lam L_spec_l4Front k) (cutsOf L_spec_l4Front) 0 (finish cod T false 0 [.tmp 2] D_spec_l4Front) 4000 true (todoAt 2 (bodyOf Try.f96)) (envOf [1, 3] [.ref 0 0, .lit (.int .i64 x0)]) [.box [.lit (.int .i64 x1), .inl true .item x2]] = spec_l4Front_l2 (k + 1) x0 x1 x2 := by kernel_rfl
theorem e_spec_l4Front (k : Nat) (a0 : DSend) : run cod T (G_spec_l4Front k) (lam L_spec_l4Front k) (cutsOf L_spec_l4Front) 0 (finish cod T false 0 [.tmp 2] D_spec_l4Front) 4000 false [.code (bodyOf Try.f96)] (envOf [0] [.agg [.lit (.int .i64 a0.Base), .inl true .item a0.Items]]) [] = spec_l4Front k a0 := by kernel_rfl
theorem ok_spec_l4Front (k : Nat) : SummOk Try.prog cod 96 (S_spec_l4Front k) := by
  refine summ_of (T := T) Try.f96 (G_spec_l4Front) L_spec_l4Front false [.tmp 2] 0 D_spec_l4Front mixed (fun k => Known.of tok eok codOk ?_) (fun k => QuietOk.of ?_) Try.func96 (by kernel_rfl) (by kernel_rfl) (by kernel_rfl) (by kernel_rfl) (by kernel_rfl) ?_ ?_ [] ?_
  · exact all_nil
  · exact all_nil
  · intro v os r h
    unfold D_spec_l4Front at h
    split at h <;> first | (cases h; rfl) | cases h
  · refine all_cons ?_ (all_nil)
    · refine ⟨fun vs os => ?_, by kernel_rfl, fun k vs os r h => ?_⟩
      · show C_spec_l4Front_2.fn 0 vs os = none
        unfold C_spec_l4Front_2; dsimp only; split <;> rfl
      · change C_spec_l4Front_2.fn (k + 1) vs os = some r at h
        unfold C_spec_l4Front_2 at h; dsimp only at h
        split at h
        · exact ⟨4000, (c_spec_l4Front_2 k _ _ _).trans h⟩
        · cases h
  · intro args os r h
    change (S_spec_l4Front k).run args os = some r at h
    unfold S_spec_l4Front at h; dsimp only at h
    split at h
    · exact ⟨Nat.le_of_ble_eq_true (by kernel_rfl), rfl, rfl, k, 4000, (e_spec_l4Front k ⟨_, _⟩).trans h⟩
    · cases h
noncomputable def S_spec_SendWord (k : Nat) : Summ K TyK where
  R := DSend
  modes := [.bo, .bo, .bo]
  run := fun args objs => match args, objs with
    | [.agg [.lit (.int .i64 v1), .inl true .item v2], .lit (.int .i64 v3), .lit (.int .i64 v4)], [] => spec_SendWord k (⟨v1, v2⟩ : DSend) v3 v4
    | _, _ => none
  ret := fun r => (.agg [.lit (.int .i64 r.Base), .own 0], [.sl .item r.Items])
  quiet := false
noncomputable def D_spec_SendWord (v : V) (os : Objs K TyK) : Option (DSend) :=
  match v, os with
  | .agg [.lit (.int .i64 v1), .own 0], [.sl .item v2] => some (⟨v1, v2⟩ : DSend)
  | _, _ => none
noncomputable def C_spec_SendWord_9 : Cut K TyK (DSend) where
  slots := [2, 6, 7, 8]
  fn := fun k vs os => match vs, os with
    | [.lit (.int .i64 x0), .ref 0 0, .ref 1 0, .lit (.int .i64 x1)], [.box [.lit (.int .i64 x2), .own 2], .box [.lit (.int .i64 x3), .own 3], .sl .item x4, .sl .item x5] => spec_SendWord_l9 k x0 x1 x2 x3 x4 x5
    | _, _ => none
noncomputable def C_spec_SendWord_13 : Cut K TyK (DSend) where
  slots := [2, 6, 7, 8]
  fn := fun k vs os => match vs, os with
    | [.lit (.int .i64 x0), .ref 0 0, .ref 1 0, .lit (.int .i64 x1)], [.box [.lit (.int .i64 x2), .own 2], .box [.lit (.int .i64 x3), .own 3], .sl .item x4, .sl .item x5] => spec_SendWord_l13 k x0 x1 x2 x3 x4 x5
    | _, _ => none
noncomputable abbrev G_spec_SendWord (k : Nat) : FuncId → Option (Summ K TyK) := lookT [(64, S_spec_ValidSend k), (95, S_spec_l4Copy k), (96, S_spec_l4Front k), (79, S_spec_l1In k)]
noncomputable abbrev L_spec_SendWord : List (Nat × Cut K TyK (DSend)) := [(9, C_spec_SendWord_9), (13, C_spec_SendWord_13)]
theorem c_spec_SendWord_9 (k : Nat) (x0 : Int) (x1 : Int) (x2 : Int) (x3 : Int) (x4 : List DItem) (x5 : List DItem) : run cod T (G_spec_SendWord k) (lam L_spec_SendWord k) (cutsOf L_spec_SendWord) 0 (finish cod T false 0 [.cell 6 69] D_spec_SendWord) 4000 true (todoAt 9 (bodyOf Try.f44)) (envOf [2, 6, 7, 8] [.lit (.int .i64 x0), .ref 0 0, .ref 1 0, .lit (.int .i64 x1)]) [.box [.lit (.int .i64 x2), .own 2], .box [.lit (.int .i64 x3), .own 3], .sl .item x4, .sl .item x5] = spec_SendWord_l9 (k + 1) x0 x1 x2 x3 x4 x5 := by kernel_rfl
theorem c_spec_SendWord_13 (k : Nat) (x0 : Int) (x1 : Int) (x2 : Int) (x3 : Int) (x4 : List DItem) (x5 : List DItem) : run cod T (G_spec_SendWord k) (lam L_spec_SendWord k) (cutsOf L_spec_SendWord) 0 (finish cod T false 0 [.cell 6 69] D_spec_SendWord) 4000 true (todoAt 13 (bodyOf Try.f44)) (envOf [2, 6, 7, 8] [.lit (.int .i64 x0), .ref 0 0, .ref 1 0, .lit (.int .i64 x1)]) [.box [.lit (.int .i64 x2), .own 2], .box [.lit (.int .i64 x3), .own 3], .sl .item x4, .sl .item x5] = spec_SendWord_l13 (k + 1) x0 x1 x2 x3 x4 x5 := by kernel_rfl
theorem e_spec_SendWord (k : Nat) (a0 : DSend) (a1 : Int) (a2 : Int) : run cod T (G_spec_SendWord k) (lam L_spec_SendWord k) (cutsOf L_spec_SendWord) 0 (finish cod T false 0 [.cell 6 69] D_spec_SendWord) 4000 false [.code (bodyOf Try.f44)] (envOf [0, 1, 2] [.agg [.lit (.int .i64 a0.Base), .inl true .item a0.Items], .lit (.int .i64 a1), .lit (.int .i64 a2)]) [] = spec_SendWord k a0 a1 a2 := by kernel_rfl
theorem ok_spec_SendWord (k : Nat) : SummOk Try.prog cod 44 (S_spec_SendWord k) := by
  refine summ_of (T := T) Try.f44 (G_spec_SendWord) L_spec_SendWord false [.cell 6 69] 0 D_spec_SendWord mixed (fun k => Known.of tok eok codOk ?_) (fun k => QuietOk.of ?_) Try.func44 (by kernel_rfl) (by kernel_rfl) (by kernel_rfl) (by kernel_rfl) (by kernel_rfl) ?_ ?_ [] ?_
  · exact all_cons (ok_spec_ValidSend k) (all_cons (ok_spec_l4Copy k) (all_cons (ok_spec_l4Front k) (all_cons (ok_spec_l1In k) (all_nil))))
  · exact all_cons (fun h r => ⟨rfl, rfl⟩) (all_cons (fun h r => by cases h) (all_cons (fun h r => ⟨rfl, rfl⟩) (all_cons (fun h r => ⟨rfl, rfl⟩) (all_nil))))
  · intro v os r h
    unfold D_spec_SendWord at h
    split at h <;> first | (cases h; rfl) | cases h
  · refine all_cons ?_ (all_cons ?_ (all_nil))
    · refine ⟨fun vs os => ?_, by kernel_rfl, fun k vs os r h => ?_⟩
      · show C_spec_SendWord_9.fn 0 vs os = none
        unfold C_spec_SendWord_9; dsimp only; split <;> rfl
      · change C_spec_SendWord_9.fn (k + 1) vs os = some r at h
        unfold C_spec_SendWord_9 at h; dsimp only at h
        split at h
        · exact ⟨4000, (c_spec_SendWord_9 k _ _ _ _ _ _).trans h⟩
        · cases h
    · refine ⟨fun vs os => ?_, by kernel_rfl, fun k vs os r h => ?_⟩
      · show C_spec_SendWord_13.fn 0 vs os = none
        unfold C_spec_SendWord_13; dsimp only; split <;> rfl
      · change C_spec_SendWord_13.fn (k + 1) vs os = some r at h
        unfold C_spec_SendWord_13 at h; dsimp only at h
        split at h
        · exact ⟨4000, (c_spec_SendWord_13 k _ _ _ _ _ _).trans h⟩
        · cases h
  · intro args os r h
    change (S_spec_SendWord k).run args os = some r at h
    unfold S_spec_SendWord at h; dsimp only at h
    split at h
    · exact ⟨Nat.le_of_ble_eq_true (by kernel_rfl), rfl, rfl, k, 4000, (e_spec_SendWord k ⟨_, _⟩ _ _).trans h⟩
    · cases h
noncomputable def S_impl_ValidSend (k : Nat) : Summ K TyK where
  R := Bool
  modes := [.bo]
  run := fun args objs => match args, objs with
    | [.agg [.lit (.int .i64 v1), .inl true .item v2]], [] => impl_ValidSend k (⟨v1, v2⟩ : DSend)
    | _, _ => none
  ret := fun r => (.lit (.bool r), [])
  quiet := true
noncomputable def D_impl_ValidSend (v : V) (os : Objs K TyK) : Option (Bool) :=
  match v, os with
  | .lit (.bool v1), [] => some v1
  | _, _ => none
noncomputable def C_impl_ValidSend_4 : Cut K TyK (Bool) where
  slots := [25, 26, 27]
  fn := fun k vs os => match vs, os with
    | [.inl true .item x0, .lit (.int .i64 x1), .lit (.int .i64 x2)], [] => impl_ValidSend_l4 k x0 x1 x2
    | _, _ => none
noncomputable abbrev G_impl_ValidSend (k : Nat) : FuncId → Option (Summ K TyK) := lookT [(89, S_impl_in k)]
noncomputable abbrev L_impl_ValidSend : List (Nat × Cut K TyK (Bool)) := [(4, C_impl_ValidSend_4)]
theorem c_impl_ValidSend_4 (k : Nat) (x0 : List DItem) (x1 : Int) (x2 : Int) : run cod T (G_impl_ValidSend k) (lam L_impl_ValidSend k) (cutsOf L_impl_ValidSend) 0 (finish cod T false 0 [.tmp 2] D_impl_ValidSend) 4000 true (todoAt 4 (bodyOf Try.f65)) (envOf [25, 26, 27] [.inl true .item x0, .lit (.int .i64 x1), .lit (.int .i64 x2)]) [] = impl_ValidSend_l4 (k + 1) x0 x1 x2 := by kernel_rfl
theorem e_impl_ValidSend (k : Nat) (a0 : DSend) : run cod T (G_impl_ValidSend k) (lam L_impl_ValidSend k) (cutsOf L_impl_ValidSend) 0 (finish cod T false 0 [.tmp 2] D_impl_ValidSend) 4000 false [.code (bodyOf Try.f65)] (envOf [0] [.agg [.lit (.int .i64 a0.Base), .inl true .item a0.Items]]) [] = impl_ValidSend k a0 := by kernel_rfl
theorem ok_impl_ValidSend (k : Nat) : SummOk Try.prog cod 65 (S_impl_ValidSend k) := by
  refine summ_of (T := T) Try.f65 (G_impl_ValidSend) L_impl_ValidSend false [.tmp 2] 0 D_impl_ValidSend mixed (fun k => Known.of tok eok codOk ?_) (fun k => QuietOk.of ?_) Try.func65 (by kernel_rfl) (by kernel_rfl) (by kernel_rfl) (by kernel_rfl) (by kernel_rfl) ?_ ?_ [] ?_
  · exact all_cons (ok_impl_in k) (all_nil)
  · exact all_cons (fun h r => ⟨rfl, rfl⟩) (all_nil)
  · intro v os r h
    unfold D_impl_ValidSend at h
    split at h <;> first | (cases h; rfl) | cases h
  · refine all_cons ?_ (all_nil)
    · refine ⟨fun vs os => ?_, by kernel_rfl, fun k vs os r h => ?_⟩
      · show C_impl_ValidSend_4.fn 0 vs os = none
        unfold C_impl_ValidSend_4; dsimp only; split <;> rfl
      · change C_impl_ValidSend_4.fn (k + 1) vs os = some r at h
        unfold C_impl_ValidSend_4 at h; dsimp only at h
        split at h
        · exact ⟨4000, (c_impl_ValidSend_4 k _ _ _).trans h⟩
        · cases h
  · intro args os r h
    change (S_impl_ValidSend k).run args os = some r at h
    unfold S_impl_ValidSend at h; dsimp only at h
    split at h
    · exact ⟨Nat.le_of_ble_eq_true (by kernel_rfl), rfl, rfl, k, 4000, (e_impl_ValidSend k ⟨_, _⟩).trans h⟩
    · cases h
noncomputable def S_impl_copySend (k : Nat) : Summ K TyK where
  R := DSend
  modes := [.bo]
  run := fun args objs => match args, objs with
    | [.agg [.lit (.int .i64 v1), .inl true .item v2]], [] => impl_copySend k (⟨v1, v2⟩ : DSend)
    | _, _ => none
  ret := fun r => (.agg [.lit (.int .i64 r.Base), .own 0], [.sl .item r.Items])
  quiet := false
noncomputable def D_impl_copySend (v : V) (os : Objs K TyK) : Option (DSend) :=
  match v, os with
  | .agg [.lit (.int .i64 v1), .own 0], [.sl .item v2] => some (⟨v1, v2⟩ : DSend)
  | _, _ => none
noncomputable abbrev G_impl_copySend (k : Nat) : FuncId → Option (Summ K TyK) := lookT []
noncomputable abbrev L_impl_copySend : List (Nat × Cut K TyK (DSend)) := []
theorem e_impl_copySend (k : Nat) (a0 : DSend) : run cod T (G_impl_copySend k) (lam L_impl_copySend k) (cutsOf L_impl_copySend) 0 (finish cod T false 0 [.cell 2 69] D_impl_copySend) 4000 false [.code (bodyOf Try.f98)] (envOf [0] [.agg [.lit (.int .i64 a0.Base), .inl true .item a0.Items]]) [] = impl_copySend k a0 := by kernel_rfl
theorem ok_impl_copySend (k : Nat) : SummOk Try.prog cod 98 (S_impl_copySend k) := by
  refine summ_of (T := T) Try.f98 (G_impl_copySend) L_impl_copySend false [.cell 2 69] 0 D_impl_copySend mixed (fun k => Known.of tok eok codOk ?_) (fun k => QuietOk.of ?_) Try.func98 (by kernel_rfl) (by kernel_rfl) (by kernel_rfl) (by kernel_rfl) (by kernel_rfl) ?_ ?_ [] ?_
  · exact all_nil
  · exact all_nil
  · intro v os r h
    unfold D_impl_copySend at h
    split at h <;> first | (cases h; rfl) | cases h
  · refine all_nil
  · intro args os r h
    change (S_impl_copySend k).run args os = some r at h
    unfold S_impl_copySend at h; dsimp only at h
    split at h
    · exact ⟨Nat.le_of_ble_eq_true (by kernel_rfl), rfl, rfl, k, 4000, (e_impl_copySend k ⟨_, _⟩).trans h⟩
    · cases h
noncomputable def S_impl_SendWord (k : Nat) : Summ K TyK where
  R := DSend
  modes := [.bo, .bo, .bo]
  run := fun args objs => match args, objs with
    | [.agg [.lit (.int .i64 v1), .inl true .item v2], .lit (.int .i64 v3), .lit (.int .i64 v4)], [] => impl_SendWord k (⟨v1, v2⟩ : DSend) v3 v4
    | _, _ => none
  ret := fun r => (.agg [.lit (.int .i64 r.Base), .own 0], [.sl .item r.Items])
  quiet := false
noncomputable def D_impl_SendWord (v : V) (os : Objs K TyK) : Option (DSend) :=
  match v, os with
  | .agg [.lit (.int .i64 v1), .own 0], [.sl .item v2] => some (⟨v1, v2⟩ : DSend)
  | _, _ => none
noncomputable def C_impl_SendWord_5 : Cut K TyK (DSend) where
  slots := [1, 2, 6, 7, 8]
  fn := fun k vs os => match vs, os with
    | [.lit (.int .i64 x0), .lit (.int .i64 x1), .ref 0 0, .ref 1 0, .lit (.int .i64 x2)], [.box [.lit (.int .i64 x3), .own 2], .box [.lit (.int .i64 x4), .own 3], .sl .item x5, .sl .item x6] => impl_SendWord_l5 k x0 x1 x2 x3 x4 x5 x6
    | _, _ => none
noncomputable def C_impl_SendWord_12 : Cut K TyK (DSend) where
  slots := [2, 6, 7, 9]
  fn := fun k vs os => match vs, os with
    | [.lit (.int .i64 x0), .ref 0 0, .ref 1 0, .lit (.int .i64 x1)], [.box [.lit (.int .i64 x2), .own 2], .box [.lit (.int .i64 x3), .own 3], .sl .item x4, .sl .item x5] => impl_SendWord_l12 k x0 x1 x2 x3 x4 x5
    | _, _ => none
noncomputable def C_impl_SendWord_13 : Cut K TyK (DSend) where
  slots := [2, 6, 7, 9]
  fn := fun k vs os => match vs, os with
    | [.lit (.int .i64 x0), .ref 0 0, .ref 1 0, .lit (.int .i64 x1)], [.box [.lit (.int .i64 x2), .own 2], .box [.lit (.int .i64 x3), .own 3], .sl .item x4, .sl .item x5] => impl_SendWord_l13 k x0 x1 x2 x3 x4 x5
    | _, _ => none
noncomputable abbrev G_impl_SendWord (k : Nat) : FuncId → Option (Summ K TyK) := lookT [(65, S_impl_ValidSend k), (98, S_impl_copySend k), (89, S_impl_in k)]
noncomputable abbrev L_impl_SendWord : List (Nat × Cut K TyK (DSend)) := [(5, C_impl_SendWord_5), (12, C_impl_SendWord_12), (13, C_impl_SendWord_13)]
theorem c_impl_SendWord_5 (k : Nat) (x0 : Int) (x1 : Int) (x2 : Int) (x3 : Int) (x4 : Int) (x5 : List DItem) (x6 : List DItem) : run cod T (G_impl_SendWord k) (lam L_impl_SendWord k) (cutsOf L_impl_SendWord) 0 (finish cod T false 0 [.cell 6 69] D_impl_SendWord) 4000 true (todoAt 5 (bodyOf Try.f46)) (envOf [1, 2, 6, 7, 8] [.lit (.int .i64 x0), .lit (.int .i64 x1), .ref 0 0, .ref 1 0, .lit (.int .i64 x2)]) [.box [.lit (.int .i64 x3), .own 2], .box [.lit (.int .i64 x4), .own 3], .sl .item x5, .sl .item x6] = impl_SendWord_l5 (k + 1) x0 x1 x2 x3 x4 x5 x6 := by kernel_rfl
theorem c_impl_SendWord_12 (k : Nat) (x0 : Int) (x1 : Int) (x2 : Int) (x3 : Int) (x4 : List DItem) (x5 : List DItem) : run cod T (G_impl_SendWord k) (lam L_impl_SendWord k) (cutsOf L_impl_SendWord) 0 (finish cod T false 0 [.cell 6 69] D_impl_SendWord) 4000 true (todoAt 12 (bodyOf Try.f46)) (envOf [2, 6, 7, 9] [.lit (.int .i64 x0), .ref 0 0, .ref 1 0, .lit (.int .i64 x1)]) [.box [.lit (.int .i64 x2), .own 2], .box [.lit (.int .i64 x3), .own 3], .sl .item x4, .sl .item x5] = impl_SendWord_l12 (k + 1) x0 x1 x2 x3 x4 x5 := by kernel_rfl
theorem c_impl_SendWord_13 (k : Nat) (x0 : Int) (x1 : Int) (x2 : Int) (x3 : Int) (x4 : List DItem) (x5 : List DItem) : run cod T (G_impl_SendWord k) (lam L_impl_SendWord k) (cutsOf L_impl_SendWord) 0 (finish cod T false 0 [.cell 6 69] D_impl_SendWord) 4000 true (todoAt 13 (bodyOf Try.f46)) (envOf [2, 6, 7, 9] [.lit (.int .i64 x0), .ref 0 0, .ref 1 0, .lit (.int .i64 x1)]) [.box [.lit (.int .i64 x2), .own 2], .box [.lit (.int .i64 x3), .own 3], .sl .item x4, .sl .item x5] = impl_SendWord_l13 (k + 1) x0 x1 x2 x3 x4 x5 := by kernel_rfl
theorem e_impl_SendWord (k : Nat) (a0 : DSend) (a1 : Int) (a2 : Int) : run cod T (G_impl_SendWord k) (lam L_impl_SendWord k) (cutsOf L_impl_SendWord) 0 (finish cod T false 0 [.cell 6 69] D_impl_SendWord) 4000 false [.code (bodyOf Try.f46)] (envOf [0, 1, 2] [.agg [.lit (.int .i64 a0.Base), .inl true .item a0.Items], .lit (.int .i64 a1), .lit (.int .i64 a2)]) [] = impl_SendWord k a0 a1 a2 := by kernel_rfl
theorem ok_impl_SendWord (k : Nat) : SummOk Try.prog cod 46 (S_impl_SendWord k) := by
  refine summ_of (T := T) Try.f46 (G_impl_SendWord) L_impl_SendWord false [.cell 6 69] 0 D_impl_SendWord mixed (fun k => Known.of tok eok codOk ?_) (fun k => QuietOk.of ?_) Try.func46 (by kernel_rfl) (by kernel_rfl) (by kernel_rfl) (by kernel_rfl) (by kernel_rfl) ?_ ?_ [] ?_
  · exact all_cons (ok_impl_ValidSend k) (all_cons (ok_impl_copySend k) (all_cons (ok_impl_in k) (all_nil)))
  · exact all_cons (fun h r => ⟨rfl, rfl⟩) (all_cons (fun h r => by cases h) (all_cons (fun h r => ⟨rfl, rfl⟩) (all_nil)))
  · intro v os r h
    unfold D_impl_SendWord at h
    split at h <;> first | (cases h; rfl) | cases h
  · refine all_cons ?_ (all_cons ?_ (all_cons ?_ (all_nil)))
    · refine ⟨fun vs os => ?_, by kernel_rfl, fun k vs os r h => ?_⟩
      · show C_impl_SendWord_5.fn 0 vs os = none
        unfold C_impl_SendWord_5; dsimp only; split <;> rfl
      · change C_impl_SendWord_5.fn (k + 1) vs os = some r at h
        unfold C_impl_SendWord_5 at h; dsimp only at h
        split at h
        · exact ⟨4000, (c_impl_SendWord_5 k _ _ _ _ _ _ _).trans h⟩
        · cases h
    · refine ⟨fun vs os => ?_, by kernel_rfl, fun k vs os r h => ?_⟩
      · show C_impl_SendWord_12.fn 0 vs os = none
        unfold C_impl_SendWord_12; dsimp only; split <;> rfl
      · change C_impl_SendWord_12.fn (k + 1) vs os = some r at h
        unfold C_impl_SendWord_12 at h; dsimp only at h
        split at h
        · exact ⟨4000, (c_impl_SendWord_12 k _ _ _ _ _ _).trans h⟩
        · cases h
    · refine ⟨fun vs os => ?_, by kernel_rfl, fun k vs os r h => ?_⟩
      · show C_impl_SendWord_13.fn 0 vs os = none
        unfold C_impl_SendWord_13; dsimp only; split <;> rfl
      · change C_impl_SendWord_13.fn (k + 1) vs os = some r at h
        unfold C_impl_SendWord_13 at h; dsimp only at h
        split at h
        · exact ⟨4000, (c_impl_SendWord_13 k _ _ _ _ _ _).trans h⟩
        · cases h
  · intro args os r h
    change (S_impl_SendWord k).run args os = some r at h
    unfold S_impl_SendWord at h; dsimp only at h
    split at h
    · exact ⟨Nat.le_of_ble_eq_true (by kernel_rfl), rfl, rfl, k, 4000, (e_impl_SendWord k ⟨_, _⟩ _ _).trans h⟩
    · cases h
noncomputable def S_spec_SendPush (k : Nat) : Summ K TyK where
  R := DSend × Int
  modes := [.bo, .bo]
  run := fun args objs => match args, objs with
    | [.agg [.lit (.int .i64 v1), .inl true .item v2], .lit (.string v3)], [] => spec_SendPush k (⟨v1, v2⟩ : DSend) v3
    | _, _ => none
  ret := fun r => (.tup [.agg [.lit (.int .i64 r.1.Base), .own 0], .lit (.int .i64 r.2)], [.sl .item r.1.Items])
  quiet := false
noncomputable def D_spec_SendPush (v : V) (os : Objs K TyK) : Option (DSend × Int) :=
  match v, os with
  | .tup [.agg [.lit (.int .i64 v1), .own 0], .lit (.int .i64 v2)], [.sl .item v3] => some ((⟨v1, v3⟩ : DSend), v2)
  | _, _ => none
noncomputable def C_spec_SendPush_9 : Cut K TyK (DSend × Int) where
  slots := [4, 6, 8, 9]
  fn := fun k vs os => match vs, os with
    | [.ref 0 0, .own 1, .ref 2 0, .lit (.int .i64 x0)], [.box [.lit (.int .i64 x1), .own 3], .sl .part x2, .box [.lit (.int .i64 x3), .own 4], .sl .item x4, .sl .item x5] => spec_SendPush_l9 k x0 x1 x2 x3 x4 x5
    | _, _ => none
noncomputable abbrev G_spec_SendPush (k : Nat) : FuncId → Option (Summ K TyK) := lookT [(64, S_spec_ValidSend k), (26, S_spec_Cut k), (95, S_spec_l4Copy k)]
noncomputable abbrev L_spec_SendPush : List (Nat × Cut K TyK (DSend × Int)) := [(9, C_spec_SendPush_9)]
theorem c_spec_SendPush_9 (k : Nat) (x0 : Int) (x1 : Int) (x2 : List DPart) (x3 : Int) (x4 : List DItem) (x5 : List DItem) : run cod T (G_spec_SendPush k) (lam L_spec_SendPush k) (cutsOf L_spec_SendPush) 0 (finish cod T false 0 [.cell 4 69, .tmp 5] D_spec_SendPush) 4000 true (todoAt 9 (bodyOf Try.f50)) (envOf [4, 6, 8, 9] [.ref 0 0, .own 1, .ref 2 0, .lit (.int .i64 x0)]) [.box [.lit (.int .i64 x1), .own 3], .sl .part x2, .box [.lit (.int .i64 x3), .own 4], .sl .item x4, .sl .item x5] = spec_SendPush_l9 (k + 1) x0 x1 x2 x3 x4 x5 := by kernel_rfl
theorem e_spec_SendPush (k : Nat) (a0 : DSend) (a1 : ByteArray) : run cod T (G_spec_SendPush k) (lam L_spec_SendPush k) (cutsOf L_spec_SendPush) 0 (finish cod T false 0 [.cell 4 69, .tmp 5] D_spec_SendPush) 4000 false [.code (bodyOf Try.f50)] (envOf [0, 1] [.agg [.lit (.int .i64 a0.Base), .inl true .item a0.Items], .lit (.string a1)]) [] = spec_SendPush k a0 a1 := by kernel_rfl
theorem ok_spec_SendPush (k : Nat) : SummOk Try.prog cod 50 (S_spec_SendPush k) := by
  refine summ_of (T := T) Try.f50 (G_spec_SendPush) L_spec_SendPush false [.cell 4 69, .tmp 5] 0 D_spec_SendPush mixed (fun k => Known.of tok eok codOk ?_) (fun k => QuietOk.of ?_) Try.func50 (by kernel_rfl) (by kernel_rfl) (by kernel_rfl) (by kernel_rfl) (by kernel_rfl) ?_ ?_ [] ?_
  · exact all_cons (ok_spec_ValidSend k) (all_cons (ok_spec_Cut k) (all_cons (ok_spec_l4Copy k) (all_nil)))
  · exact all_cons (fun h r => ⟨rfl, rfl⟩) (all_cons (fun h r => by cases h) (all_cons (fun h r => by cases h) (all_nil)))
  · intro v os r h
    unfold D_spec_SendPush at h
    split at h <;> first | (cases h; rfl) | cases h
  · refine all_cons ?_ (all_nil)
    · refine ⟨fun vs os => ?_, by kernel_rfl, fun k vs os r h => ?_⟩
      · show C_spec_SendPush_9.fn 0 vs os = none
        unfold C_spec_SendPush_9; dsimp only; split <;> rfl
      · change C_spec_SendPush_9.fn (k + 1) vs os = some r at h
        unfold C_spec_SendPush_9 at h; dsimp only at h
        split at h
        · exact ⟨4000, (c_spec_SendPush_9 k _ _ _ _ _ _).trans h⟩
        · cases h
  · intro args os r h
    change (S_spec_SendPush k).run args os = some r at h
    unfold S_spec_SendPush at h; dsimp only at h
    split at h
    · exact ⟨Nat.le_of_ble_eq_true (by kernel_rfl), rfl, rfl, k, 4000, (e_spec_SendPush k ⟨_, _⟩ _).trans h⟩
    · cases h
noncomputable def S_spec_SendTick (k : Nat) : Summ K TyK where
  R := DSend × List Int
  modes := [.bo]
  run := fun args objs => match args, objs with
    | [.agg [.lit (.int .i64 v1), .inl true .item v2]], [] => spec_SendTick k (⟨v1, v2⟩ : DSend)
    | _, _ => none
  ret := fun r => (.tup [.agg [.lit (.int .i64 r.1.Base), .own 0], .own 1], [.sl .item r.1.Items, .sl .int r.2])
  quiet := false
noncomputable def D_spec_SendTick (v : V) (os : Objs K TyK) : Option (DSend × List Int) :=
  match v, os with
  | .tup [.agg [.lit (.int .i64 v1), .own 0], .own 1], [.sl .item v2, .sl .int v3] => some ((⟨v1, v2⟩ : DSend), v3)
  | _, _ => none
noncomputable def C_spec_SendTick_6 : Cut K TyK (DSend × List Int) where
  slots := [1, 2, 4, 5, 6]
  fn := fun k vs os => match vs, os with
    | [.ref 0 0, .ref 1 0, .own 2, .ref 3 0, .lit (.int .i64 x0)], [.box [.lit (.int .i64 x1), .inl true .item x2], .box [.lit (.int .i64 x3), .own 4], .sl .int x4, .box [.lit (.int .i64 x5), .own 5], .sl .item x6, .sl .item x7] => spec_SendTick_l6 k x0 x1 x2 x3 x4 x5 x6 x7
    | _, _ => none
noncomputable def C_spec_SendTick_7 : Cut K TyK (DSend × List Int) where
  slots := [1, 2, 4, 5, 6]
  fn := fun k vs os => match vs, os with
    | [.ref 0 0, .ref 1 0, .own 2, .ref 3 0, .lit (.int .i64 x0)], [.box [.lit (.int .i64 x1), .inl true .item x2], .box [.lit (.int .i64 x3), .own 4], .sl .int x4, .box [.lit (.int .i64 x5), .own 5], .sl .item x6, .sl .item x7] => spec_SendTick_l7 k x0 x1 x2 x3 x4 x5 x6 x7
    | _, _ => none
noncomputable abbrev G_spec_SendTick (k : Nat) : FuncId → Option (Summ K TyK) := lookT [(64, S_spec_ValidSend k), (95, S_spec_l4Copy k)]
noncomputable abbrev L_spec_SendTick : List (Nat × Cut K TyK (DSend × List Int)) := [(6, C_spec_SendTick_6), (7, C_spec_SendTick_7)]
theorem c_spec_SendTick_6 (k : Nat) (x0 : Int) (x1 : Int) (x2 : List DItem) (x3 : Int) (x4 : List Int) (x5 : Int) (x6 : List DItem) (x7 : List DItem) : run cod T (G_spec_SendTick k) (lam L_spec_SendTick k) (cutsOf L_spec_SendTick) 0 (finish cod T false 0 [.cell 2 69, .tmp 3] D_spec_SendTick) 4000 true (todoAt 6 (bodyOf Try.f52)) (envOf [1, 2, 4, 5, 6] [.ref 0 0, .ref 1 0, .own 2, .ref 3 0, .lit (.int .i64 x0)]) [.box [.lit (.int .i64 x1), .inl true .item x2], .box [.lit (.int .i64 x3), .own 4], .sl .int x4, .box [.lit (.int .i64 x5), .own 5], .sl .item x6, .sl .item x7] = spec_SendTick_l6 (k + 1) x0 x1 x2 x3 x4 x5 x6 x7 := by kernel_rfl
theorem c_spec_SendTick_7 (k : Nat) (x0 : Int) (x1 : Int) (x2 : List DItem) (x3 : Int) (x4 : List Int) (x5 : Int) (x6 : List DItem) (x7 : List DItem) : run cod T (G_spec_SendTick k) (lam L_spec_SendTick k) (cutsOf L_spec_SendTick) 0 (finish cod T false 0 [.cell 2 69, .tmp 3] D_spec_SendTick) 4000 true (todoAt 7 (bodyOf Try.f52)) (envOf [1, 2, 4, 5, 6] [.ref 0 0, .ref 1 0, .own 2, .ref 3 0, .lit (.int .i64 x0)]) [.box [.lit (.int .i64 x1), .inl true .item x2], .box [.lit (.int .i64 x3), .own 4], .sl .int x4, .box [.lit (.int .i64 x5), .own 5], .sl .item x6, .sl .item x7] = spec_SendTick_l7 (k + 1) x0 x1 x2 x3 x4 x5 x6 x7 := by kernel_rfl
theorem e_spec_SendTick (k : Nat) (a0 : DSend) : run cod T (G_spec_SendTick k) (lam L_spec_SendTick k) (cutsOf L_spec_SendTick) 0 (finish cod T false 0 [.cell 2 69, .tmp 3] D_spec_SendTick) 4000 false [.code (bodyOf Try.f52)] (envOf [0] [.agg [.lit (.int .i64 a0.Base), .inl true .item a0.Items]]) [] = spec_SendTick k a0 := by kernel_rfl
theorem ok_spec_SendTick (k : Nat) : SummOk Try.prog cod 52 (S_spec_SendTick k) := by
  refine summ_of (T := T) Try.f52 (G_spec_SendTick) L_spec_SendTick false [.cell 2 69, .tmp 3] 0 D_spec_SendTick mixed (fun k => Known.of tok eok codOk ?_) (fun k => QuietOk.of ?_) Try.func52 (by kernel_rfl) (by kernel_rfl) (by kernel_rfl) (by kernel_rfl) (by kernel_rfl) ?_ ?_ [] ?_
  · exact all_cons (ok_spec_ValidSend k) (all_cons (ok_spec_l4Copy k) (all_nil))
  · exact all_cons (fun h r => ⟨rfl, rfl⟩) (all_cons (fun h r => by cases h) (all_nil))
  · intro v os r h
    unfold D_spec_SendTick at h
    split at h <;> first | (cases h; rfl) | cases h
  · refine all_cons ?_ (all_cons ?_ (all_nil))
    · refine ⟨fun vs os => ?_, by kernel_rfl, fun k vs os r h => ?_⟩
      · show C_spec_SendTick_6.fn 0 vs os = none
        unfold C_spec_SendTick_6; dsimp only; split <;> rfl
      · change C_spec_SendTick_6.fn (k + 1) vs os = some r at h
        unfold C_spec_SendTick_6 at h; dsimp only at h
        split at h
        · exact ⟨4000, (c_spec_SendTick_6 k _ _ _ _ _ _ _ _).trans h⟩
        · cases h
    · refine ⟨fun vs os => ?_, by kernel_rfl, fun k vs os r h => ?_⟩
      · show C_spec_SendTick_7.fn 0 vs os = none
        unfold C_spec_SendTick_7; dsimp only; split <;> rfl
      · change C_spec_SendTick_7.fn (k + 1) vs os = some r at h
        unfold C_spec_SendTick_7 at h; dsimp only at h
        split at h
        · exact ⟨4000, (c_spec_SendTick_7 k _ _ _ _ _ _ _ _).trans h⟩
        · cases h
  · intro args os r h
    change (S_spec_SendTick k).run args os = some r at h
    unfold S_spec_SendTick at h; dsimp only at h
    split at h
    · exact ⟨Nat.le_of_ble_eq_true (by kernel_rfl), rfl, rfl, k, 4000, (e_spec_SendTick k ⟨_, _⟩).trans h⟩
    · cases h
noncomputable def S_impl_SendTick (k : Nat) : Summ K TyK where
  R := DSend × List Int
  modes := [.bo]
  run := fun args objs => match args, objs with
    | [.agg [.lit (.int .i64 v1), .inl true .item v2]], [] => impl_SendTick k (⟨v1, v2⟩ : DSend)
    | _, _ => none
  ret := fun r => (.tup [.agg [.lit (.int .i64 r.1.Base), .own 0], .own 1], [.sl .item r.1.Items, .sl .int r.2])
  quiet := false
noncomputable def D_impl_SendTick (v : V) (os : Objs K TyK) : Option (DSend × List Int) :=
  match v, os with
  | .tup [.agg [.lit (.int .i64 v1), .own 0], .own 1], [.sl .item v2, .sl .int v3] => some ((⟨v1, v2⟩ : DSend), v3)
  | _, _ => none
noncomputable def C_impl_SendTick_6 : Cut K TyK (DSend × List Int) where
  slots := [2, 4, 5, 6]
  fn := fun k vs os => match vs, os with
    | [.ref 0 0, .ref 1 0, .own 2, .lit (.int .i64 x0)], [.box [.lit (.int .i64 x1), .own 3], .box [.lit (.int .i64 x2), .own 4], .sl .int x3, .sl .item x4, .sl .item x5] => impl_SendTick_l6 k x0 x1 x2 x3 x4 x5
    | _, _ => none
noncomputable def C_impl_SendTick_7 : Cut K TyK (DSend × List Int) where
  slots := [2, 4, 5, 6]
  fn := fun k vs os => match vs, os with
    | [.ref 0 0, .ref 1 0, .own 2, .lit (.int .i64 x0)], [.box [.lit (.int .i64 x1), .own 3], .box [.lit (.int .i64 x2), .own 4], .sl .int x3, .sl .item x4, .sl .item x5] => impl_SendTick_l7 k x0 x1 x2 x3 x4 x5
    | _, _ => none
noncomputable abbrev G_impl_SendTick (k : Nat) : FuncId → Option (Summ K TyK) := lookT [(65, S_impl_ValidSend k), (98, S_impl_copySend k)]
noncomputable abbrev L_impl_SendTick : List (Nat × Cut K TyK (DSend × List Int)) := [(6, C_impl_SendTick_6), (7, C_impl_SendTick_7)]
theorem c_impl_SendTick_6 (k : Nat) (x0 : Int) (x1 : Int) (x2 : Int) (x3 : List Int) (x4 : List DItem) (x5 : List DItem) : run cod T (G_impl_SendTick k) (lam L_impl_SendTick k) (cutsOf L_impl_SendTick) 0 (finish cod T false 0 [.cell 2 69, .tmp 3] D_impl_SendTick) 4000 true (todoAt 6 (bodyOf Try.f53)) (envOf [2, 4, 5, 6] [.ref 0 0, .ref 1 0, .own 2, .lit (.int .i64 x0)]) [.box [.lit (.int .i64 x1), .own 3], .box [.lit (.int .i64 x2), .own 4], .sl .int x3, .sl .item x4, .sl .item x5] = impl_SendTick_l6 (k + 1) x0 x1 x2 x3 x4 x5 := by kernel_rfl
theorem c_impl_SendTick_7 (k : Nat) (x0 : Int) (x1 : Int) (x2 : Int) (x3 : List Int) (x4 : List DItem) (x5 : List DItem) : run cod T (G_impl_SendTick k) (lam L_impl_SendTick k) (cutsOf L_impl_SendTick) 0 (finish cod T false 0 [.cell 2 69, .tmp 3] D_impl_SendTick) 4000 true (todoAt 7 (bodyOf Try.f53)) (envOf [2, 4, 5, 6] [.ref 0 0, .ref 1 0, .own 2, .lit (.int .i64 x0)]) [.box [.lit (.int .i64 x1), .own 3], .box [.lit (.int .i64 x2), .own 4], .sl .int x3, .sl .item x4, .sl .item x5] = impl_SendTick_l7 (k + 1) x0 x1 x2 x3 x4 x5 := by kernel_rfl
theorem e_impl_SendTick (k : Nat) (a0 : DSend) : run cod T (G_impl_SendTick k) (lam L_impl_SendTick k) (cutsOf L_impl_SendTick) 0 (finish cod T false 0 [.cell 2 69, .tmp 3] D_impl_SendTick) 4000 false [.code (bodyOf Try.f53)] (envOf [0] [.agg [.lit (.int .i64 a0.Base), .inl true .item a0.Items]]) [] = impl_SendTick k a0 := by kernel_rfl
theorem ok_impl_SendTick (k : Nat) : SummOk Try.prog cod 53 (S_impl_SendTick k) := by
  refine summ_of (T := T) Try.f53 (G_impl_SendTick) L_impl_SendTick false [.cell 2 69, .tmp 3] 0 D_impl_SendTick mixed (fun k => Known.of tok eok codOk ?_) (fun k => QuietOk.of ?_) Try.func53 (by kernel_rfl) (by kernel_rfl) (by kernel_rfl) (by kernel_rfl) (by kernel_rfl) ?_ ?_ [] ?_
  · exact all_cons (ok_impl_ValidSend k) (all_cons (ok_impl_copySend k) (all_nil))
  · exact all_cons (fun h r => ⟨rfl, rfl⟩) (all_cons (fun h r => by cases h) (all_nil))
  · intro v os r h
    unfold D_impl_SendTick at h
    split at h <;> first | (cases h; rfl) | cases h
  · refine all_cons ?_ (all_cons ?_ (all_nil))
    · refine ⟨fun vs os => ?_, by kernel_rfl, fun k vs os r h => ?_⟩
      · show C_impl_SendTick_6.fn 0 vs os = none
        unfold C_impl_SendTick_6; dsimp only; split <;> rfl
      · change C_impl_SendTick_6.fn (k + 1) vs os = some r at h
        unfold C_impl_SendTick_6 at h; dsimp only at h
        split at h
        · exact ⟨4000, (c_impl_SendTick_6 k _ _ _ _ _ _).trans h⟩
        · cases h
    · refine ⟨fun vs os => ?_, by kernel_rfl, fun k vs os r h => ?_⟩
      · show C_impl_SendTick_7.fn 0 vs os = none
        unfold C_impl_SendTick_7; dsimp only; split <;> rfl
      · change C_impl_SendTick_7.fn (k + 1) vs os = some r at h
        unfold C_impl_SendTick_7 at h; dsimp only at h
        split at h
        · exact ⟨4000, (c_impl_SendTick_7 k _ _ _ _ _ _).trans h⟩
        · cases h
  · intro args os r h
    change (S_impl_SendTick k).run args os = some r at h
    unfold S_impl_SendTick at h; dsimp only at h
    split at h
    · exact ⟨Nat.le_of_ble_eq_true (by kernel_rfl), rfl, rfl, k, 4000, (e_impl_SendTick k ⟨_, _⟩).trans h⟩
    · cases h
noncomputable def S_spec_l4Draw (k : Nat) : Summ K TyK where
  R := DSend × DL1Rd
  modes := [.bo]
  run := fun args objs => match args, objs with
    | [.ref 0 0], [.box [.inl false .byte v1, .lit (.int .i64 v2)]] => spec_l4Draw k (⟨v1, v2⟩ : DL1Rd)
    | _, _ => none
  ret := fun r => (.agg [.lit (.int .i64 r.1.Base), .own 1], [.box [.inl false .byte r.2.b, .lit (.int .i64 r.2.p)], .sl .item r.1.Items])
  quiet := false
noncomputable def D_spec_l4Draw (v : V) (os : Objs K TyK) : Option (DSend × DL1Rd) :=
  match v, os with
  | .agg [.lit (.int .i64 v1), .own 1], [.box [.inl false .byte v2, .lit (.int .i64 v3)], .sl .item v4] => some ((⟨v1, v4⟩ : DSend), (⟨v2, v3⟩ : DL1Rd))
  | _, _ => none
noncomputable def C_spec_l4Draw_3 : Cut K TyK (DSend × DL1Rd) where
  slots := [0, 2, 3, 4]
  fn := fun k vs os => match vs, os with
    | [.ref 0 0, .ref 1 0, .ref 2 0, .lit (.int .i64 x0)], [.box [.inl false .byte x1, .lit (.int .i64 x2)], .box [.lit (.int .i64 x3), .own 3], .box [.lit (.int .i64 x4), .own 4], .sl .item x5, .sl .item x6] => spec_l4Draw_l3 k x0 x1 x2 x3 x4 x5 x6
    | _, _ => none
noncomputable def C_spec_l4Draw_8 : Cut K TyK (DSend × DL1Rd) where
  slots := [0, 2, 3, 4]
  fn := fun k vs os => match vs, os with
    | [.ref 0 0, .ref 1 0, .ref 2 0, .lit (.int .i64 x0)], [.box [.inl false .byte x1, .lit (.int .i64 x2)], .box [.lit (.int .i64 x3), .own 3], .box [.lit (.int .i64 x4), .own 4], .sl .item x5, .sl .item x6] => spec_l4Draw_l8 k x0 x1 x2 x3 x4 x5 x6
    | _, _ => none
noncomputable def C_spec_l4Draw_16 : Cut K TyK (DSend × DL1Rd) where
  slots := [2, 3, 8]
  fn := fun k vs os => match vs, os with
    | [.ref 1 0, .ref 2 0, .lit (.int .i64 x0)], [.box [.inl false .byte x1, .lit (.int .i64 x2)], .box [.lit (.int .i64 x3), .own 3], .box [.lit (.int .i64 x4), .own 4], .sl .item x5, .sl .item x6] => spec_l4Draw_l16 k x0 x1 x2 x3 x4 x5 x6
    | _, _ => none
noncomputable def C_spec_l4Draw_18 : Cut K TyK (DSend × DL1Rd) where
  slots := [2, 3]
  fn := fun k vs os => match vs, os with
    | [.ref 1 0, .ref 2 0], [.box [.inl false .byte x0, .lit (.int .i64 x1)], .box [.lit (.int .i64 x2), .own 3], .box [.lit (.int .i64 x3), .own 4], .sl .item x4, .sl .item x5] => spec_l4Draw_l18 k x0 x1 x2 x3 x4 x5
    | _, _ => none
noncomputable def C_spec_l4Draw_9 : Cut K TyK (DSend × DL1Rd) where
  slots := [0, 2, 3, 4, 7]
  fn := fun k vs os => match vs, os with
    | [.ref 0 0, .ref 1 0, .ref 2 0, .lit (.int .i64 x0), .lit (.int .i64 x1)], [.box [.inl false .byte x2, .lit (.int .i64 x3)], .box [.lit (.int .i64 x4), .own 3], .box [.lit (.int .i64 x5), .own 4], .sl .item x6, .sl .item x7] => spec_l4Draw_l9 k x0 x1 x2 x3 x4 x5 x6 x7
    | _, _ => none
noncomputable def C_spec_l4Draw_4 : Cut K TyK (DSend × DL1Rd) where
  slots := [0, 2, 3, 4]
  fn := fun k vs os => match vs, os with
    | [.ref 0 0, .ref 1 0, .ref 2 0, .lit (.int .i64 x0)], [.box [.inl false .byte x1, .lit (.int .i64 x2)], .box [.lit (.int .i64 x3), .own 3], .box [.lit (.int .i64 x4), .own 4], .sl .item x5, .sl .item x6] => spec_l4Draw_l4 k x0 x1 x2 x3 x4 x5 x6
    | _, _ => none
noncomputable abbrev G_spec_l4Draw (k : Nat) : FuncId → Option (Summ K TyK) := lookT [(76, S_spec_l1Rd_pick k), (78, S_spec_l1Message k), (50, S_spec_SendPush k), (52, S_spec_SendTick k), (44, S_spec_SendWord k), (95, S_spec_l4Copy k)]
noncomputable abbrev L_spec_l4Draw : List (Nat × Cut K TyK (DSend × DL1Rd)) := [(3, C_spec_l4Draw_3), (8, C_spec_l4Draw_8), (16, C_spec_l4Draw_16), (18, C_spec_l4Draw_18), (9, C_spec_l4Draw_9), (4, C_spec_l4Draw_4)]
theorem c_spec_l4Draw_3 (k : Nat) (x0 : Int) (x1 : List Int) (x2 : Int) (x3 : Int) (x4 : Int) (x5 : List DItem) (x6 : List DItem) : run cod T (G_spec_l4Draw k) (lam L_spec_l4Draw k) (cutsOf L_spec_l4Draw) 1 (finish cod T false 1 [.cell 2 69] D_spec_l4Draw) 4000 true (todoAt 3 (bodyOf Try.f121)) (envOf [0, 2, 3, 4] [.ref 0 0, .ref 1 0, .ref 2 0, .lit (.int .i64 x0)]) [.box [.inl false .byte x1, .lit (.int .i64 x2)], .box [.lit (.int .i64 x3), .own 3], .box [.lit (.int .i64 x4), .own 4], .sl .item x5, .sl .item x6] = spec_l4Draw_l3 (k + 1) x0 x1 x2 x3 x4 x5 x6 := by kernel_rfl
theorem c_spec_l4Draw_8 (k : Nat) (x0 : Int) (x1 : List Int) (x2 : Int) (x3 : Int) (x4 : Int) (x5 : List DItem) (x6 : List DItem) : run cod T (G_spec_l4Draw k) (lam L_spec_l4Draw k) (cutsOf L_spec_l4Draw) 1 (finish cod T false 1 [.cell 2 69] D_spec_l4Draw) 4000 true (todoAt 8 (bodyOf Try.f121)) (envOf [0, 2, 3, 4] [.ref 0 0, .ref 1 0, .ref 2 0, .lit (.int .i64 x0)]) [.box [.inl false .byte x1, .lit (.int .i64 x2)], .box [.lit (.int .i64 x3), .own 3], .box [.lit (.int .i64 x4), .own 4], .sl .item x5, .sl .item x6] = spec_l4Draw_l8 (k + 1) x0 x1 x2 x3 x4 x5 x6 := by kernel_rfl
theorem c_spec_l4Draw_16 (k : Nat) (x0 : Int) (x1 : List Int) (x2 : Int) (x3 : Int) (x4 : Int) (x5 : List DItem) (x6 : List DItem) : run cod T (G_spec_l4Draw k) (lam L_spec_l4Draw k) (cutsOf L_spec_l4Draw) 1 (finish cod T false 1 [.cell 2 69] D_spec_l4Draw) 4000 true (todoAt 16 (bodyOf Try.f121)) (envOf [2, 3, 8] [.ref 1 0, .ref 2 0, .lit (.int .i64 x0)]) [.box [.inl false .byte x1, .lit (.int .i64 x2)], .box [.lit (.int .i64 x3), .own 3], .box [.lit (.int .i64 x4), .own 4], .sl .item x5, .sl .item x6] = spec_l4Draw_l16 (k + 1) x0 x1 x2 x3 x4 x5 x6 := by kernel_rfl
theorem c_spec_l4Draw_18 (k : Nat) (x0 : List Int) (x1 : Int) (x2 : Int) (x3 : Int) (x4 : List DItem) (x5 : List DItem) : run cod T (G_spec_l4Draw k) (lam L_spec_l4Draw k) (cutsOf L_spec_l4Draw) 1 (finish cod T false 1 [.cell 2 69] D_spec_l4Draw) 4000 true (todoAt 18 (bodyOf Try.f121)) (envOf [2, 3] [.ref 1 0, .ref 2 0]) [.box [.inl false .byte x0, .lit (.int .i64 x1)], .box [.lit (.int .i64 x2), .own 3], .box [.lit (.int .i64 x3), .own 4], .sl .item x4, .sl .item x5] = spec_l4Draw_l18 (k + 1) x0 x1 x2 x3 x4 x5 := by kernel_rfl
theorem c_spec_l4Draw_9 (k : Nat) (x0 : Int) (x1 : Int) (x2 : List Int) (x3 : Int) (x4 : Int) (x5 : Int) (x6 : List DItem) (x7 : List DItem) : run cod T (G_spec_l4Draw k) (lam L_spec_l4Draw k) (cutsOf L_spec_l4Draw) 1 (finish cod T false 1 [.cell 2 69] D_spec_l4Draw) 4000 true (todoAt 9 (bodyOf Try.f121)) (envOf [0, 2, 3, 4, 7] [.ref 0 0, .ref 1 0, .ref 2 0, .lit (.int .i64 x0), .lit (.int .i64 x1)]) [.box [.inl false .byte x2, .lit (.int .i64 x3)], .box [.lit (.int .i64 x4), .own 3], .box [.lit (.int .i64 x5), .own 4], .sl .item x6, .sl .item x7] = spec_l4Draw_l9 (k + 1) x0 x1 x2 x3 x4 x5 x6 x7 := by kernel_rfl
theorem c_spec_l4Draw_4 (k : Nat) (x0 : Int) (x1 : List Int) (x2 : Int) (x3 : Int) (x4 : Int) (x5 : List DItem) (x6 : List DItem) : run cod T (G_spec_l4Draw k) (lam L_spec_l4Draw k) (cutsOf L_spec_l4Draw) 1 (finish cod T false 1 [.cell 2 69] D_spec_l4Draw) 4000 true (todoAt 4 (bodyOf Try.f121)) (envOf [0, 2, 3, 4] [.ref 0 0, .ref 1 0, .ref 2 0, .lit (.int .i64 x0)]) [.box [.inl false .byte x1, .lit (.int .i64 x2)], .box [.lit (.int .i64 x3), .own 3], .box [.lit (.int .i64 x4), .own 4], .sl .item x5, .sl .item x6] = spec_l4Draw_l4 (k + 1) x0 x1 x2 x3 x4 x5 x6 := by kernel_rfl
theorem e_spec_l4Draw (k : Nat) (a0 : DL1Rd) : run cod T (G_spec_l4Draw k) (lam L_spec_l4Draw k) (cutsOf L_spec_l4Draw) 1 (finish cod T false 1 [.cell 2 69] D_spec_l4Draw) 4000 false [.code (bodyOf Try.f121)] (envOf [0] [.ref 0 0]) [.box [.inl false .byte a0.b, .lit (.int .i64 a0.p)]] = spec_l4Draw k a0 := by kernel_rfl
theorem ok_spec_l4Draw (k : Nat) : SummOk Try.prog cod 121 (S_spec_l4Draw k) := by
  refine summ_of (T := T) Try.f121 (G_spec_l4Draw) L_spec_l4Draw false [.cell 2 69] 1 D_spec_l4Draw mixed (fun k => Known.of tok eok codOk ?_) (fun k => QuietOk.of ?_) Try.func121 (by kernel_rfl) (by kernel_rfl) (by kernel_rfl) (by kernel_rfl) (by kernel_rfl) ?_ ?_ [false] ?_
  · exact all_cons (ok_spec_l1Rd_pick k) (all_cons (ok_spec_l1Message k) (all_cons (ok_spec_SendPush k) (all_cons (ok_spec_SendTick k) (all_cons (ok_spec_SendWord k) (all_cons (ok_spec_l4Copy k) (all_nil))))))
  · exact all_cons (fun h r => by cases h) (all_cons (fun h r => by cases h) (all_cons (fun h r => by cases h) (all_cons (fun h r => by cases h) (all_cons (fun h r => by cases h) (all_cons (fun h r => by cases h) (all_nil))))))
  · intro v os r h
    unfold D_spec_l4Draw at h
    split at h <;> first | (cases h; rfl) | cases h
  · refine all_cons ?_ (all_cons ?_ (all_cons ?_ (all_cons ?_ (all_cons ?_ (all_cons ?_ (all_nil))))))
    · refine ⟨fun vs os => ?_, by kernel_rfl, fun k vs os r h => ?_⟩
      · show C_spec_l4Draw_3.fn 0 vs os = none
        unfold C_spec_l4Draw_3; dsimp only; split <;> rfl
      · change C_spec_l4Draw_3.fn (k + 1) vs os = some r at h
        unfold C_spec_l4Draw_3 at h; dsimp only at h
        split at h
        · exact ⟨4000, (c_spec_l4Draw_3 k _ _ _ _ _ _ _).trans h⟩
        · cases h
    · refine ⟨fun vs os => ?_, by kernel_rfl, fun k vs os r h => ?_⟩
      · show C_spec_l4Draw_8.fn 0 vs os = none
        unfold C_spec_l4Draw_8; dsimp only; split <;> rfl
      · change C_spec_l4Draw_8.fn (k + 1) vs os = some r at h
        unfold C_spec_l4Draw_8 at h; dsimp only at h
        split at h
        · exact ⟨4000, (c_spec_l4Draw_8 k _ _ _ _ _ _ _).trans h⟩
        · cases h
    · refine ⟨fun vs os => ?_, by kernel_rfl, fun k vs os r h => ?_⟩
      · show C_spec_l4Draw_16.fn 0 vs os = none
        unfold C_spec_l4Draw_16; dsimp only; split <;> rfl
      · change C_spec_l4Draw_16.fn (k + 1) vs os = some r at h
        unfold C_spec_l4Draw_16 at h; dsimp only at h
        split at h
        · exact ⟨4000, (c_spec_l4Draw_16 k _ _ _ _ _ _ _).trans h⟩
        · cases h
    · refine ⟨fun vs os => ?_, by kernel_rfl, fun k vs os r h => ?_⟩
      · show C_spec_l4Draw_18.fn 0 vs os = none
        unfold C_spec_l4Draw_18; dsimp only; split <;> rfl
      · change C_spec_l4Draw_18.fn (k + 1) vs os = some r at h
        unfold C_spec_l4Draw_18 at h; dsimp only at h
        split at h
        · exact ⟨4000, (c_spec_l4Draw_18 k _ _ _ _ _ _).trans h⟩
        · cases h
    · refine ⟨fun vs os => ?_, by kernel_rfl, fun k vs os r h => ?_⟩
      · show C_spec_l4Draw_9.fn 0 vs os = none
        unfold C_spec_l4Draw_9; dsimp only; split <;> rfl
      · change C_spec_l4Draw_9.fn (k + 1) vs os = some r at h
        unfold C_spec_l4Draw_9 at h; dsimp only at h
        split at h
        · exact ⟨4000, (c_spec_l4Draw_9 k _ _ _ _ _ _ _ _).trans h⟩
        · cases h
    · refine ⟨fun vs os => ?_, by kernel_rfl, fun k vs os r h => ?_⟩
      · show C_spec_l4Draw_4.fn 0 vs os = none
        unfold C_spec_l4Draw_4; dsimp only; split <;> rfl
      · change C_spec_l4Draw_4.fn (k + 1) vs os = some r at h
        unfold C_spec_l4Draw_4 at h; dsimp only at h
        split at h
        · exact ⟨4000, (c_spec_l4Draw_4 k _ _ _ _ _ _ _).trans h⟩
        · cases h
  · intro args os r h
    change (S_spec_l4Draw k).run args os = some r at h
    unfold S_spec_l4Draw at h; dsimp only at h
    split at h
    · exact ⟨Nat.le_of_ble_eq_true (by kernel_rfl), rfl, rfl, k, 4000, (e_spec_l4Draw k ⟨_, _⟩).trans h⟩
    · cases h
noncomputable def S_spec_l4Spoil (k : Nat) : Summ K TyK where
  R := DSend × DL1Rd
  modes := [.bo, .bo]
  run := fun args objs => match args, objs with
    | [.ref 0 0, .agg [.lit (.int .i64 v1), .inl true .item v2]], [.box [.inl false .byte v3, .lit (.int .i64 v4)]] => spec_l4Spoil k (⟨v3, v4⟩ : DL1Rd) (⟨v1, v2⟩ : DSend)
    | _, _ => none
  ret := fun r => (.agg [.lit (.int .i64 r.1.Base), .own 1], [.box [.inl false .byte r.2.b, .lit (.int .i64 r.2.p)], .sl .item r.1.Items])
  quiet := false
noncomputable def D_spec_l4Spoil (v : V) (os : Objs K TyK) : Option (DSend × DL1Rd) :=
  match v, os with
  | .agg [.lit (.int .i64 v1), .own 1], [.box [.inl false .byte v2, .lit (.int .i64 v3)], .sl .item v4] => some ((⟨v1, v4⟩ : DSend), (⟨v2, v3⟩ : DL1Rd))
  | _, _ => none
noncomputable def C_spec_l4Spoil_4 : Cut K TyK (DSend × DL1Rd) where
  slots := [0, 4, 5]
  fn := fun k vs os => match vs, os with
    | [.ref 0 0, .ref 1 0, .ref 2 0], [.box [.inl false .byte x0, .lit (.int .i64 x1)], .box [.lit (.int .i64 x2), .own 3], .box [.lit (.int .i64 x3), .own 4], .sl .item x4, .sl .item x5] => spec_l4Spoil_l4 k x0 x1 x2 x3 x4 x5
    | _, _ => none
noncomputable def C_spec_l4Spoil_21 : Cut K TyK (DSend × DL1Rd) where
  slots := [4, 5]
  fn := fun k vs os => match vs, os with
    | [.ref 1 0, .ref 2 0], [.box [.inl false .byte x0, .lit (.int .i64 x1)], .box [.lit (.int .i64 x2), .own 3], .box [.lit (.int .i64 x3), .own 4], .sl .item x4, .sl .item x5] => spec_l4Spoil_l21 k x0 x1 x2 x3 x4 x5
    | _, _ => none
noncomputable def C_spec_l4Spoil_19 : Cut K TyK (DSend × DL1Rd) where
  slots := [4, 5, 7]
  fn := fun k vs os => match vs, os with
    | [.ref 1 0, .ref 2 0, .lit (.int .i64 x0)], [.box [.inl false .byte x1, .lit (.int .i64 x2)], .box [.lit (.int .i64 x3), .own 3], .box [.lit (.int .i64 x4), .own 4], .sl .item x5, .sl .item x6] => spec_l4Spoil_l19 k x0 x1 x2 x3 x4 x5 x6
    | _, _ => none
noncomputable def C_spec_l4Spoil_6 : Cut K TyK (DSend × DL1Rd) where
  slots := [0, 4, 5]
  fn := fun k vs os => match vs, os with
    | [.ref 0 0, .ref 1 0, .ref 2 0], [.box [.inl false .byte x0, .lit (.int .i64 x1)], .box [.lit (.int .i64 x2), .own 3], .box [.lit (.int .i64 x3), .own 4], .sl .item x4, .sl .item x5] => spec_l4Spoil_l6 k x0 x1 x2 x3 x4 x5
    | _, _ => none
noncomputable abbrev G_spec_l4Spoil (k : Nat) : FuncId → Option (Summ K TyK) := lookT [(95, S_spec_l4Copy k), (76, S_spec_l1Rd_pick k), (77, S_spec_l1Many k)]
noncomputable abbrev L_spec_l4Spoil : List (Nat × Cut K TyK (DSend × DL1Rd)) := [(4, C_spec_l4Spoil_4), (21, C_spec_l4Spoil_21), (19, C_spec_l4Spoil_19), (6, C_spec_l4Spoil_6)]
theorem c_spec_l4Spoil_4 (k : Nat) (x0 : List Int) (x1 : Int) (x2 : Int) (x3 : Int) (x4 : List DItem) (x5 : List DItem) : run cod T (G_spec_l4Spoil k) (lam L_spec_l4Spoil k) (cutsOf L_spec_l4Spoil) 1 (finish cod T false 1 [.cell 4 69] D_spec_l4Spoil) 4000 true (todoAt 4 (bodyOf Try.f122)) (envOf [0, 4, 5] [.ref 0 0, .ref 1 0, .ref 2 0]) [.box [.inl false .byte x0, .lit (.int .i64 x1)], .box [.lit (.int .i64 x2), .own 3], .box [.lit (.int .i64 x3), .own 4], .sl .item x4, .sl .item x5] = spec_l4Spoil_l4 (k + 1) x0 x1 x2 x3 x4 x5 := by kernel_rfl
theorem c_spec_l4Spoil_21 (k : Nat) (x0 : List Int) (x1 : Int) (x2 : Int) (x3 : Int) (x4 : List DItem) (x5 : List DItem) : run cod T (G_spec_l4Spoil k) (lam L_spec_l4Spoil k) (cutsOf L_spec_l4Spoil) 1 (finish cod T false 1 [.cell 4 69] D_spec_l4Spoil) 4000 true (todoAt 21 (bodyOf Try.f122)) (envOf [4, 5] [.ref 1 0, .ref 2 0]) [.box [.inl false .byte x0, .lit (.int .i64 x1)], .box [.lit (.int .i64 x2), .own 3], .box [.lit (.int .i64 x3), .own 4], .sl .item x4, .sl .item x5] = spec_l4Spoil_l21 (k + 1) x0 x1 x2 x3 x4 x5 := by kernel_rfl
theorem c_spec_l4Spoil_19 (k : Nat) (x0 : Int) (x1 : List Int) (x2 : Int) (x3 : Int) (x4 : Int) (x5 : List DItem) (x6 : List DItem) : run cod T (G_spec_l4Spoil k) (lam L_spec_l4Spoil k) (cutsOf L_spec_l4Spoil) 1 (finish cod T false 1 [.cell 4 69] D_spec_l4Spoil) 4000 true (todoAt 19 (bodyOf Try.f122)) (envOf [4, 5, 7] [.ref 1 0, .ref 2 0, .lit (.int .i64 x0)]) [.box [.inl false .byte x1, .lit (.int .i64 x2)], .box [.lit (.int .i64 x3), .own 3], .box [.lit (.int .i64 x4), .own 4], .sl .item x5, .sl .item x6] = spec_l4Spoil_l19 (k + 1) x0 x1 x2 x3 x4 x5 x6 := by kernel_rfl
theorem c_spec_l4Spoil_6 (k : Nat) (x0 : List Int) (x1 : Int) (x2 : Int) (x3 : Int) (x4 : List DItem) (x5 : List DItem) : run cod T (G_spec_l4Spoil k) (lam L_spec_l4Spoil k) (cutsOf L_spec_l4Spoil) 1 (finish cod T false 1 [.cell 4 69] D_spec_l4Spoil) 4000 true (todoAt 6 (bodyOf Try.f122)) (envOf [0, 4, 5] [.ref 0 0, .ref 1 0, .ref 2 0]) [.box [.inl false .byte x0, .lit (.int .i64 x1)], .box [.lit (.int .i64 x2), .own 3], .box [.lit (.int .i64 x3), .own 4], .sl .item x4, .sl .item x5] = spec_l4Spoil_l6 (k + 1) x0 x1 x2 x3 x4 x5 := by kernel_rfl
theorem e_spec_l4Spoil (k : Nat) (a0 : DL1Rd) (a1 : DSend) : run cod T (G_spec_l4Spoil k) (lam L_spec_l4Spoil k) (cutsOf L_spec_l4Spoil) 1 (finish cod T false 1 [.cell 4 69] D_spec_l4Spoil) 4000 false [.code (bodyOf Try.f122)] (envOf [0, 1] [.ref 0 0, .agg [.lit (.int .i64 a1.Base), .inl true .item a1.Items]]) [.box [.inl false .byte a0.b, .lit (.int .i64 a0.p)]] = spec_l4Spoil k a0 a1 := by kernel_rfl
theorem ok_spec_l4Spoil (k : Nat) : SummOk Try.prog cod 122 (S_spec_l4Spoil k) := by
  refine summ_of (T := T) Try.f122 (G_spec_l4Spoil) L_spec_l4Spoil false [.cell 4 69] 1 D_spec_l4Spoil mixed (fun k => Known.of tok eok codOk ?_) (fun k => QuietOk.of ?_) Try.func122 (by kernel_rfl) (by kernel_rfl) (by kernel_rfl) (by kernel_rfl) (by kernel_rfl) ?_ ?_ [false] ?_
  · exact all_cons (ok_spec_l4Copy k) (all_cons (ok_spec_l1Rd_pick k) (all_cons (ok_spec_l1Many k) (all_nil)))
  · exact all_cons (fun h r => by cases h) (all_cons (fun h r => by cases h) (all_cons (fun h r => ⟨rfl, rfl⟩) (all_nil)))
  · intro v os r h
    unfold D_spec_l4Spoil at h
    split at h <;> first | (cases h; rfl) | cases h
  · refine all_cons ?_ (all_cons ?_ (all_cons ?_ (all_cons ?_ (all_nil))))
    · refine ⟨fun vs os => ?_, by kernel_rfl, fun k vs os r h => ?_⟩
      · show C_spec_l4Spoil_4.fn 0 vs os = none
        unfold C_spec_l4Spoil_4; dsimp only; split <;> rfl
      · change C_spec_l4Spoil_4.fn (k + 1) vs os = some r at h
        unfold C_spec_l4Spoil_4 at h; dsimp only at h
        split at h
        · exact ⟨4000, (c_spec_l4Spoil_4 k _ _ _ _ _ _).trans h⟩
        · cases h
    · refine ⟨fun vs os => ?_, by kernel_rfl, fun k vs os r h => ?_⟩
      · show C_spec_l4Spoil_21.fn 0 vs os = none
        unfold C_spec_l4Spoil_21; dsimp only; split <;> rfl
      · change C_spec_l4Spoil_21.fn (k + 1) vs os = some r at h
        unfold C_spec_l4Spoil_21 at h; dsimp only at h
        split at h
        · exact ⟨4000, (c_spec_l4Spoil_21 k _ _ _ _ _ _).trans h⟩
        · cases h
    · refine ⟨fun vs os => ?_, by kernel_rfl, fun k vs os r h => ?_⟩
      · show C_spec_l4Spoil_19.fn 0 vs os = none
        unfold C_spec_l4Spoil_19; dsimp only; split <;> rfl
      · change C_spec_l4Spoil_19.fn (k + 1) vs os = some r at h
        unfold C_spec_l4Spoil_19 at h; dsimp only at h
        split at h
        · exact ⟨4000, (c_spec_l4Spoil_19 k _ _ _ _ _ _ _).trans h⟩
        · cases h
    · refine ⟨fun vs os => ?_, by kernel_rfl, fun k vs os r h => ?_⟩
      · show C_spec_l4Spoil_6.fn 0 vs os = none
        unfold C_spec_l4Spoil_6; dsimp only; split <;> rfl
      · change C_spec_l4Spoil_6.fn (k + 1) vs os = some r at h
        unfold C_spec_l4Spoil_6 at h; dsimp only at h
        split at h
        · exact ⟨4000, (c_spec_l4Spoil_6 k _ _ _ _ _ _).trans h⟩
        · cases h
  · intro args os r h
    change (S_spec_l4Spoil k).run args os = some r at h
    unfold S_spec_l4Spoil at h; dsimp only at h
    split at h
    · exact ⟨Nat.le_of_ble_eq_true (by kernel_rfl), rfl, rfl, k, 4000, (e_spec_l4Spoil k ⟨_, _⟩ ⟨_, _⟩).trans h⟩
    · cases h
noncomputable def S_spec_l4Any (k : Nat) : Summ K TyK where
  R := DSend × DL1Rd
  modes := [.bo]
  run := fun args objs => match args, objs with
    | [.ref 0 0], [.box [.inl false .byte v1, .lit (.int .i64 v2)]] => spec_l4Any k (⟨v1, v2⟩ : DL1Rd)
    | _, _ => none
  ret := fun r => (.agg [.lit (.int .i64 r.1.Base), .own 1], [.box [.inl false .byte r.2.b, .lit (.int .i64 r.2.p)], .sl .item r.1.Items])
  quiet := false
noncomputable def D_spec_l4Any (v : V) (os : Objs K TyK) : Option (DSend × DL1Rd) :=
  match v, os with
  | .agg [.lit (.int .i64 v1), .own 1], [.box [.inl false .byte v2, .lit (.int .i64 v3)], .sl .item v4] => some ((⟨v1, v4⟩ : DSend), (⟨v2, v3⟩ : DL1Rd))
  | _, _ => none
noncomputable abbrev G_spec_l4Any (k : Nat) : FuncId → Option (Summ K TyK) := lookT [(121, S_spec_l4Draw k), (76, S_spec_l1Rd_pick k), (122, S_spec_l4Spoil k)]
noncomputable abbrev L_spec_l4Any : List (Nat × Cut K TyK (DSend × DL1Rd)) := []
theorem e_spec_l4Any (k : Nat) (a0 : DL1Rd) : run cod T (G_spec_l4Any k) (lam L_spec_l4Any k) (cutsOf L_spec_l4Any) 1 (finish cod T false 1 [.cell 2 69] D_spec_l4Any) 4000 false [.code (bodyOf Try.f104)] (envOf [0] [.ref 0 0]) [.box [.inl false .byte a0.b, .lit (.int .i64 a0.p)]] = spec_l4Any k a0 := by kernel_rfl
theorem ok_spec_l4Any (k : Nat) : SummOk Try.prog cod 104 (S_spec_l4Any k) := by
  refine summ_of (T := T) Try.f104 (G_spec_l4Any) L_spec_l4Any false [.cell 2 69] 1 D_spec_l4Any mixed (fun k => Known.of tok eok codOk ?_) (fun k => QuietOk.of ?_) Try.func104 (by kernel_rfl) (by kernel_rfl) (by kernel_rfl) (by kernel_rfl) (by kernel_rfl) ?_ ?_ [false] ?_
  · exact all_cons (ok_spec_l4Draw k) (all_cons (ok_spec_l1Rd_pick k) (all_cons (ok_spec_l4Spoil k) (all_nil)))
  · exact all_cons (fun h r => by cases h) (all_cons (fun h r => by cases h) (all_cons (fun h r => by cases h) (all_nil)))
  · intro v os r h
    unfold D_spec_l4Any at h
    split at h <;> first | (cases h; rfl) | cases h
  · refine all_nil
  · intro args os r h
    change (S_spec_l4Any k).run args os = some r at h
    unfold S_spec_l4Any at h; dsimp only at h
    split at h
    · exact ⟨Nat.le_of_ble_eq_true (by kernel_rfl), rfl, rfl, k, 4000, (e_spec_l4Any k ⟨_, _⟩).trans h⟩
    · cases h
noncomputable def S_spec_DrawSendWord (k : Nat) : Summ K TyK where
  R := DSend × Int × Int
  modes := [.pe]
  run := fun args objs => match args, objs with
    | [.inl false .byte v1], [] => spec_DrawSendWord k v1
    | _, _ => none
  ret := fun r => (.tup [.agg [.lit (.int .i64 r.1.Base), .own 0], .lit (.int .i64 r.2.1), .lit (.int .i64 r.2.2)], [.sl .item r.1.Items])
  quiet := false
noncomputable def D_spec_DrawSendWord (v : V) (os : Objs K TyK) : Option (DSend × Int × Int) :=
  match v, os with
  | .tup [.agg [.lit (.int .i64 v1), .own 0], .lit (.int .i64 v2), .lit (.int .i64 v3)], [.sl .item v4] => some ((⟨v1, v4⟩ : DSend), v2, v3)
  | _, _ => none
noncomputable def C_spec_DrawSendWord_7 : Cut K TyK (DSend × Int × Int) where
  slots := [2, 5, 6, 7, 8]
  fn := fun k vs os => match vs, os with
    | [.ref 0 0, .ref 1 0, .ref 2 0, .lit (.int .i64 x0), .lit (.int .i64 x1)], [.box [.lit (.int .i64 x2), .own 3], .box [.inl false .byte x3, .lit (.int .i64 x4)], .box [.lit (.int .i64 x5), .own 4], .sl .item x6, .sl .item x7] => spec_DrawSendWord_l7 k x0 x1 x2 x3 x4 x5 x6 x7
    | _, _ => none
noncomputable def C_spec_DrawSendWord_9 : Cut K TyK (DSend × Int × Int) where
  slots := [2, 6, 7, 8]
  fn := fun k vs os => match vs, os with
    | [.ref 0 0, .ref 1 0, .lit (.int .i64 x0), .lit (.int .i64 x1)], [.box [.lit (.int .i64 x2), .own 2], .box [.lit (.int .i64 x3), .own 3], .sl .item x4, .sl .item x5] => spec_DrawSendWord_l9 k x0 x1 x2 x3 x4 x5
    | _, _ => none
noncomputable abbrev G_spec_DrawSendWord (k : Nat) : FuncId → Option (Summ K TyK) := lookT [(75, S_spec_l1Open k), (104, S_spec_l4Any k), (76, S_spec_l1Rd_pick k)]
noncomputable abbrev L_spec_DrawSendWord : List (Nat × Cut K TyK (DSend × Int × Int)) := [(7, C_spec_DrawSendWord_7), (9, C_spec_DrawSendWord_9)]
theorem c_spec_DrawSendWord_7 (k : Nat) (x0 : Int) (x1 : Int) (x2 : Int) (x3 : List Int) (x4 : Int) (x5 : Int) (x6 : List DItem) (x7 : List DItem) : run cod T (G_spec_DrawSendWord k) (lam L_spec_DrawSendWord k) (cutsOf L_spec_DrawSendWord) 0 (finish cod T false 0 [.cell 2 69, .tmp 3, .tmp 4] D_spec_DrawSendWord) 4000 true (todoAt 7 (bodyOf Try.f62)) (envOf [2, 5, 6, 7, 8] [.ref 0 0, .ref 1 0, .ref 2 0, .lit (.int .i64 x0), .lit (.int .i64 x1)]) [.box [.lit (.int .i64 x2), .own 3], .box [.inl false .byte x3, .lit (.int .i64 x4)], .box [.lit (.int .i64 x5), .own 4], .sl .item x6, .sl .item x7] = spec_DrawSendWord_l7 (k + 1) x0 x1 x2 x3 x4 x5 x6 x7 := by kernel_rfl
theorem c_spec_DrawSendWord_9 (k : Nat) (x0 : Int) (x1 : Int) (x2 : Int) (x3 : Int) (x4 : List DItem) (x5 : List DItem) : run cod T (G_spec_DrawSendWord k) (lam L_spec_DrawSendWord k) (cutsOf L_spec_DrawSendWord) 0 (finish cod T false 0 [.cell 2 69, .tmp 3, .tmp 4] D_spec_DrawSendWord) 4000 true (todoAt 9 (bodyOf Try.f62)) (envOf [2, 6, 7, 8] [.ref 0 0, .ref 1 0, .lit (.int .i64 x0), .lit (.int .i64 x1)]) [.box [.lit (.int .i64 x2), .own 2], .box [.lit (.int .i64 x3), .own 3], .sl .item x4, .sl .item x5] = spec_DrawSendWord_l9 (k + 1) x0 x1 x2 x3 x4 x5 := by kernel_rfl
theorem e_spec_DrawSendWord (k : Nat) (a0 : List Int) : run cod T (G_spec_DrawSendWord k) (lam L_spec_DrawSendWord k) (cutsOf L_spec_DrawSendWord) 0 (finish cod T false 0 [.cell 2 69, .tmp 3, .tmp 4] D_spec_DrawSendWord) 4000 false [.code (bodyOf Try.f62)] (envOf [0] [.inl false .byte a0]) [] = spec_DrawSendWord k a0 := by kernel_rfl
theorem ok_spec_DrawSendWord (k : Nat) : SummOk Try.prog cod 62 (S_spec_DrawSendWord k) := by
  refine summ_of (T := T) Try.f62 (G_spec_DrawSendWord) L_spec_DrawSendWord false [.cell 2 69, .tmp 3, .tmp 4] 0 D_spec_DrawSendWord mixed (fun k => Known.of tok eok codOk ?_) (fun k => QuietOk.of ?_) Try.func62 (by kernel_rfl) (by kernel_rfl) (by kernel_rfl) (by kernel_rfl) (by kernel_rfl) ?_ ?_ [] ?_
  · exact all_cons (ok_spec_l1Open k) (all_cons (ok_spec_l4Any k) (all_cons (ok_spec_l1Rd_pick k) (all_nil)))
  · exact all_cons (fun h r => by cases h) (all_cons (fun h r => by cases h) (all_cons (fun h r => by cases h) (all_nil)))
  · intro v os r h
    unfold D_spec_DrawSendWord at h
    split at h <;> first | (cases h; rfl) | cases h
  · refine all_cons ?_ (all_cons ?_ (all_nil))
    · refine ⟨fun vs os => ?_, by kernel_rfl, fun k vs os r h => ?_⟩
      · show C_spec_DrawSendWord_7.fn 0 vs os = none
        unfold C_spec_DrawSendWord_7; dsimp only; split <;> rfl
      · change C_spec_DrawSendWord_7.fn (k + 1) vs os = some r at h
        unfold C_spec_DrawSendWord_7 at h; dsimp only at h
        split at h
        · exact ⟨4000, (c_spec_DrawSendWord_7 k _ _ _ _ _ _ _ _).trans h⟩
        · cases h
    · refine ⟨fun vs os => ?_, by kernel_rfl, fun k vs os r h => ?_⟩
      · show C_spec_DrawSendWord_9.fn 0 vs os = none
        unfold C_spec_DrawSendWord_9; dsimp only; split <;> rfl
      · change C_spec_DrawSendWord_9.fn (k + 1) vs os = some r at h
        unfold C_spec_DrawSendWord_9 at h; dsimp only at h
        split at h
        · exact ⟨4000, (c_spec_DrawSendWord_9 k _ _ _ _ _ _).trans h⟩
        · cases h
  · intro args os r h
    change (S_spec_DrawSendWord k).run args os = some r at h
    unfold S_spec_DrawSendWord at h; dsimp only at h
    split at h
    · exact ⟨Nat.le_of_ble_eq_true (by kernel_rfl), rfl, rfl, k, 4000, (e_spec_DrawSendWord k _).trans h⟩
    · cases h
noncomputable def S_laws_wSend (k : Nat) : Summ K TyK where
  R := Bool
  modes := [.bo, .bo]
  run := fun args objs => match args, objs with
    | [.agg [.lit (.int .i64 v1), .inl true .item v2], .agg [.lit (.int .i64 v3), .inl true .item v4]], [] => laws_wSend k (⟨v1, v2⟩ : DSend) (⟨v3, v4⟩ : DSend)
    | _, _ => none
  ret := fun r => (.lit (.bool r), [])
  quiet := true
noncomputable def D_laws_wSend (v : V) (os : Objs K TyK) : Option (Bool) :=
  match v, os with
  | .lit (.bool v1), [] => some v1
  | _, _ => none
noncomputable def C_laws_wSend_4 : Cut K TyK (Bool) where
  slots := [2, 3, 5]
  fn := fun k vs os => match vs, os with
    | [.ref 0 0, .ref 1 0, .lit (.int .i64 x0)], [.box [.lit (.int .i64 x1), .inl true .item x2], .box [.lit (.int .i64 x3), .inl true .item x4]] => laws_wSend_l4 k x0 x1 x2 x3 x4
    | _, _ => none
noncomputable abbrev G_laws_wSend (k : Nat) : FuncId → Option (Summ K TyK) := lookT []
noncomputable abbrev L_laws_wSend : List (Nat × Cut K TyK (Bool)) := [(4, C_laws_wSend_4)]
theorem c_laws_wSend_4 (k : Nat) (x0 : Int) (x1 : Int) (x2 : List DItem) (x3 : Int) (x4 : List DItem) : run cod T (G_laws_wSend k) (lam L_laws_wSend k) (cutsOf L_laws_wSend) 0 (finish cod T false 0 [.tmp 4] D_laws_wSend) 4000 true (todoAt 4 (bodyOf Try.f63)) (envOf [2, 3, 5] [.ref 0 0, .ref 1 0, .lit (.int .i64 x0)]) [.box [.lit (.int .i64 x1), .inl true .item x2], .box [.lit (.int .i64 x3), .inl true .item x4]] = laws_wSend_l4 (k + 1) x0 x1 x2 x3 x4 := by kernel_rfl
theorem e_laws_wSend (k : Nat) (a0 : DSend) (a1 : DSend) : run cod T (G_laws_wSend k) (lam L_laws_wSend k) (cutsOf L_laws_wSend) 0 (finish cod T false 0 [.tmp 4] D_laws_wSend) 4000 false [.code (bodyOf Try.f63)] (envOf [0, 1] [.agg [.lit (.int .i64 a0.Base), .inl true .item a0.Items], .agg [.lit (.int .i64 a1.Base), .inl true .item a1.Items]]) [] = laws_wSend k a0 a1 := by kernel_rfl
theorem ok_laws_wSend (k : Nat) : SummOk Try.prog cod 63 (S_laws_wSend k) := by
  refine summ_of (T := T) Try.f63 (G_laws_wSend) L_laws_wSend false [.tmp 4] 0 D_laws_wSend mixed (fun k => Known.of tok eok codOk ?_) (fun k => QuietOk.of ?_) Try.func63 (by kernel_rfl) (by kernel_rfl) (by kernel_rfl) (by kernel_rfl) (by kernel_rfl) ?_ ?_ [] ?_
  · exact all_nil
  · exact all_nil
  · intro v os r h
    unfold D_laws_wSend at h
    split at h <;> first | (cases h; rfl) | cases h
  · refine all_cons ?_ (all_nil)
    · refine ⟨fun vs os => ?_, by kernel_rfl, fun k vs os r h => ?_⟩
      · show C_laws_wSend_4.fn 0 vs os = none
        unfold C_laws_wSend_4; dsimp only; split <;> rfl
      · change C_laws_wSend_4.fn (k + 1) vs os = some r at h
        unfold C_laws_wSend_4 at h; dsimp only at h
        split at h
        · exact ⟨4000, (c_laws_wSend_4 k _ _ _ _ _).trans h⟩
        · cases h
  · intro args os r h
    change (S_laws_wSend k).run args os = some r at h
    unfold S_laws_wSend at h; dsimp only at h
    split at h
    · exact ⟨Nat.le_of_ble_eq_true (by kernel_rfl), rfl, rfl, k, 4000, (e_laws_wSend k ⟨_, _⟩ ⟨_, _⟩).trans h⟩
    · cases h
noncomputable def S_laws_FnSends (k : Nat) : Summ K TyK where
  R := Bool
  modes := [.pe]
  run := fun args objs => match args, objs with
    | [.inl false .byte v1], [] => laws_FnSends k v1
    | _, _ => none
  ret := fun r => (.lit (.bool r), [])
  quiet := true
noncomputable def D_laws_FnSends (v : V) (os : Objs K TyK) : Option (Bool) :=
  match v, os with
  | .lit (.bool v1), [] => some v1
  | _, _ => none
noncomputable def C_laws_FnSends_13 : Cut K TyK (Bool) where
  slots := [6, 9, 10, 11]
  fn := fun k vs os => match vs, os with
    | [.ref 0 0, .own 1, .own 2, .lit (.int .i64 x0)], [.box [.lit (.int .i64 x1), .own 3], .sl .int x2, .sl .int x3, .sl .item x4] => laws_FnSends_l13 k x0 x1 x2 x3 x4
    | _, _ => none
noncomputable def C_laws_FnSends_19 : Cut K TyK (Bool) where
  slots := [6, 9, 10, 11, 12, 13, 14]
  fn := fun k vs os => match vs, os with
    | [.ref 0 0, .own 1, .own 2, .lit (.int .i64 x0), .ref 3 0, .own 4, .lit (.int .i64 x1)], [.box [.lit (.int .i64 x2), .own 5], .sl .int x3, .sl .int x4, .box [.lit (.int .i64 x5), .own 6], .sl .int x6, .sl .item x7, .sl .item x8] => laws_FnSends_l19 k x0 x1 x2 x3 x4 x5 x6 x7 x8
    | _, _ => none
noncomputable def C_laws_FnSends_30 : Cut K TyK (Bool) where
  slots := [6, 9, 16]
  fn := fun k vs os => match vs, os with
    | [.ref 0 0, .own 1, .lit (.int .i64 x0)], [.box [.lit (.int .i64 x1), .own 2], .sl .int x2, .sl .item x3] => laws_FnSends_l30 k x0 x1 x2 x3
    | _, _ => none
noncomputable abbrev G_laws_FnSends (k : Nat) : FuncId → Option (Summ K TyK) := lookT [(62, S_spec_DrawSendWord k), (46, S_impl_SendWord k), (44, S_spec_SendWord k), (63, S_laws_wSend k), (64, S_spec_ValidSend k), (53, S_impl_SendTick k), (65, S_impl_ValidSend k)]
noncomputable abbrev L_laws_FnSends : List (Nat × Cut K TyK (Bool)) := [(13, C_laws_FnSends_13), (19, C_laws_FnSends_19), (30, C_laws_FnSends_30)]
theorem c_laws_FnSends_13 (k : Nat) (x0 : Int) (x1 : Int) (x2 : List Int) (x3 : List Int) (x4 : List DItem) : run cod T (G_laws_FnSends k) (lam L_laws_FnSends k) (cutsOf L_laws_FnSends) 0 (finish cod T false 0 [.tmp 2] D_laws_FnSends) 4000 true (todoAt 13 (bodyOf Try.f13)) (envOf [6, 9, 10, 11] [.ref 0 0, .own 1, .own 2, .lit (.int .i64 x0)]) [.box [.lit (.int .i64 x1), .own 3], .sl .int x2, .sl .int x3, .sl .item x4] = laws_FnSends_l13 (k + 1) x0 x1 x2 x3 x4 := by kernel_rfl
theorem c_laws_FnSends_19 (k : Nat) (x0 : Int) (x1 : Int) (x2 : Int) (x3 : List Int) (x4 : List Int) (x5 : Int) (x6 : List Int) (x7 : List DItem) (x8 : List DItem) : run cod T (G_laws_FnSends k) (lam L_laws_FnSends k) (cutsOf L_laws_FnSends) 0 (finish cod T false 0 [.tmp 2] D_laws_FnSends) 4000 true (todoAt 19 (bodyOf Try.f13)) (envOf [6, 9, 10, 11, 12, 13, 14] [.ref 0 0, .own 1, .own 2, .lit (.int .i64 x0), .ref 3 0, .own 4, .lit (.int .i64 x1)]) [.box [.lit (.int .i64 x2), .own 5], .sl .int x3, .sl .int x4, .box [.lit (.int .i64 x5), .own 6], .sl .int x6, .sl .item x7, .sl .item x8] = laws_FnSends_l19 (k + 1) x0 x1 x2 x3 x4 x5 x6 x7 x8 := by kernel_rfl
theorem c_laws_FnSends_30 (k : Nat) (x0 : Int) (x1 : Int) (x2 : List Int) (x3 : List DItem) : run cod T (G_laws_FnSends k) (lam L_laws_FnSends k) (cutsOf L_laws_FnSends) 0 (finish cod T false 0 [.tmp 2] D_laws_FnSends) 4000 true (todoAt 30 (bodyOf Try.f13)) (envOf [6, 9, 16] [.ref 0 0, .own 1, .lit (.int .i64 x0)]) [.box [.lit (.int .i64 x1), .own 2], .sl .int x2, .sl .item x3] = laws_FnSends_l30 (k + 1) x0 x1 x2 x3 := by kernel_rfl
theorem e_laws_FnSends (k : Nat) (a0 : List Int) : run cod T (G_laws_FnSends k) (lam L_laws_FnSends k) (cutsOf L_laws_FnSends) 0 (finish cod T false 0 [.tmp 2] D_laws_FnSends) 4000 false [.code (bodyOf Try.f13)] (envOf [0] [.inl false .byte a0]) [] = laws_FnSends k a0 := by kernel_rfl
theorem ok_laws_FnSends (k : Nat) : SummOk Try.prog cod 13 (S_laws_FnSends k) := by
  refine summ_of (T := T) Try.f13 (G_laws_FnSends) L_laws_FnSends false [.tmp 2] 0 D_laws_FnSends mixed (fun k => Known.of tok eok codOk ?_) (fun k => QuietOk.of ?_) Try.func13 (by kernel_rfl) (by kernel_rfl) (by kernel_rfl) (by kernel_rfl) (by kernel_rfl) ?_ ?_ [] ?_
  · exact all_cons (ok_spec_DrawSendWord k) (all_cons (ok_impl_SendWord k) (all_cons (ok_spec_SendWord k) (all_cons (ok_laws_wSend k) (all_cons (ok_spec_ValidSend k) (all_cons (ok_impl_SendTick k) (all_cons (ok_impl_ValidSend k) (all_nil)))))))
  · exact all_cons (fun h r => by cases h) (all_cons (fun h r => by cases h) (all_cons (fun h r => by cases h) (all_cons (fun h r => ⟨rfl, rfl⟩) (all_cons (fun h r => ⟨rfl, rfl⟩) (all_cons (fun h r => by cases h) (all_cons (fun h r => ⟨rfl, rfl⟩) (all_nil)))))))
  · intro v os r h
    unfold D_laws_FnSends at h
    split at h <;> first | (cases h; rfl) | cases h
  · refine all_cons ?_ (all_cons ?_ (all_cons ?_ (all_nil)))
    · refine ⟨fun vs os => ?_, by kernel_rfl, fun k vs os r h => ?_⟩
      · show C_laws_FnSends_13.fn 0 vs os = none
        unfold C_laws_FnSends_13; dsimp only; split <;> rfl
      · change C_laws_FnSends_13.fn (k + 1) vs os = some r at h
        unfold C_laws_FnSends_13 at h; dsimp only at h
        split at h
        · exact ⟨4000, (c_laws_FnSends_13 k _ _ _ _ _).trans h⟩
        · cases h
    · refine ⟨fun vs os => ?_, by kernel_rfl, fun k vs os r h => ?_⟩
      · show C_laws_FnSends_19.fn 0 vs os = none
        unfold C_laws_FnSends_19; dsimp only; split <;> rfl
      · change C_laws_FnSends_19.fn (k + 1) vs os = some r at h
        unfold C_laws_FnSends_19 at h; dsimp only at h
        split at h
        · exact ⟨4000, (c_laws_FnSends_19 k _ _ _ _ _ _ _ _ _).trans h⟩
        · cases h
    · refine ⟨fun vs os => ?_, by kernel_rfl, fun k vs os r h => ?_⟩
      · show C_laws_FnSends_30.fn 0 vs os = none
        unfold C_laws_FnSends_30; dsimp only; split <;> rfl
      · change C_laws_FnSends_30.fn (k + 1) vs os = some r at h
        unfold C_laws_FnSends_30 at h; dsimp only at h
        split at h
        · exact ⟨4000, (c_laws_FnSends_30 k _ _ _ _).trans h⟩
        · cases h
  · intro args os r h
    change (S_laws_FnSends k).run args os = some r at h
    unfold S_laws_FnSends at h; dsimp only at h
    split at h
    · exact ⟨Nat.le_of_ble_eq_true (by kernel_rfl), rfl, rfl, k, 4000, (e_laws_FnSends k _).trans h⟩
    · cases h
end Km.X
