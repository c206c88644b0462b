/- A part of the proof of FnExactReadPacket: each function does what its reading says. There is no condition. -/
import Derived.Test.YtlgdbdkjkjocjaaKmSeat
import Derived.Test.YtlgdbdkjkjocjaaKxDef
namespace Km.X
open Go Km Go.Proofs
set_option linter.unusedVariables false
set_option maxRecDepth 100000
set_option maxHeartbeats 4000000
noncomputable def S_spec_l1In (k : Nat) : Summ K TyK where
  R := Bool
  modes := [.bo, .bo, .bo]
  run := fun args objs => match args, objs with
    | [.lit (.int .i64 v1), .lit (.int .i64 v2), .lit (.int .i64 v3)], [] => spec_l1In k v1 v2 v3
    | _, _ => none
  ret := fun r => (.lit (.bool r), [])
  quiet := true
noncomputable def D_spec_l1In (v : V) (os : Objs K TyK) : Option (Bool) :=
  match v, os with
  | .lit (.bool v1), [] => some v1
  | _, _ => none
noncomputable abbrev G_spec_l1In (k : Nat) : FuncId → Option (Summ K TyK) := lookT []
noncomputable abbrev L_spec_l1In : List (Nat × Cut K TyK (Bool)) := []
theorem e_spec_l1In (k : Nat) (a0 : Int) (a1 : Int) (a2 : Int) : run cod T (G_spec_l1In k) (lam L_spec_l1In k) (cutsOf L_spec_l1In) 0 (finish cod T false 0 [.tmp 6] D_spec_l1In) 4000 false [.code (bodyOf Try.f79)] (envOf [0, 1, 2] [.lit (.int .i64 a0), .lit (.int .i64 a1), .lit (.int .i64 a2)]) [] = spec_l1In k a0 a1 a2 := by kernel_rfl
theorem ok_spec_l1In (k : Nat) : SummOk Try.prog cod 79 (S_spec_l1In k) := by
  refine summ_of (T := T) Try.f79 (G_spec_l1In) L_spec_l1In false [.tmp 6] 0 D_spec_l1In mixed (fun k => Known.of tok eok codOk ?_) (fun k => QuietOk.of ?_) Try.func79 (by kernel_rfl) (by kernel_rfl) (by kernel_rfl) (by kernel_rfl) (by kernel_rfl) ?_ ?_ [] ?_
  · exact all_nil
  · exact all_nil
  · intro v os r h
    unfold D_spec_l1In at h
    split at h <;> first | (cases h; rfl) | cases h
  · refine all_nil
  · intro args os r h
    change (S_spec_l1In k).run args os = some r at h
    unfold S_spec_l1In at h; dsimp only at h
    split at h
    · exact ⟨Nat.le_of_ble_eq_true (by kernel_rfl), rfl, rfl, k, 4000, (e_spec_l1In k _ _ _).trans h⟩
    · cases h
noncomputable def S_spec_l1Read (k : Nat) : Summ K TyK where
  R := Int
  modes := [.bo]
  run := fun args objs => match args, objs with
    | [.lit (.string v1)], [] => spec_l1Read k v1
    | _, _ => none
  ret := fun r => (.lit (.int .i64 r), [])
  quiet := true
noncomputable def D_spec_l1Read (v : V) (os : Objs K TyK) : Option (Int) :=
  match v, os with
  | .lit (.int .i64 v1), [] => some v1
  | _, _ => none
noncomputable def C_spec_l1Read_3 : Cut K TyK (Int) where
  slots := [0, 3, 4]
  fn := fun k vs os => match vs, os with
    | [.lit (.string x0), .lit (.int .i64 x1), .lit (.int .i64 x2)], [] => spec_l1Read_l3 k x0 x1 x2
    | _, _ => none
noncomputable abbrev G_spec_l1Read (k : Nat) : FuncId → Option (Summ K TyK) := lookT []
noncomputable abbrev L_spec_l1Read : List (Nat × Cut K TyK (Int)) := [(3, C_spec_l1Read_3)]
theorem c_spec_l1Read_3 (k : Nat) (x0 : ByteArray) (x1 : Int) (x2 : Int) : run cod T (G_spec_l1Read k) (lam L_spec_l1Read k) (cutsOf L_spec_l1Read) 0 (finish cod T false 0 [.tmp 2] D_spec_l1Read) 4000 true (todoAt 3 (bodyOf Try.f80)) (envOf [0, 3, 4] [.lit (.string x0), .lit (.int .i64 x1), .lit (.int .i64 x2)]) [] = spec_l1Read_l3 (k + 1) x0 x1 x2 := by kernel_rfl
theorem e_spec_l1Read (k : Nat) (a0 : ByteArray) : run cod T (G_spec_l1Read k) (lam L_spec_l1Read k) (cutsOf L_spec_l1Read) 0 (finish cod T false 0 [.tmp 2] D_spec_l1Read) 4000 false [.code (bodyOf Try.f80)] (envOf [0] [.lit (.string a0)]) [] = spec_l1Read k a0 := by kernel_rfl
theorem ok_spec_l1Read (k : Nat) : SummOk Try.prog cod 80 (S_spec_l1Read k) := by
  refine summ_of (T := T) Try.f80 (G_spec_l1Read) L_spec_l1Read false [.tmp 2] 0 D_spec_l1Read mixed (fun k => Known.of tok eok codOk ?_) (fun k => QuietOk.of ?_) Try.func80 (by kernel_rfl) (by kernel_rfl) (by kernel_rfl) (by kernel_rfl) (by kernel_rfl) ?_ ?_ [] ?_
  · exact all_nil
  · exact all_nil
  · intro v os r h
    unfold D_spec_l1Read at h
    split at h <;> first | (cases h; rfl) | cases h
  · refine all_cons ?_ (all_nil)
    · refine ⟨fun vs os => ?_, by kernel_rfl, fun k vs os r h => ?_⟩
      · show C_spec_l1Read_3.fn 0 vs os = none
        unfold C_spec_l1Read_3; dsimp only; split <;> rfl
      · change C_spec_l1Read_3.fn (k + 1) vs os = some r at h
        unfold C_spec_l1Read_3 at h; dsimp only at h
        split at h
        · exact ⟨4000, (c_spec_l1Read_3 k _ _ _).trans h⟩
        · cases h
  · intro args os r h
    change (S_spec_l1Read k).run args os = some r at h
    unfold S_spec_l1Read at h; dsimp only at h
    split at h
    · exact ⟨Nat.le_of_ble_eq_true (by kernel_rfl), rfl, rfl, k, 4000, (e_spec_l1Read k _).trans h⟩
    · cases h
noncomputable def S_spec_l2Ok (k : Nat) : Summ K TyK where
  R := Bool
  modes := [.bo]
  run := fun args objs => match args, objs with
    | [.agg [.lit (.int .i64 v1), .lit (.int .i64 v2), .lit (.int .i64 v3), .lit (.int .i64 v4), .lit (.int .i64 v5), .lit (.int .i64 v6), .lit (.int .i64 v7), .lit (.bool v8), .lit (.string v9)]], [] => spec_l2Ok k (⟨v1, v2, v3, v4, v5, v6, v7, v8, v9⟩ : DPacket)
    | _, _ => none
  ret := fun r => (.lit (.bool r), [])
  quiet := true
noncomputable def D_spec_l2Ok (v : V) (os : Objs K TyK) : Option (Bool) :=
  match v, os with
  | .lit (.bool v1), [] => some v1
  | _, _ => none
noncomputable abbrev G_spec_l2Ok (k : Nat) : FuncId → Option (Summ K TyK) := lookT [(79, S_spec_l1In k)]
noncomputable abbrev L_spec_l2Ok : List (Nat × Cut K TyK (Bool)) := []
theorem e_spec_l2Ok (k : Nat) (a0 : DPacket) : run cod T (G_spec_l2Ok k) (lam L_spec_l2Ok k) (cutsOf L_spec_l2Ok) 0 (finish cod T false 0 [.tmp 2] D_spec_l2Ok) 4000 false [.code (bodyOf Try.f109)] (envOf [0] [.agg [.lit (.int .i64 a0.Kind), .lit (.int .i64 a0.From), .lit (.int .i64 a0.Mine), .lit (.int .i64 a0.Yours), .lit (.int .i64 a0.Next), .lit (.int .i64 a0.Mask), .lit (.int .i64 a0.Seq), .lit (.bool a0.Last), .lit (.string a0.Part)]]) [] = spec_l2Ok k a0 := by kernel_rfl
theorem ok_spec_l2Ok (k : Nat) : SummOk Try.prog cod 109 (S_spec_l2Ok k) := by
  refine summ_of (T := T) Try.f109 (G_spec_l2Ok) L_spec_l2Ok false [.tmp 2] 0 D_spec_l2Ok mixed (fun k => Known.of tok eok codOk ?_) (fun k => QuietOk.of ?_) Try.func109 (by kernel_rfl) (by kernel_rfl) (by kernel_rfl) (by kernel_rfl) (by kernel_rfl) ?_ ?_ [] ?_
  · exact all_cons (ok_spec_l1In k) (all_nil)
  · exact all_cons (fun h r => ⟨rfl, rfl⟩) (all_nil)
  · intro v os r h
    unfold D_spec_l2Ok at h
    split at h <;> first | (cases h; rfl) | cases h
  · refine all_nil
  · intro args os r h
    change (S_spec_l2Ok k).run args os = some r at h
    unfold S_spec_l2Ok at h; dsimp only at h
    split at h
    · exact ⟨Nat.le_of_ble_eq_true (by kernel_rfl), rfl, rfl, k, 4000, (e_spec_l2Ok k ⟨_, _, _, _, _, _, _, _, _⟩).trans h⟩
    · cases h
noncomputable def S_spec_l1Number (k : Nat) : Summ K TyK where
  R := ByteArray
  modes := [.bo, .bo]
  run := fun args objs => match args, objs with
    | [.lit (.int .i64 v1), .lit (.int .i64 v2)], [] => spec_l1Number k v1 v2
    | _, _ => none
  ret := fun r => (.lit (.string r), [])
  quiet := true
noncomputable def D_spec_l1Number (v : V) (os : Objs K TyK) : Option (ByteArray) :=
  match v, os with
  | .lit (.string v1), [] => some v1
  | _, _ => none
noncomputable def C_spec_l1Number_3 : Cut K TyK (ByteArray) where
  slots := [0, 1, 5, 6]
  fn := fun k vs os => match vs, os with
    | [.lit (.int .i64 x0), .lit (.int .i64 x1), .lit (.string x2), .lit (.int .i64 x3)], [] => spec_l1Number_l3 k x0 x1 x2 x3
    | _, _ => none
noncomputable abbrev G_spec_l1Number (k : Nat) : FuncId → Option (Summ K TyK) := lookT []
noncomputable abbrev L_spec_l1Number : List (Nat × Cut K TyK (ByteArray)) := [(3, C_spec_l1Number_3)]
theorem c_spec_l1Number_3 (k : Nat) (x0 : Int) (x1 : Int) (x2 : ByteArray) (x3 : Int) : run cod T (G_spec_l1Number k) (lam L_spec_l1Number k) (cutsOf L_spec_l1Number) 0 (finish cod T false 0 [.tmp 4] D_spec_l1Number) 4000 true (todoAt 3 (bodyOf Try.f125)) (envOf [0, 1, 5, 6] [.lit (.int .i64 x0), .lit (.int .i64 x1), .lit (.string x2), .lit (.int .i64 x3)]) [] = spec_l1Number_l3 (k + 1) x0 x1 x2 x3 := by kernel_rfl
theorem e_spec_l1Number (k : Nat) (a0 : Int) (a1 : Int) : run cod T (G_spec_l1Number k) (lam L_spec_l1Number k) (cutsOf L_spec_l1Number) 0 (finish cod T false 0 [.tmp 4] D_spec_l1Number) 4000 false [.code (bodyOf Try.f125)] (envOf [0, 1] [.lit (.int .i64 a0), .lit (.int .i64 a1)]) [] = spec_l1Number k a0 a1 := by kernel_rfl
theorem ok_spec_l1Number (k : Nat) : SummOk Try.prog cod 125 (S_spec_l1Number k) := by
  refine summ_of (T := T) Try.f125 (G_spec_l1Number) L_spec_l1Number false [.tmp 4] 0 D_spec_l1Number mixed (fun k => Known.of tok eok codOk ?_) (fun k => QuietOk.of ?_) Try.func125 (by kernel_rfl) (by kernel_rfl) (by kernel_rfl) (by kernel_rfl) (by kernel_rfl) ?_ ?_ [] ?_
  · exact all_nil
  · exact all_nil
  · intro v os r h
    unfold D_spec_l1Number at h
    split at h <;> first | (cases h; rfl) | cases h
  · refine all_cons ?_ (all_nil)
    · refine ⟨fun vs os => ?_, by kernel_rfl, fun k vs os r h => ?_⟩
      · show C_spec_l1Number_3.fn 0 vs os = none
        unfold C_spec_l1Number_3; dsimp only; split <;> rfl
      · change C_spec_l1Number_3.fn (k + 1) vs os = some r at h
        unfold C_spec_l1Number_3 at h; dsimp only at h
        split at h
        · exact ⟨4000, (c_spec_l1Number_3 k _ _ _ _).trans h⟩
        · cases h
  · intro args os r h
    change (S_spec_l1Number k).run args os = some r at h
    unfold S_spec_l1Number at h; dsimp only at h
    split at h
    · exact ⟨Nat.le_of_ble_eq_true (by kernel_rfl), rfl, rfl, k, 4000, (e_spec_l1Number k _ _).trans h⟩
    · cases h
noncomputable def S_spec_l2Body (k : Nat) : Summ K TyK where
  R := ByteArray
  modes := [.bo]
  run := fun args objs => match args, objs with
    | [.agg [.lit (.int .i64 v1), .lit (.int .i64 v2), .lit (.int .i64 v3), .lit (.int .i64 v4), .lit (.int .i64 v5), .lit (.int .i64 v6), .lit (.int .i64 v7), .lit (.bool v8), .lit (.string v9)]], [] => spec_l2Body k (⟨v1, v2, v3, v4, v5, v6, v7, v8, v9⟩ : DPacket)
    | _, _ => none
  ret := fun r => (.lit (.string r), [])
  quiet := true
noncomputable def D_spec_l2Body (v : V) (os : Objs K TyK) : Option (ByteArray) :=
  match v, os with
  | .lit (.string v1), [] => some v1
  | _, _ => none
noncomputable def C_spec_l2Body_7 : Cut K TyK (ByteArray) where
  slots := [1, 3, 4]
  fn := fun k vs os => match vs, os with
    | [.ref 0 0, .lit (.string x0), .lit (.int .i64 x1)], [.box [.lit (.int .i64 x2), .lit (.int .i64 x3), .lit (.int .i64 x4), .lit (.int .i64 x5), .lit (.int .i64 x6), .lit (.int .i64 x7), .lit (.int .i64 x8), .lit (.bool x9), .lit (.string x10)]] => spec_l2Body_l7 k x0 x1 x2 x3 x4 x5 x6 x7 x8 x9 x10
    | _, _ => none
noncomputable abbrev G_spec_l2Body (k : Nat) : FuncId → Option (Summ K TyK) := lookT [(125, S_spec_l1Number k)]
noncomputable abbrev L_spec_l2Body : List (Nat × Cut K TyK (ByteArray)) := [(7, C_spec_l2Body_7)]
theorem c_spec_l2Body_7 (k : Nat) (x0 : ByteArray) (x1 : Int) (x2 : Int) (x3 : Int) (x4 : Int) (x5 : Int) (x6 : Int) (x7 : Int) (x8 : Int) (x9 : Bool) (x10 : ByteArray) : run cod T (G_spec_l2Body k) (lam L_spec_l2Body k) (cutsOf L_spec_l2Body) 0 (finish cod T false 0 [.tmp 2] D_spec_l2Body) 4000 true (todoAt 7 (bodyOf Try.f111)) (envOf [1, 3, 4] [.ref 0 0, .lit (.string x0), .lit (.int .i64 x1)]) [.box [.lit (.int .i64 x2), .lit (.int .i64 x3), .lit (.int .i64 x4), .lit (.int .i64 x5), .lit (.int .i64 x6), .lit (.int .i64 x7), .lit (.int .i64 x8), .lit (.bool x9), .lit (.string x10)]] = spec_l2Body_l7 (k + 1) x0 x1 x2 x3 x4 x5 x6 x7 x8 x9 x10 := by kernel_rfl
theorem e_spec_l2Body (k : Nat) (a0 : DPacket) : run cod T (G_spec_l2Body k) (lam L_spec_l2Body k) (cutsOf L_spec_l2Body) 0 (finish cod T false 0 [.tmp 2] D_spec_l2Body) 4000 false [.code (bodyOf Try.f111)] (envOf [0] [.agg [.lit (.int .i64 a0.Kind), .lit (.int .i64 a0.From), .lit (.int .i64 a0.Mine), .lit (.int .i64 a0.Yours), .lit (.int .i64 a0.Next), .lit (.int .i64 a0.Mask), .lit (.int .i64 a0.Seq), .lit (.bool a0.Last), .lit (.string a0.Part)]]) [] = spec_l2Body k a0 := by kernel_rfl
theorem ok_spec_l2Body (k : Nat) : SummOk Try.prog cod 111 (S_spec_l2Body k) := by
  refine summ_of (T := T) Try.f111 (G_spec_l2Body) L_spec_l2Body false [.tmp 2] 0 D_spec_l2Body mixed (fun k => Known.of tok eok codOk ?_) (fun k => QuietOk.of ?_) Try.func111 (by kernel_rfl) (by kernel_rfl) (by kernel_rfl) (by kernel_rfl) (by kernel_rfl) ?_ ?_ [] ?_
  · exact all_cons (ok_spec_l1Number k) (all_nil)
  · exact all_cons (fun h r => ⟨rfl, rfl⟩) (all_nil)
  · intro v os r h
    unfold D_spec_l2Body at h
    split at h <;> first | (cases h; rfl) | cases h
  · refine all_cons ?_ (all_nil)
    · refine ⟨fun vs os => ?_, by kernel_rfl, fun k vs os r h => ?_⟩
      · show C_spec_l2Body_7.fn 0 vs os = none
        unfold C_spec_l2Body_7; dsimp only; split <;> rfl
      · change C_spec_l2Body_7.fn (k + 1) vs os = some r at h
        unfold C_spec_l2Body_7 at h; dsimp only at h
        split at h
        · exact ⟨4000, (c_spec_l2Body_7 k _ _ _ _ _ _ _ _ _ _ _).trans h⟩
        · cases h
  · intro args os r h
    change (S_spec_l2Body k).run args os = some r at h
    unfold S_spec_l2Body at h; dsimp only at h
    split at h
    · exact ⟨Nat.le_of_ble_eq_true (by kernel_rfl), rfl, rfl, k, 4000, (e_spec_l2Body k ⟨_, _, _, _, _, _, _, _, _⟩).trans h⟩
    · cases h
noncomputable def S_spec_Tag (k : Nat) : Summ K TyK where
  R := ByteArray
  modes := [.bo, .bo, .bo]
  run := fun args objs => match args, objs with
    | [.lit (.string v1), .lit (.string v2), .lit (.int .i64 v3)], [] => spec_Tag k v1 v2 v3
    | _, _ => none
  ret := fun r => (.lit (.string r), [])
  quiet := true
noncomputable def D_spec_Tag (v : V) (os : Objs K TyK) : Option (ByteArray) :=
  match v, os with
  | .lit (.string v1), [] => some v1
  | _, _ => none
noncomputable def C_spec_Tag_6 : Cut K TyK (ByteArray) where
  slots := [2, 7, 8, 9]
  fn := fun k vs os => match vs, os with
    | [.lit (.int .i64 x0), .lit (.string x1), .lit (.int .u64 x2), .lit (.int .i64 x3)], [] => spec_Tag_l6 k x0 x1 x2 x3
    | _, _ => none
noncomputable def C_spec_Tag_11 : Cut K TyK (ByteArray) where
  slots := [2, 8, 10, 11]
  fn := fun k vs os => match vs, os with
    | [.lit (.int .i64 x0), .lit (.int .u64 x1), .lit (.string x2), .lit (.int .i64 x3)], [] => spec_Tag_l11 k x0 x1 x2 x3
    | _, _ => none
noncomputable abbrev G_spec_Tag (k : Nat) : FuncId → Option (Summ K TyK) := lookT [(79, S_spec_l1In k)]
noncomputable abbrev L_spec_Tag : List (Nat × Cut K TyK (ByteArray)) := [(6, C_spec_Tag_6), (11, C_spec_Tag_11)]
theorem c_spec_Tag_6 (k : Nat) (x0 : Int) (x1 : ByteArray) (x2 : Int) (x3 : Int) : run cod T (G_spec_Tag k) (lam L_spec_Tag k) (cutsOf L_spec_Tag) 0 (finish cod T false 0 [.tmp 6] D_spec_Tag) 4000 true (todoAt 6 (bodyOf Try.f110)) (envOf [2, 7, 8, 9] [.lit (.int .i64 x0), .lit (.string x1), .lit (.int .u64 x2), .lit (.int .i64 x3)]) [] = spec_Tag_l6 (k + 1) x0 x1 x2 x3 := by kernel_rfl
theorem c_spec_Tag_11 (k : Nat) (x0 : Int) (x1 : Int) (x2 : ByteArray) (x3 : Int) : run cod T (G_spec_Tag k) (lam L_spec_Tag k) (cutsOf L_spec_Tag) 0 (finish cod T false 0 [.tmp 6] D_spec_Tag) 4000 true (todoAt 11 (bodyOf Try.f110)) (envOf [2, 8, 10, 11] [.lit (.int .i64 x0), .lit (.int .u64 x1), .lit (.string x2), .lit (.int .i64 x3)]) [] = spec_Tag_l11 (k + 1) x0 x1 x2 x3 := by kernel_rfl
theorem e_spec_Tag (k : Nat) (a0 : ByteArray) (a1 : ByteArray) (a2 : Int) : run cod T (G_spec_Tag k) (lam L_spec_Tag k) (cutsOf L_spec_Tag) 0 (finish cod T false 0 [.tmp 6] D_spec_Tag) 4000 false [.code (bodyOf Try.f110)] (envOf [0, 1, 2] [.lit (.string a0), .lit (.string a1), .lit (.int .i64 a2)]) [] = spec_Tag k a0 a1 a2 := by kernel_rfl
theorem ok_spec_Tag (k : Nat) : SummOk Try.prog cod 110 (S_spec_Tag k) := by
  refine summ_of (T := T) Try.f110 (G_spec_Tag) L_spec_Tag false [.tmp 6] 0 D_spec_Tag mixed (fun k => Known.of tok eok codOk ?_) (fun k => QuietOk.of ?_) Try.func110 (by kernel_rfl) (by kernel_rfl) (by kernel_rfl) (by kernel_rfl) (by kernel_rfl) ?_ ?_ [] ?_
  · exact all_cons (ok_spec_l1In k) (all_nil)
  · exact all_cons (fun h r => ⟨rfl, rfl⟩) (all_nil)
  · intro v os r h
    unfold D_spec_Tag at h
    split at h <;> first | (cases h; rfl) | cases h
  · refine all_cons ?_ (all_cons ?_ (all_nil))
    · refine ⟨fun vs os => ?_, by kernel_rfl, fun k vs os r h => ?_⟩
      · show C_spec_Tag_6.fn 0 vs os = none
        unfold C_spec_Tag_6; dsimp only; split <;> rfl
      · change C_spec_Tag_6.fn (k + 1) vs os = some r at h
        unfold C_spec_Tag_6 at h; dsimp only at h
        split at h
        · exact ⟨4000, (c_spec_Tag_6 k _ _ _ _).trans h⟩
        · cases h
    · refine ⟨fun vs os => ?_, by kernel_rfl, fun k vs os r h => ?_⟩
      · show C_spec_Tag_11.fn 0 vs os = none
        unfold C_spec_Tag_11; dsimp only; split <;> rfl
      · change C_spec_Tag_11.fn (k + 1) vs os = some r at h
        unfold C_spec_Tag_11 at h; dsimp only at h
        split at h
        · exact ⟨4000, (c_spec_Tag_11 k _ _ _ _).trans h⟩
        · cases h
  · intro args os r h
    change (S_spec_Tag k).run args os = some r at h
    unfold S_spec_Tag at h; dsimp only at h
    split at h
    · exact ⟨Nat.le_of_ble_eq_true (by kernel_rfl), rfl, rfl, k, 4000, (e_spec_Tag k _ _ _).trans h⟩
    · cases h
noncomputable def S_spec_FormPacket (k : Nat) : Summ K TyK where
  R := ByteArray
  modes := [.bo, .bo, .bo]
  run := fun args objs => match args, objs with
    | [.agg [.lit (.int .i64 v1), .lit (.int .i64 v2), .lit (.int .i64 v3), .lit (.int .i64 v4), .lit (.int .i64 v5), .lit (.int .i64 v6), .lit (.int .i64 v7), .lit (.bool v8), .lit (.string v9)], .lit (.string v10), .lit (.int .i64 v11)], [] => spec_FormPacket k (⟨v1, v2, v3, v4, v5, v6, v7, v8, v9⟩ : DPacket) v10 v11
    | _, _ => none
  ret := fun r => (.lit (.string r), [])
  quiet := true
noncomputable def D_spec_FormPacket (v : V) (os : Objs K TyK) : Option (ByteArray) :=
  match v, os with
  | .lit (.string v1), [] => some v1
  | _, _ => none
noncomputable abbrev G_spec_FormPacket (k : Nat) : FuncId → Option (Summ K TyK) := lookT [(109, S_spec_l2Ok k), (79, S_spec_l1In k), (111, S_spec_l2Body k), (110, S_spec_Tag k)]
noncomputable abbrev L_spec_FormPacket : List (Nat × Cut K TyK (ByteArray)) := []
theorem e_spec_FormPacket (k : Nat) (a0 : DPacket) (a1 : ByteArray) (a2 : Int) : run cod T (G_spec_FormPacket k) (lam L_spec_FormPacket k) (cutsOf L_spec_FormPacket) 0 (finish cod T false 0 [.tmp 6] D_spec_FormPacket) 4000 false [.code (bodyOf Try.f68)] (envOf [0, 1, 2] [.agg [.lit (.int .i64 a0.Kind), .lit (.int .i64 a0.From), .lit (.int .i64 a0.Mine), .lit (.int .i64 a0.Yours), .lit (.int .i64 a0.Next), .lit (.int .i64 a0.Mask), .lit (.int .i64 a0.Seq), .lit (.bool a0.Last), .lit (.string a0.Part)], .lit (.string a1), .lit (.int .i64 a2)]) [] = spec_FormPacket k a0 a1 a2 := by kernel_rfl
theorem ok_spec_FormPacket (k : Nat) : SummOk Try.prog cod 68 (S_spec_FormPacket k) := by
  refine summ_of (T := T) Try.f68 (G_spec_FormPacket) L_spec_FormPacket false [.tmp 6] 0 D_spec_FormPacket mixed (fun k => Known.of tok eok codOk ?_) (fun k => QuietOk.of ?_) Try.func68 (by kernel_rfl) (by kernel_rfl) (by kernel_rfl) (by kernel_rfl) (by kernel_rfl) ?_ ?_ [] ?_
  · exact all_cons (ok_spec_l2Ok k) (all_cons (ok_spec_l1In k) (all_cons (ok_spec_l2Body k) (all_cons (ok_spec_Tag k) (all_nil))))
  · exact all_cons (fun h r => ⟨rfl, rfl⟩) (all_cons (fun h r => ⟨rfl, rfl⟩) (all_cons (fun h r => ⟨rfl, rfl⟩) (all_cons (fun h r => ⟨rfl, rfl⟩) (all_nil))))
  · intro v os r h
    unfold D_spec_FormPacket at h
    split at h <;> first | (cases h; rfl) | cases h
  · refine all_nil
  · intro args os r h
    change (S_spec_FormPacket k).run args os = some r at h
    unfold S_spec_FormPacket at h; dsimp only at h
    split at h
    · exact ⟨Nat.le_of_ble_eq_true (by kernel_rfl), rfl, rfl, k, 4000, (e_spec_FormPacket k ⟨_, _, _, _, _, _, _, _, _⟩ _ _).trans h⟩
    · cases h
noncomputable def S_spec_ReadPacket (k : Nat) : Summ K TyK where
  R := DPacket × Bool
  modes := [.bo, .bo, .bo]
  run := fun args objs => match args, objs with
    | [.lit (.string v1), .lit (.string v2), .lit (.int .i64 v3)], [] => spec_ReadPacket k v1 v2 v3
    | _, _ => none
  ret := fun r => (.tup [.agg [.lit (.int .i64 r.1.Kind), .lit (.int .i64 r.1.From), .lit (.int .i64 r.1.Mine), .lit (.int .i64 r.1.Yours), .lit (.int .i64 r.1.Next), .lit (.int .i64 r.1.Mask), .lit (.int .i64 r.1.Seq), .lit (.bool r.1.Last), .lit (.string r.1.Part)], .lit (.bool r.2)], [])
  quiet := true
noncomputable def D_spec_ReadPacket (v : V) (os : Objs K TyK) : Option (DPacket × Bool) :=
  match v, os with
  | .tup [.agg [.lit (.int .i64 v1), .lit (.int .i64 v2), .lit (.int .i64 v3), .lit (.int .i64 v4), .lit (.int .i64 v5), .lit (.int .i64 v6), .lit (.int .i64 v7), .lit (.bool v8), .lit (.string v9)], .lit (.bool v10)], [] => some ((⟨v1, v2, v3, v4, v5, v6, v7, v8, v9⟩ : DPacket), v10)
  | _, _ => none
noncomputable def C_spec_ReadPacket_11 : Cut K TyK (DPacket × Bool) where
  slots := [0, 1, 2, 6, 9]
  fn := fun k vs os => match vs, os with
    | [.lit (.string x0), .lit (.string x1), .lit (.int .i64 x2), .ref 0 0, .ref 1 0], [.box [.lit (.int .i64 x3), .lit (.int .i64 x4), .lit (.int .i64 x5), .lit (.int .i64 x6), .lit (.int .i64 x7), .lit (.int .i64 x8), .lit (.int .i64 x9), .lit (.bool x10), .lit (.string x11)], .box [.lit (.int .i64 x12), .lit (.int .i64 x13), .lit (.int .i64 x14), .lit (.int .i64 x15), .lit (.int .i64 x16), .lit (.int .i64 x17), .lit (.int .i64 x18), .lit (.bool x19), .lit (.string x20)]] => spec_ReadPacket_l11 k x0 x1 x2 x3 x4 x5 x6 x7 x8 x9 x10 x11 x12 x13 x14 x15 x16 x17 x18 x19 x20
    | _, _ => none
noncomputable abbrev G_spec_ReadPacket (k : Nat) : FuncId → Option (Summ K TyK) := lookT [(79, S_spec_l1In k), (80, S_spec_l1Read k), (68, S_spec_FormPacket k)]
noncomputable abbrev L_spec_ReadPacket : List (Nat × Cut K TyK (DPacket × Bool)) := [(11, C_spec_ReadPacket_11)]
theorem c_spec_ReadPacket_11 (k : Nat) (x0 : ByteArray) (x1 : ByteArray) (x2 : Int) (x3 : Int) (x4 : Int) (x5 : Int) (x6 : Int) (x7 : Int) (x8 : Int) (x9 : Int) (x10 : Bool) (x11 : ByteArray) (x12 : Int) (x13 : Int) (x14 : Int) (x15 : Int) (x16 : Int) (x17 : Int) (x18 : Int) (x19 : Bool) (x20 : ByteArray) : run cod T (G_spec_ReadPacket k) (lam L_spec_ReadPacket k) (cutsOf L_spec_ReadPacket) 0 (finish cod T false 0 [.cell 6 40, .tmp 7] D_spec_ReadPacket) 4000 true (todoAt 11 (bodyOf Try.f29)) (envOf [0, 1, 2, 6, 9] [.lit (.string x0), .lit (.string x1), .lit (.int .i64 x2), .ref 0 0, .ref 1 0]) [.box [.lit (.int .i64 x3), .lit (.int .i64 x4), .lit (.int .i64 x5), .lit (.int .i64 x6), .lit (.int .i64 x7), .lit (.int .i64 x8), .lit (.int .i64 x9), .lit (.bool x10), .lit (.string x11)], .box [.lit (.int .i64 x12), .lit (.int .i64 x13), .lit (.int .i64 x14), .lit (.int .i64 x15), .lit (.int .i64 x16), .lit (.int .i64 x17), .lit (.int .i64 x18), .lit (.bool x19), .lit (.string x20)]] = spec_ReadPacket_l11 (k + 1) x0 x1 x2 x3 x4 x5 x6 x7 x8 x9 x10 x11 x12 x13 x14 x15 x16 x17 x18 x19 x20 := by kernel_rfl
theorem e_spec_ReadPacket (k : Nat) (a0 : ByteArray) (a1 : ByteArray) (a2 : Int) : run cod T (G_spec_ReadPacket k) (lam L_spec_ReadPacket k) (cutsOf L_spec_ReadPacket) 0 (finish cod T false 0 [.cell 6 40, .tmp 7] D_spec_ReadPacket) 4000 false [.code (bodyOf Try.f29)] (envOf [0, 1, 2] [.lit (.string a0), .lit (.string a1), .lit (.int .i64 a2)]) [] = spec_ReadPacket k a0 a1 a2 := by kernel_rfl
theorem ok_spec_ReadPacket (k : Nat) : SummOk Try.prog cod 29 (S_spec_ReadPacket k) := by
  refine summ_of (T := T) Try.f29 (G_spec_ReadPacket) L_spec_ReadPacket false [.cell 6 40, .tmp 7] 0 D_spec_ReadPacket mixed (fun k => Known.of tok eok codOk ?_) (fun k => QuietOk.of ?_) Try.func29 (by kernel_rfl) (by kernel_rfl) (by kernel_rfl) (by kernel_rfl) (by kernel_rfl) ?_ ?_ [] ?_
  · exact all_cons (ok_spec_l1In k) (all_cons (ok_spec_l1Read k) (all_cons (ok_spec_FormPacket k) (all_nil)))
  · exact all_cons (fun h r => ⟨rfl, rfl⟩) (all_cons (fun h r => ⟨rfl, rfl⟩) (all_cons (fun h r => ⟨rfl, rfl⟩) (all_nil)))
  · intro v os r h
    unfold D_spec_ReadPacket at h
    split at h <;> first | (cases h; rfl) | cases h
  · refine all_cons ?_ (all_nil)
    · refine ⟨fun vs os => ?_, by kernel_rfl, fun k vs os r h => ?_⟩
      · show C_spec_ReadPacket_11.fn 0 vs os = none
        unfold C_spec_ReadPacket_11; dsimp only; split <;> rfl
      · change C_spec_ReadPacket_11.fn (k + 1) vs os = some r at h
        unfold C_spec_ReadPacket_11 at h; dsimp only at h
        split at h
        · exact ⟨4000, (c_spec_ReadPacket_11 k _ _ _ _ _ _ _ _ _ _ _ _ _ _ _ _ _ _ _ _ _).trans h⟩
        · cases h
  · intro args os r h
    change (S_spec_ReadPacket k).run args os = some r at h
    unfold S_spec_ReadPacket at h; dsimp only at h
    split at h
    · exact ⟨Nat.le_of_ble_eq_true (by kernel_rfl), rfl, rfl, k, 4000, (e_spec_ReadPacket k _ _ _).trans h⟩
    · cases h
noncomputable def S_impl_num (k : Nat) : Summ K TyK where
  R := Int
  modes := [.bo]
  run := fun args objs => match args, objs with
    | [.lit (.string v1)], [] => impl_num k v1
    | _, _ => none
  ret := fun r => (.lit (.int .i64 r), [])
  quiet := true
noncomputable def D_impl_num (v : V) (os : Objs K TyK) : Option (Int) :=
  match v, os with
  | .lit (.int .i64 v1), [] => some v1
  | _, _ => none
noncomputable def C_impl_num_3 : Cut K TyK (Int) where
  slots := [0, 3, 4]
  fn := fun k vs os => match vs, os with
    | [.lit (.string x0), .lit (.int .i64 x1), .lit (.int .i64 x2)], [] => impl_num_l3 k x0 x1 x2
    | _, _ => none
noncomputable abbrev G_impl_num (k : Nat) : FuncId → Option (Summ K TyK) := lookT []
noncomputable abbrev L_impl_num : List (Nat × Cut K TyK (Int)) := [(3, C_impl_num_3)]
theorem c_impl_num_3 (k : Nat) (x0 : ByteArray) (x1 : Int) (x2 : Int) : run cod T (G_impl_num k) (lam L_impl_num k) (cutsOf L_impl_num) 0 (finish cod T false 0 [.tmp 2] D_impl_num) 4000 true (todoAt 3 (bodyOf Try.f81)) (envOf [0, 3, 4] [.lit (.string x0), .lit (.int .i64 x1), .lit (.int .i64 x2)]) [] = impl_num_l3 (k + 1) x0 x1 x2 := by kernel_rfl
theorem e_impl_num (k : Nat) (a0 : ByteArray) : run cod T (G_impl_num k) (lam L_impl_num k) (cutsOf L_impl_num) 0 (finish cod T false 0 [.tmp 2] D_impl_num) 4000 false [.code (bodyOf Try.f81)] (envOf [0] [.lit (.string a0)]) [] = impl_num k a0 := by kernel_rfl
theorem ok_impl_num (k : Nat) : SummOk Try.prog cod 81 (S_impl_num k) := by
  refine summ_of (T := T) Try.f81 (G_impl_num) L_impl_num false [.tmp 2] 0 D_impl_num mixed (fun k => Known.of tok eok codOk ?_) (fun k => QuietOk.of ?_) Try.func81 (by kernel_rfl) (by kernel_rfl) (by kernel_rfl) (by kernel_rfl) (by kernel_rfl) ?_ ?_ [] ?_
  · exact all_nil
  · exact all_nil
  · intro v os r h
    unfold D_impl_num at h
    split at h <;> first | (cases h; rfl) | cases h
  · refine all_cons ?_ (all_nil)
    · refine ⟨fun vs os => ?_, by kernel_rfl, fun k vs os r h => ?_⟩
      · show C_impl_num_3.fn 0 vs os = none
        unfold C_impl_num_3; dsimp only; split <;> rfl
      · change C_impl_num_3.fn (k + 1) vs os = some r at h
        unfold C_impl_num_3 at h; dsimp only at h
        split at h
        · exact ⟨4000, (c_impl_num_3 k _ _ _).trans h⟩
        · cases h
  · intro args os r h
    change (S_impl_num k).run args os = some r at h
    unfold S_impl_num at h; dsimp only at h
    split at h
    · exact ⟨Nat.le_of_ble_eq_true (by kernel_rfl), rfl, rfl, k, 4000, (e_impl_num k _).trans h⟩
    · cases h
noncomputable def S_impl_in (k : Nat) : Summ K TyK where
  R := Bool
  modes := [.bo, .bo, .bo]
  run := fun args objs => match args, objs with
    | [.lit (.int .i64 v1), .lit (.int .i64 v2), .lit (.int .i64 v3)], [] => impl_in k v1 v2 v3
    | _, _ => none
  ret := fun r => (.lit (.bool r), [])
  quiet := true
noncomputable def D_impl_in (v : V) (os : Objs K TyK) : Option (Bool) :=
  match v, os with
  | .lit (.bool v1), [] => some v1
  | _, _ => none
noncomputable abbrev G_impl_in (k : Nat) : FuncId → Option (Summ K TyK) := lookT []
noncomputable abbrev L_impl_in : List (Nat × Cut K TyK (Bool)) := []
theorem e_impl_in (k : Nat) (a0 : Int) (a1 : Int) (a2 : Int) : run cod T (G_impl_in k) (lam L_impl_in k) (cutsOf L_impl_in) 0 (finish cod T false 0 [.tmp 6] D_impl_in) 4000 false [.code (bodyOf Try.f89)] (envOf [0, 1, 2] [.lit (.int .i64 a0), .lit (.int .i64 a1), .lit (.int .i64 a2)]) [] = impl_in k a0 a1 a2 := by kernel_rfl
theorem ok_impl_in (k : Nat) : SummOk Try.prog cod 89 (S_impl_in k) := by
  refine summ_of (T := T) Try.f89 (G_impl_in) L_impl_in false [.tmp 6] 0 D_impl_in mixed (fun k => Known.of tok eok codOk ?_) (fun k => QuietOk.of ?_) Try.func89 (by kernel_rfl) (by kernel_rfl) (by kernel_rfl) (by kernel_rfl) (by kernel_rfl) ?_ ?_ [] ?_
  · exact all_nil
  · exact all_nil
  · intro v os r h
    unfold D_impl_in at h
    split at h <;> first | (cases h; rfl) | cases h
  · refine all_nil
  · intro args os r h
    change (S_impl_in k).run args os = some r at h
    unfold S_impl_in at h; dsimp only at h
    split at h
    · exact ⟨Nat.le_of_ble_eq_true (by kernel_rfl), rfl, rfl, k, 4000, (e_impl_in k _ _ _).trans h⟩
    · cases h
noncomputable def S_impl_validPacket (k : Nat) : Summ K TyK where
  R := Bool
  modes := [.bo]
  run := fun args objs => match args, objs with
    | [.agg [.lit (.int .i64 v1), .lit (.int .i64 v2), .lit (.int .i64 v3), .lit (.int .i64 v4), .lit (.int .i64 v5), .lit (.int .i64 v6), .lit (.int .i64 v7), .lit (.bool v8), .lit (.string v9)]], [] => impl_validPacket k (⟨v1, v2, v3, v4, v5, v6, v7, v8, v9⟩ : DPacket)
    | _, _ => none
  ret := fun r => (.lit (.bool r), [])
  quiet := true
noncomputable def D_impl_validPacket (v : V) (os : Objs K TyK) : Option (Bool) :=
  match v, os with
  | .lit (.bool v1), [] => some v1
  | _, _ => none
noncomputable abbrev G_impl_validPacket (k : Nat) : FuncId → Option (Summ K TyK) := lookT [(89, S_impl_in k)]
noncomputable abbrev L_impl_validPacket : List (Nat × Cut K TyK (Bool)) := []
theorem e_impl_validPacket (k : Nat) (a0 : DPacket) : run cod T (G_impl_validPacket k) (lam L_impl_validPacket k) (cutsOf L_impl_validPacket) 0 (finish cod T false 0 [.tmp 2] D_impl_validPacket) 4000 false [.code (bodyOf Try.f82)] (envOf [0] [.agg [.lit (.int .i64 a0.Kind), .lit (.int .i64 a0.From), .lit (.int .i64 a0.Mine), .lit (.int .i64 a0.Yours), .lit (.int .i64 a0.Next), .lit (.int .i64 a0.Mask), .lit (.int .i64 a0.Seq), .lit (.bool a0.Last), .lit (.string a0.Part)]]) [] = impl_validPacket k a0 := by kernel_rfl
theorem ok_impl_validPacket (k : Nat) : SummOk Try.prog cod 82 (S_impl_validPacket k) := by
  refine summ_of (T := T) Try.f82 (G_impl_validPacket) L_impl_validPacket false [.tmp 2] 0 D_impl_validPacket mixed (fun k => Known.of tok eok codOk ?_) (fun k => QuietOk.of ?_) Try.func82 (by kernel_rfl) (by kernel_rfl) (by kernel_rfl) (by kernel_rfl) (by kernel_rfl) ?_ ?_ [] ?_
  · exact all_cons (ok_impl_in k) (all_nil)
  · exact all_cons (fun h r => ⟨rfl, rfl⟩) (all_nil)
  · intro v os r h
    unfold D_impl_validPacket at h
    split at h <;> first | (cases h; rfl) | cases h
  · refine all_nil
  · intro args os r h
    change (S_impl_validPacket k).run args os = some r at h
    unfold S_impl_validPacket at h; dsimp only at h
    split at h
    · exact ⟨Nat.le_of_ble_eq_true (by kernel_rfl), rfl, rfl, k, 4000, (e_impl_validPacket k ⟨_, _, _, _, _, _, _, _, _⟩).trans h⟩
    · cases h
noncomputable def S_impl_be (k : Nat) : Summ K TyK where
  R := ByteArray
  modes := [.bo, .bo]
  run := fun args objs => match args, objs with
    | [.lit (.int .i64 v1), .lit (.int .i64 v2)], [] => impl_be k v1 v2
    | _, _ => none
  ret := fun r => (.lit (.string r), [])
  quiet := true
noncomputable def D_impl_be (v : V) (os : Objs K TyK) : Option (ByteArray) :=
  match v, os with
  | .lit (.string v1), [] => some v1
  | _, _ => none
noncomputable def C_impl_be_3 : Cut K TyK (ByteArray) where
  slots := [0, 5, 6]
  fn := fun k vs os => match vs, os with
    | [.lit (.int .i64 x0), .own 0, .lit (.int .i64 x1)], [.sl .byte x2] => impl_be_l3 k x0 x1 x2
    | _, _ => none
noncomputable abbrev G_impl_be (k : Nat) : FuncId → Option (Summ K TyK) := lookT []
noncomputable abbrev L_impl_be : List (Nat × Cut K TyK (ByteArray)) := [(3, C_impl_be_3)]
theorem c_impl_be_3 (k : Nat) (x0 : Int) (x1 : Int) (x2 : List Int) : run cod T (G_impl_be k) (lam L_impl_be k) (cutsOf L_impl_be) 0 (finish cod T false 0 [.tmp 4] D_impl_be) 4000 true (todoAt 3 (bodyOf Try.f108)) (envOf [0, 5, 6] [.lit (.int .i64 x0), .own 0, .lit (.int .i64 x1)]) [.sl .byte x2] = impl_be_l3 (k + 1) x0 x1 x2 := by kernel_rfl
theorem e_impl_be (k : Nat) (a0 : Int) (a1 : Int) : run cod T (G_impl_be k) (lam L_impl_be k) (cutsOf L_impl_be) 0 (finish cod T false 0 [.tmp 4] D_impl_be) 4000 false [.code (bodyOf Try.f108)] (envOf [0, 1] [.lit (.int .i64 a0), .lit (.int .i64 a1)]) [] = impl_be k a0 a1 := by kernel_rfl
theorem ok_impl_be (k : Nat) : SummOk Try.prog cod 108 (S_impl_be k) := by
  refine summ_of (T := T) Try.f108 (G_impl_be) L_impl_be false [.tmp 4] 0 D_impl_be mixed (fun k => Known.of tok eok codOk ?_) (fun k => QuietOk.of ?_) Try.func108 (by kernel_rfl) (by kernel_rfl) (by kernel_rfl) (by kernel_rfl) (by kernel_rfl) ?_ ?_ [] ?_
  · exact all_nil
  · exact all_nil
  · intro v os r h
    unfold D_impl_be at h
    split at h <;> first | (cases h; rfl) | cases h
  · refine all_cons ?_ (all_nil)
    · refine ⟨fun vs os => ?_, by kernel_rfl, fun k vs os r h => ?_⟩
      · show C_impl_be_3.fn 0 vs os = none
        unfold C_impl_be_3; dsimp only; split <;> rfl
      · change C_impl_be_3.fn (k + 1) vs os = some r at h
        unfold C_impl_be_3 at h; dsimp only at h
        split at h
        · exact ⟨4000, (c_impl_be_3 k _ _ _).trans h⟩
        · cases h
  · intro args os r h
    change (S_impl_be k).run args os = some r at h
    unfold S_impl_be at h; dsimp only at h
    split at h
    · exact ⟨Nat.le_of_ble_eq_true (by kernel_rfl), rfl, rfl, k, 4000, (e_impl_be k _ _).trans h⟩
    · cases h
noncomputable def S_impl_Tag (k : Nat) : Summ K TyK where
  R := ByteArray
  modes := [.bo, .bo, .bo]
  run := fun args objs => match args, objs with
    | [.lit (.string v1), .lit (.string v2), .lit (.int .i64 v3)], [] => impl_Tag k v1 v2 v3
    | _, _ => none
  ret := fun r => (.lit (.string r), [])
  quiet := true
noncomputable def D_impl_Tag (v : V) (os : Objs K TyK) : Option (ByteArray) :=
  match v, os with
  | .lit (.string v1), [] => some v1
  | _, _ => none
noncomputable def C_impl_Tag_6 : Cut K TyK (ByteArray) where
  slots := [2, 7, 8, 9]
  fn := fun k vs os => match vs, os with
    | [.lit (.int .i64 x0), .lit (.int .u64 x1), .lit (.string x2), .lit (.int .i64 x3)], [] => impl_Tag_l6 k x0 x1 x2 x3
    | _, _ => none
noncomputable def C_impl_Tag_11 : Cut K TyK (ByteArray) where
  slots := [2, 7, 10, 11]
  fn := fun k vs os => match vs, os with
    | [.lit (.int .i64 x0), .lit (.int .u64 x1), .eref 0 0 0, .lit (.int .i64 x2)], [.sl .byte x3] => impl_Tag_l11 k x0 x1 x2 x3
    | _, _ => none
noncomputable abbrev G_impl_Tag (k : Nat) : FuncId → Option (Summ K TyK) := lookT []
noncomputable abbrev L_impl_Tag : List (Nat × Cut K TyK (ByteArray)) := [(6, C_impl_Tag_6), (11, C_impl_Tag_11)]
theorem c_impl_Tag_6 (k : Nat) (x0 : Int) (x1 : Int) (x2 : ByteArray) (x3 : Int) : run cod T (G_impl_Tag k) (lam L_impl_Tag k) (cutsOf L_impl_Tag) 0 (finish cod T false 0 [.tmp 6] D_impl_Tag) 4000 true (todoAt 6 (bodyOf Try.f69)) (envOf [2, 7, 8, 9] [.lit (.int .i64 x0), .lit (.int .u64 x1), .lit (.string x2), .lit (.int .i64 x3)]) [] = impl_Tag_l6 (k + 1) x0 x1 x2 x3 := by kernel_rfl
theorem c_impl_Tag_11 (k : Nat) (x0 : Int) (x1 : Int) (x2 : Int) (x3 : List Int) : run cod T (G_impl_Tag k) (lam L_impl_Tag k) (cutsOf L_impl_Tag) 0 (finish cod T false 0 [.tmp 6] D_impl_Tag) 4000 true (todoAt 11 (bodyOf Try.f69)) (envOf [2, 7, 10, 11] [.lit (.int .i64 x0), .lit (.int .u64 x1), .eref 0 0 0, .lit (.int .i64 x2)]) [.sl .byte x3] = impl_Tag_l11 (k + 1) x0 x1 x2 x3 := by kernel_rfl
theorem e_impl_Tag (k : Nat) (a0 : ByteArray) (a1 : ByteArray) (a2 : Int) : run cod T (G_impl_Tag k) (lam L_impl_Tag k) (cutsOf L_impl_Tag) 0 (finish cod T false 0 [.tmp 6] D_impl_Tag) 4000 false [.code (bodyOf Try.f69)] (envOf [0, 1, 2] [.lit (.string a0), .lit (.string a1), .lit (.int .i64 a2)]) [] = impl_Tag k a0 a1 a2 := by kernel_rfl
theorem ok_impl_Tag (k : Nat) : SummOk Try.prog cod 69 (S_impl_Tag k) := by
  refine summ_of (T := T) Try.f69 (G_impl_Tag) L_impl_Tag false [.tmp 6] 0 D_impl_Tag mixed (fun k => Known.of tok eok codOk ?_) (fun k => QuietOk.of ?_) Try.func69 (by kernel_rfl) (by kernel_rfl) (by kernel_rfl) (by kernel_rfl) (by kernel_rfl) ?_ ?_ [] ?_
  · exact all_nil
  · exact all_nil
  · intro v os r h
    unfold D_impl_Tag at h
    split at h <;> first | (cases h; rfl) | cases h
  · refine all_cons ?_ (all_cons ?_ (all_nil))
    · refine ⟨fun vs os => ?_, by kernel_rfl, fun k vs os r h => ?_⟩
      · show C_impl_Tag_6.fn 0 vs os = none
        unfold C_impl_Tag_6; dsimp only; split <;> rfl
      · change C_impl_Tag_6.fn (k + 1) vs os = some r at h
        unfold C_impl_Tag_6 at h; dsimp only at h
        split at h
        · exact ⟨4000, (c_impl_Tag_6 k _ _ _ _).trans h⟩
        · cases h
    · refine ⟨fun vs os => ?_, by kernel_rfl, fun k vs os r h => ?_⟩
      · show C_impl_Tag_11.fn 0 vs os = none
        unfold C_impl_Tag_11; dsimp only; split <;> rfl
      · change C_impl_Tag_11.fn (k + 1) vs os = some r at h
        unfold C_impl_Tag_11 at h; dsimp only at h
        split at h
        · exact ⟨4000, (c_impl_Tag_11 k _ _ _ _).trans h⟩
        · cases h
  · intro args os r h
    change (S_impl_Tag k).run args os = some r at h
    unfold S_impl_Tag at h; dsimp only at h
    split at h
    · exact ⟨Nat.le_of_ble_eq_true (by kernel_rfl), rfl, rfl, k, 4000, (e_impl_Tag k _ _ _).trans h⟩
    · cases h
noncomputable def S_impl_FormPacket (k : Nat) : Summ K TyK where
  R := ByteArray
  modes := [.bo, .bo, .bo]
  run := fun args objs => match args, objs with
    | [.agg [.lit (.int .i64 v1), .lit (.int .i64 v2), .lit (.int .i64 v3), .lit (.int .i64 v4), .lit (.int .i64 v5), .lit (.int .i64 v6), .lit (.int .i64 v7), .lit (.bool v8), .lit (.string v9)], .lit (.string v10), .lit (.int .i64 v11)], [] => impl_FormPacket k (⟨v1, v2, v3, v4, v5, v6, v7, v8, v9⟩ : DPacket) v10 v11
    | _, _ => none
  ret := fun r => (.lit (.string r), [])
  quiet := true
noncomputable def D_impl_FormPacket (v : V) (os : Objs K TyK) : Option (ByteArray) :=
  match v, os with
  | .lit (.string v1), [] => some v1
  | _, _ => none
noncomputable def C_impl_FormPacket_10 : Cut K TyK (ByteArray) where
  slots := [1, 2, 7]
  fn := fun k vs os => match vs, os with
    | [.lit (.string x0), .lit (.int .i64 x1), .lit (.string x2)], [] => impl_FormPacket_l10 k x0 x1 x2
    | _, _ => none
noncomputable def C_impl_FormPacket_9 : Cut K TyK (ByteArray) where
  slots := [1, 2, 3, 7, 8]
  fn := fun k vs os => match vs, os with
    | [.lit (.string x0), .lit (.int .i64 x1), .ref 0 0, .lit (.string x2), .lit (.int .i64 x3)], [.box [.lit (.int .i64 x4), .lit (.int .i64 x5), .lit (.int .i64 x6), .lit (.int .i64 x7), .lit (.int .i64 x8), .lit (.int .i64 x9), .lit (.int .i64 x10), .lit (.bool x11), .lit (.string x12)]] => impl_FormPacket_l9 k x0 x1 x2 x3 x4 x5 x6 x7 x8 x9 x10 x11 x12
    | _, _ => none
noncomputable abbrev G_impl_FormPacket (k : Nat) : FuncId → Option (Summ K TyK) := lookT [(82, S_impl_validPacket k), (108, S_impl_be k), (69, S_impl_Tag k)]
noncomputable abbrev L_impl_FormPacket : List (Nat × Cut K TyK (ByteArray)) := [(10, C_impl_FormPacket_10), (9, C_impl_FormPacket_9)]
theorem c_impl_FormPacket_10 (k : Nat) (x0 : ByteArray) (x1 : Int) (x2 : ByteArray) : run cod T (G_impl_FormPacket k) (lam L_impl_FormPacket k) (cutsOf L_impl_FormPacket) 0 (finish cod T false 0 [.tmp 6] D_impl_FormPacket) 4000 true (todoAt 10 (bodyOf Try.f67)) (envOf [1, 2, 7] [.lit (.string x0), .lit (.int .i64 x1), .lit (.string x2)]) [] = impl_FormPacket_l10 (k + 1) x0 x1 x2 := by kernel_rfl
theorem c_impl_FormPacket_9 (k : Nat) (x0 : ByteArray) (x1 : Int) (x2 : ByteArray) (x3 : Int) (x4 : Int) (x5 : Int) (x6 : Int) (x7 : Int) (x8 : Int) (x9 : Int) (x10 : Int) (x11 : Bool) (x12 : ByteArray) : run cod T (G_impl_FormPacket k) (lam L_impl_FormPacket k) (cutsOf L_impl_FormPacket) 0 (finish cod T false 0 [.tmp 6] D_impl_FormPacket) 4000 true (todoAt 9 (bodyOf Try.f67)) (envOf [1, 2, 3, 7, 8] [.lit (.string x0), .lit (.int .i64 x1), .ref 0 0, .lit (.string x2), .lit (.int .i64 x3)]) [.box [.lit (.int .i64 x4), .lit (.int .i64 x5), .lit (.int .i64 x6), .lit (.int .i64 x7), .lit (.int .i64 x8), .lit (.int .i64 x9), .lit (.int .i64 x10), .lit (.bool x11), .lit (.string x12)]] = impl_FormPacket_l9 (k + 1) x0 x1 x2 x3 x4 x5 x6 x7 x8 x9 x10 x11 x12 := by kernel_rfl
theorem e_impl_FormPacket (k : Nat) (a0 : DPacket) (a1 : ByteArray) (a2 : Int) : run cod T (G_impl_FormPacket k) (lam L_impl_FormPacket k) (cutsOf L_impl_FormPacket) 0 (finish cod T false 0 [.tmp 6] D_impl_FormPacket) 4000 false [.code (bodyOf Try.f67)] (envOf [0, 1, 2] [.agg [.lit (.int .i64 a0.Kind), .lit (.int .i64 a0.From), .lit (.int .i64 a0.Mine), .lit (.int .i64 a0.Yours), .lit (.int .i64 a0.Next), .lit (.int .i64 a0.Mask), .lit (.int .i64 a0.Seq), .lit (.bool a0.Last), .lit (.string a0.Part)], .lit (.string a1), .lit (.int .i64 a2)]) [] = impl_FormPacket k a0 a1 a2 := by kernel_rfl
theorem ok_impl_FormPacket (k : Nat) : SummOk Try.prog cod 67 (S_impl_FormPacket k) := by
  refine summ_of (T := T) Try.f67 (G_impl_FormPacket) L_impl_FormPacket false [.tmp 6] 0 D_impl_FormPacket mixed (fun k => Known.of tok eok codOk ?_) (fun k => QuietOk.of ?_) Try.func67 (by kernel_rfl) (by kernel_rfl) (by kernel_rfl) (by kernel_rfl) (by kernel_rfl) ?_ ?_ [] ?_
  · exact all_cons (ok_impl_validPacket k) (all_cons (ok_impl_be k) (all_cons (ok_impl_Tag k) (all_nil)))
  · exact all_cons (fun h r => ⟨rfl, rfl⟩) (all_cons (fun h r => ⟨rfl, rfl⟩) (all_cons (fun h r => ⟨rfl, rfl⟩) (all_nil)))
  · intro v os r h
    unfold D_impl_FormPacket at h
    split at h <;> first | (cases h; rfl) | cases h
  · refine all_cons ?_ (all_cons ?_ (all_nil))
    · refine ⟨fun vs os => ?_, by kernel_rfl, fun k vs os r h => ?_⟩
      · show C_impl_FormPacket_10.fn 0 vs os = none
        unfold C_impl_FormPacket_10; dsimp only; split <;> rfl
      · change C_impl_FormPacket_10.fn (k + 1) vs os = some r at h
        unfold C_impl_FormPacket_10 at h; dsimp only at h
        split at h
        · exact ⟨4000, (c_impl_FormPacket_10 k _ _ _).trans h⟩
        · cases h
    · refine ⟨fun vs os => ?_, by kernel_rfl, fun k vs os r h => ?_⟩
      · show C_impl_FormPacket_9.fn 0 vs os = none
        unfold C_impl_FormPacket_9; dsimp only; split <;> rfl
      · change C_impl_FormPacket_9.fn (k + 1) vs os = some r at h
        unfold C_impl_FormPacket_9 at h; dsimp only at h
        split at h
        · exact ⟨4000, (c_impl_FormPacket_9 k _ _ _ _ _ _ _ _ _ _ _ _ _).trans h⟩
        · cases h
  · intro args os r h
    change (S_impl_FormPacket k).run args os = some r at h
    unfold S_impl_FormPacket at h; dsimp only at h
    split at h
    · exact ⟨Nat.le_of_ble_eq_true (by kernel_rfl), rfl, rfl, k, 4000, (e_impl_FormPacket k ⟨_, _, _, _, _, _, _, _, _⟩ _ _).trans h⟩
    · cases h
noncomputable def S_impl_ReadPacket (k : Nat) : Summ K TyK where
  R := DPacket × Bool
  modes := [.bo, .bo, .bo]
  run := fun args objs => match args, objs with
    | [.lit (.string v1), .lit (.string v2), .lit (.int .i64 v3)], [] => impl_ReadPacket k v1 v2 v3
    | _, _ => none
  ret := fun r => (.tup [.agg [.lit (.int .i64 r.1.Kind), .lit (.int .i64 r.1.From), .lit (.int .i64 r.1.Mine), .lit (.int .i64 r.1.Yours), .lit (.int .i64 r.1.Next), .lit (.int .i64 r.1.Mask), .lit (.int .i64 r.1.Seq), .lit (.bool r.1.Last), .lit (.string r.1.Part)], .lit (.bool r.2)], [])
  quiet := true
noncomputable def D_impl_ReadPacket (v : V) (os : Objs K TyK) : Option (DPacket × Bool) :=
  match v, os with
  | .tup [.agg [.lit (.int .i64 v1), .lit (.int .i64 v2), .lit (.int .i64 v3), .lit (.int .i64 v4), .lit (.int .i64 v5), .lit (.int .i64 v6), .lit (.int .i64 v7), .lit (.bool v8), .lit (.string v9)], .lit (.bool v10)], [] => some ((⟨v1, v2, v3, v4, v5, v6, v7, v8, v9⟩ : DPacket), v10)
  | _, _ => none
noncomputable def C_impl_ReadPacket_10 : Cut K TyK (DPacket × Bool) where
  slots := [0, 1, 2, 6, 9]
  fn := fun k vs os => match vs, os with
    | [.lit (.string x0), .lit (.string x1), .lit (.int .i64 x2), .ref 0 0, .ref 1 0], [.box [.lit (.int .i64 x3), .lit (.int .i64 x4), .lit (.int .i64 x5), .lit (.int .i64 x6), .lit (.int .i64 x7), .lit (.int .i64 x8), .lit (.int .i64 x9), .lit (.bool x10), .lit (.string x11)], .box [.lit (.int .i64 x12), .lit (.int .i64 x13), .lit (.int .i64 x14), .lit (.int .i64 x15), .lit (.int .i64 x16), .lit (.int .i64 x17), .lit (.int .i64 x18), .lit (.bool x19), .lit (.string x20)]] => impl_ReadPacket_l10 k x0 x1 x2 x3 x4 x5 x6 x7 x8 x9 x10 x11 x12 x13 x14 x15 x16 x17 x18 x19 x20
    | _, _ => none
noncomputable abbrev G_impl_ReadPacket (k : Nat) : FuncId → Option (Summ K TyK) := lookT [(81, S_impl_num k), (82, S_impl_validPacket k), (67, S_impl_FormPacket k)]
noncomputable abbrev L_impl_ReadPacket : List (Nat × Cut K TyK (DPacket × Bool)) := [(10, C_impl_ReadPacket_10)]
theorem c_impl_ReadPacket_10 (k : Nat) (x0 : ByteArray) (x1 : ByteArray) (x2 : Int) (x3 : Int) (x4 : Int) (x5 : Int) (x6 : Int) (x7 : Int) (x8 : Int) (x9 : Int) (x10 : Bool) (x11 : ByteArray) (x12 : Int) (x13 : Int) (x14 : Int) (x15 : Int) (x16 : Int) (x17 : Int) (x18 : Int) (x19 : Bool) (x20 : ByteArray) : run cod T (G_impl_ReadPacket k) (lam L_impl_ReadPacket k) (cutsOf L_impl_ReadPacket) 0 (finish cod T false 0 [.cell 6 40, .tmp 7] D_impl_ReadPacket) 4000 true (todoAt 10 (bodyOf Try.f30)) (envOf [0, 1, 2, 6, 9] [.lit (.string x0), .lit (.string x1), .lit (.int .i64 x2), .ref 0 0, .ref 1 0]) [.box [.lit (.int .i64 x3), .lit (.int .i64 x4), .lit (.int .i64 x5), .lit (.int .i64 x6), .lit (.int .i64 x7), .lit (.int .i64 x8), .lit (.int .i64 x9), .lit (.bool x10), .lit (.string x11)], .box [.lit (.int .i64 x12), .lit (.int .i64 x13), .lit (.int .i64 x14), .lit (.int .i64 x15), .lit (.int .i64 x16), .lit (.int .i64 x17), .lit (.int .i64 x18), .lit (.bool x19), .lit (.string x20)]] = impl_ReadPacket_l10 (k + 1) x0 x1 x2 x3 x4 x5 x6 x7 x8 x9 x10 x11 x12 x13 x14 x15 x16 x17 x18 x19 x20 := by kernel_rfl
theorem e_impl_ReadPacket (k : Nat) (a0 : ByteArray) (a1 : ByteArray) (a2 : Int) : run cod T (G_impl_ReadPacket k) (lam L_impl_ReadPacket k) (cutsOf L_impl_ReadPacket) 0 (finish cod T false 0 [.cell 6 40, .tmp 7] D_impl_ReadPacket) 4000 false [.code (bodyOf Try.f30)] (envOf [0, 1, 2] [.lit (.string a0), .lit (.string a1), .lit (.int .i64 a2)]) [] = impl_ReadPacket k a0 a1 a2 := by kernel_rfl
theorem ok_impl_ReadPacket (k : Nat) : SummOk Try.prog cod 30 (S_impl_ReadPacket k) := by
  refine summ_of (T := T) Try.f30 (G_impl_ReadPacket) L_impl_ReadPacket false [.cell 6 40, .tmp 7] 0 D_impl_ReadPacket mixed (fun k => Known.of tok eok codOk ?_) (fun k => QuietOk.of ?_) Try.func30 (by kernel_rfl) (by kernel_rfl) (by kernel_rfl) (by kernel_rfl) (by kernel_rfl) ?_ ?_ [] ?_
  · exact all_cons (ok_impl_num k) (all_cons (ok_impl_validPacket k) (all_cons (ok_impl_FormPacket k) (all_nil)))
  · exact all_cons (fun h r => ⟨rfl, rfl⟩) (all_cons (fun h r => ⟨rfl, rfl⟩) (all_cons (fun h r => ⟨rfl, rfl⟩) (all_nil)))
  · intro v os r h
    unfold D_impl_ReadPacket at h
    split at h <;> first | (cases h; rfl) | cases h
  · refine all_cons ?_ (all_nil)
    · refine ⟨fun vs os => ?_, by kernel_rfl, fun k vs os r h => ?_⟩
      · show C_impl_ReadPacket_10.fn 0 vs os = none
        unfold C_impl_ReadPacket_10; dsimp only; split <;> rfl
      · change C_impl_ReadPacket_10.fn (k + 1) vs os = some r at h
        unfold C_impl_ReadPacket_10 at h; dsimp only at h
        split at h
        · exact ⟨4000, (c_impl_ReadPacket_10 k _ _ _ _ _ _ _ _ _ _ _ _ _ _ _ _ _ _ _ _ _).trans h⟩
        · cases h
  · intro args os r h
    change (S_impl_ReadPacket k).run args os = some r at h
    unfold S_impl_ReadPacket at h; dsimp only at h
    split at h
    · exact ⟨Nat.le_of_ble_eq_true (by kernel_rfl), rfl, rfl, k, 4000, (e_impl_ReadPacket k _ _ _).trans h⟩
    · cases h
noncomputable def S_laws_eqPacket (k : Nat) : Summ K TyK where
  R := Bool
  modes := [.bo, .bo]
  run := fun args objs => match args, objs with
    | [.agg [.lit (.int .i64 v1), .lit (.int .i64 v2), .lit (.int .i64 v3), .lit (.int .i64 v4), .lit (.int .i64 v5), .lit (.int .i64 v6), .lit (.int .i64 v7), .lit (.bool v8), .lit (.string v9)], .agg [.lit (.int .i64 v10), .lit (.int .i64 v11), .lit (.int .i64 v12), .lit (.int .i64 v13), .lit (.int .i64 v14), .lit (.int .i64 v15), .lit (.int .i64 v16), .lit (.bool v17), .lit (.string v18)]], [] => laws_eqPacket k (⟨v1, v2, v3, v4, v5, v6, v7, v8, v9⟩ : DPacket) (⟨v10, v11, v12, v13, v14, v15, v16, v17, v18⟩ : DPacket)
    | _, _ => none
  ret := fun r => (.lit (.bool r), [])
  quiet := true
noncomputable def D_laws_eqPacket (v : V) (os : Objs K TyK) : Option (Bool) :=
  match v, os with
  | .lit (.bool v1), [] => some v1
  | _, _ => none
noncomputable abbrev G_laws_eqPacket (k : Nat) : FuncId → Option (Summ K TyK) := lookT []
noncomputable abbrev L_laws_eqPacket : List (Nat × Cut K TyK (Bool)) := []
theorem e_laws_eqPacket (k : Nat) (a0 : DPacket) (a1 : DPacket) : run cod T (G_laws_eqPacket k) (lam L_laws_eqPacket k) (cutsOf L_laws_eqPacket) 0 (finish cod T false 0 [.tmp 4] D_laws_eqPacket) 4000 false [.code (bodyOf Try.f31)] (envOf [0, 1] [.agg [.lit (.int .i64 a0.Kind), .lit (.int .i64 a0.From), .lit (.int .i64 a0.Mine), .lit (.int .i64 a0.Yours), .lit (.int .i64 a0.Next), .lit (.int .i64 a0.Mask), .lit (.int .i64 a0.Seq), .lit (.bool a0.Last), .lit (.string a0.Part)], .agg [.lit (.int .i64 a1.Kind), .lit (.int .i64 a1.From), .lit (.int .i64 a1.Mine), .lit (.int .i64 a1.Yours), .lit (.int .i64 a1.Next), .lit (.int .i64 a1.Mask), .lit (.int .i64 a1.Seq), .lit (.bool a1.Last), .lit (.string a1.Part)]]) [] = laws_eqPacket k a0 a1 := by kernel_rfl
theorem ok_laws_eqPacket (k : Nat) : SummOk Try.prog cod 31 (S_laws_eqPacket k) := by
  refine summ_of (T := T) Try.f31 (G_laws_eqPacket) L_laws_eqPacket false [.tmp 4] 0 D_laws_eqPacket mixed (fun k => Known.of tok eok codOk ?_) (fun k => QuietOk.of ?_) Try.func31 (by kernel_rfl) (by kernel_rfl) (by kernel_rfl) (by kernel_rfl) (by kernel_rfl) ?_ ?_ [] ?_
  · exact all_nil
  · exact all_nil
  · intro v os r h
    unfold D_laws_eqPacket at h
    split at h <;> first | (cases h; rfl) | cases h
  · refine all_nil
  · intro args os r h
    change (S_laws_eqPacket k).run args os = some r at h
    unfold S_laws_eqPacket at h; dsimp only at h
    split at h
    · exact ⟨Nat.le_of_ble_eq_true (by kernel_rfl), rfl, rfl, k, 4000, (e_laws_eqPacket k ⟨_, _, _, _, _, _, _, _, _⟩ ⟨_, _, _, _, _, _, _, _, _⟩).trans h⟩
    · cases h
noncomputable def S_laws_FnExactReadPacket (k : Nat) : Summ K TyK where
  R := Bool
  modes := [.pe, .pe, .pe]
  run := fun args objs => match args, objs with
    | [.lit (.string v1), .lit (.string v2), .lit (.int .i64 v3)], [] => laws_FnExactReadPacket k v1 v2 v3
    | _, _ => none
  ret := fun r => (.lit (.bool r), [])
  quiet := true
noncomputable def D_laws_FnExactReadPacket (v : V) (os : Objs K TyK) : Option (Bool) :=
  match v, os with
  | .lit (.bool v1), [] => some v1
  | _, _ => none
noncomputable abbrev G_laws_FnExactReadPacket (k : Nat) : FuncId → Option (Summ K TyK) := lookT [(29, S_spec_ReadPacket k), (30, S_impl_ReadPacket k), (31, S_laws_eqPacket k)]
noncomputable abbrev L_laws_FnExactReadPacket : List (Nat × Cut K TyK (Bool)) := []
theorem e_laws_FnExactReadPacket (k : Nat) (a0 : ByteArray) (a1 : ByteArray) (a2 : Int) : run cod T (G_laws_FnExactReadPacket k) (lam L_laws_FnExactReadPacket k) (cutsOf L_laws_FnExactReadPacket) 0 (finish cod T false 0 [.tmp 6] D_laws_FnExactReadPacket) 4000 false [.code (bodyOf Try.f5)] (envOf [0, 1, 2] [.lit (.string a0), .lit (.string a1), .lit (.int .i64 a2)]) [] = laws_FnExactReadPacket k a0 a1 a2 := by kernel_rfl
theorem ok_laws_FnExactReadPacket (k : Nat) : SummOk Try.prog cod 5 (S_laws_FnExactReadPacket k) := by
  refine summ_of (T := T) Try.f5 (G_laws_FnExactReadPacket) L_laws_FnExactReadPacket false [.tmp 6] 0 D_laws_FnExactReadPacket mixed (fun k => Known.of tok eok codOk ?_) (fun k => QuietOk.of ?_) Try.func5 (by kernel_rfl) (by kernel_rfl) (by kernel_rfl) (by kernel_rfl) (by kernel_rfl) ?_ ?_ [] ?_
  · exact all_cons (ok_spec_ReadPacket k) (all_cons (ok_impl_ReadPacket k) (all_cons (ok_laws_eqPacket k) (all_nil)))
  · exact all_cons (fun h r => ⟨rfl, rfl⟩) (all_cons (fun h r => ⟨rfl, rfl⟩) (all_cons (fun h r => ⟨rfl, rfl⟩) (all_nil)))
  · intro v os r h
    unfold D_laws_FnExactReadPacket at h
    split at h <;> first | (cases h; rfl) | cases h
  · refine all_nil
  · intro args os r h
    change (S_laws_FnExactReadPacket k).run args os = some r at h
    unfold S_laws_FnExactReadPacket at h; dsimp only at h
    split at h
    · exact ⟨Nat.le_of_ble_eq_true (by kernel_rfl), rfl, rfl, k, 4000, (e_laws_FnExactReadPacket k _ _ _).trans h⟩
    · cases h
end Km.X
