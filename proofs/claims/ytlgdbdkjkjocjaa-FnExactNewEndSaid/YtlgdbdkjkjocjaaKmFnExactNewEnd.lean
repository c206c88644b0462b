/- A part of the proof of FnExactNewEnd: each function does what its reading says. There is no condition. -/
import Derived.Test.YtlgdbdkjkjocjaaKmSeat
import Derived.Test.YtlgdbdkjkjocjaaKxDef
namespace Km.X
open Go Km Go.Proofs
set_option linter.unusedVariables false
set_option maxRecDepth 100000
set_option maxHeartbeats 4000000
noncomputable def S_laws_eqStringS (k : Nat) : Summ K TyK where
  R := Bool
  modes := [.bo, .bo]
  run := fun args objs => match args, objs with
    | [.inl true .str v1, .inl true .str v2], [] => laws_eqStringS k v1 v2
    | _, _ => none
  ret := fun r => (.lit (.bool r), [])
  quiet := true
noncomputable def D_laws_eqStringS (v : V) (os : Objs K TyK) : Option (Bool) :=
  match v, os with
  | .lit (.bool v1), [] => some v1
  | _, _ => none
noncomputable def C_laws_eqStringS_4 : Cut K TyK (Bool) where
  slots := [0, 1, 5]
  fn := fun k vs os => match vs, os with
    | [.inl true .str x0, .inl true .str x1, .lit (.int .i64 x2)], [] => laws_eqStringS_l4 k x0 x1 x2
    | _, _ => none
noncomputable abbrev G_laws_eqStringS (k : Nat) : FuncId → Option (Summ K TyK) := lookT []
noncomputable abbrev L_laws_eqStringS : List (Nat × Cut K TyK (Bool)) := [(4, C_laws_eqStringS_4)]
theorem c_laws_eqStringS_4 (k : Nat) (x0 : List ByteArray) (x1 : List ByteArray) (x2 : Int) : run cod T (G_laws_eqStringS k) (lam L_laws_eqStringS k) (cutsOf L_laws_eqStringS) 0 (finish cod T false 0 [.tmp 4] D_laws_eqStringS) 4000 true (todoAt 4 (bodyOf Try.f19)) (envOf [0, 1, 5] [.inl true .str x0, .inl true .str x1, .lit (.int .i64 x2)]) [] = laws_eqStringS_l4 (k + 1) x0 x1 x2 := by kernel_rfl
theorem e_laws_eqStringS (k : Nat) (a0 : List ByteArray) (a1 : List ByteArray) : run cod T (G_laws_eqStringS k) (lam L_laws_eqStringS k) (cutsOf L_laws_eqStringS) 0 (finish cod T false 0 [.tmp 4] D_laws_eqStringS) 4000 false [.code (bodyOf Try.f19)] (envOf [0, 1] [.inl true .str a0, .inl true .str a1]) [] = laws_eqStringS k a0 a1 := by kernel_rfl
theorem ok_laws_eqStringS (k : Nat) : SummOk Try.prog cod 19 (S_laws_eqStringS k) := by
  refine summ_of (T := T) Try.f19 (G_laws_eqStringS) L_laws_eqStringS false [.tmp 4] 0 D_laws_eqStringS mixed (fun k => Known.of tok eok codOk ?_) (fun k => QuietOk.of ?_) Try.func19 (by kernel_rfl) (by kernel_rfl) (by kernel_rfl) (by kernel_rfl) (by kernel_rfl) ?_ ?_ [] ?_
  · exact all_nil
  · exact all_nil
  · intro v os r h
    unfold D_laws_eqStringS at h
    split at h <;> first | (cases h; rfl) | cases h
  · refine all_cons ?_ (all_nil)
    · refine ⟨fun vs os => ?_, by kernel_rfl, fun k vs os r h => ?_⟩
      · show C_laws_eqStringS_4.fn 0 vs os = none
        unfold C_laws_eqStringS_4; dsimp only; split <;> rfl
      · change C_laws_eqStringS_4.fn (k + 1) vs os = some r at h
        unfold C_laws_eqStringS_4 at h; dsimp only at h
        split at h
        · exact ⟨4000, (c_laws_eqStringS_4 k _ _ _).trans h⟩
        · cases h
  · intro args os r h
    change (S_laws_eqStringS k).run args os = some r at h
    unfold S_laws_eqStringS at h; dsimp only at h
    split at h
    · exact ⟨Nat.le_of_ble_eq_true (by kernel_rfl), rfl, rfl, k, 4000, (e_laws_eqStringS k _ _).trans h⟩
    · cases h
noncomputable def S_laws_eqPart (k : Nat) : Summ K TyK where
  R := Bool
  modes := [.bo, .bo]
  run := fun args objs => match args, objs with
    | [.agg [.lit (.string v1), .lit (.bool v2)], .agg [.lit (.string v3), .lit (.bool v4)]], [] => laws_eqPart k (⟨v1, v2⟩ : DPart) (⟨v3, v4⟩ : DPart)
    | _, _ => none
  ret := fun r => (.lit (.bool r), [])
  quiet := true
noncomputable def D_laws_eqPart (v : V) (os : Objs K TyK) : Option (Bool) :=
  match v, os with
  | .lit (.bool v1), [] => some v1
  | _, _ => none
noncomputable abbrev G_laws_eqPart (k : Nat) : FuncId → Option (Summ K TyK) := lookT []
noncomputable abbrev L_laws_eqPart : List (Nat × Cut K TyK (Bool)) := []
theorem e_laws_eqPart (k : Nat) (a0 : DPart) (a1 : DPart) : run cod T (G_laws_eqPart k) (lam L_laws_eqPart k) (cutsOf L_laws_eqPart) 0 (finish cod T false 0 [.tmp 4] D_laws_eqPart) 4000 false [.code (bodyOf Try.f73)] (envOf [0, 1] [.agg [.lit (.string a0.Text), .lit (.bool a0.Last)], .agg [.lit (.string a1.Text), .lit (.bool a1.Last)]]) [] = laws_eqPart k a0 a1 := by kernel_rfl
theorem ok_laws_eqPart (k : Nat) : SummOk Try.prog cod 73 (S_laws_eqPart k) := by
  refine summ_of (T := T) Try.f73 (G_laws_eqPart) L_laws_eqPart false [.tmp 4] 0 D_laws_eqPart mixed (fun k => Known.of tok eok codOk ?_) (fun k => QuietOk.of ?_) Try.func73 (by kernel_rfl) (by kernel_rfl) (by kernel_rfl) (by kernel_rfl) (by kernel_rfl) ?_ ?_ [] ?_
  · exact all_nil
  · exact all_nil
  · intro v os r h
    unfold D_laws_eqPart at h
    split at h <;> first | (cases h; rfl) | cases h
  · refine all_nil
  · intro args os r h
    change (S_laws_eqPart k).run args os = some r at h
    unfold S_laws_eqPart at h; dsimp only at h
    split at h
    · exact ⟨Nat.le_of_ble_eq_true (by kernel_rfl), rfl, rfl, k, 4000, (e_laws_eqPart k ⟨_, _⟩ ⟨_, _⟩).trans h⟩
    · cases h
noncomputable def S_laws_markText (k : Nat) : Summ K TyK where
  R := ByteArray
  modes := [.bo]
  run := fun args objs => match args, objs with
    | [.lit (.int .i64 v1)], [] => laws_markText k v1
    | _, _ => none
  ret := fun r => (.lit (.string r), [])
  quiet := true
noncomputable def D_laws_markText (v : V) (os : Objs K TyK) : Option (ByteArray) :=
  match v, os with
  | .lit (.string v1), [] => some v1
  | _, _ => none
noncomputable def C_laws_markText_4 : Cut K TyK (ByteArray) where
  slots := [0, 3]
  fn := fun k vs os => match vs, os with
    | [.lit (.int .i64 x0), .lit (.string x1)], [] => laws_markText_l4 k x0 x1
    | _, _ => none
noncomputable abbrev G_laws_markText (k : Nat) : FuncId → Option (Summ K TyK) := lookT []
noncomputable abbrev L_laws_markText : List (Nat × Cut K TyK (ByteArray)) := [(4, C_laws_markText_4)]
theorem c_laws_markText_4 (k : Nat) (x0 : Int) (x1 : ByteArray) : run cod T (G_laws_markText k) (lam L_laws_markText k) (cutsOf L_laws_markText) 0 (finish cod T false 0 [.tmp 2] D_laws_markText) 4000 true (todoAt 4 (bodyOf Try.f74)) (envOf [0, 3] [.lit (.int .i64 x0), .lit (.string x1)]) [] = laws_markText_l4 (k + 1) x0 x1 := by kernel_rfl
theorem e_laws_markText (k : Nat) (a0 : Int) : run cod T (G_laws_markText k) (lam L_laws_markText k) (cutsOf L_laws_markText) 0 (finish cod T false 0 [.tmp 2] D_laws_markText) 4000 false [.code (bodyOf Try.f74)] (envOf [0] [.lit (.int .i64 a0)]) [] = laws_markText k a0 := by kernel_rfl
theorem ok_laws_markText (k : Nat) : SummOk Try.prog cod 74 (S_laws_markText k) := by
  refine summ_of (T := T) Try.f74 (G_laws_markText) L_laws_markText false [.tmp 2] 0 D_laws_markText mixed (fun k => Known.of tok eok codOk ?_) (fun k => QuietOk.of ?_) Try.func74 (by kernel_rfl) (by kernel_rfl) (by kernel_rfl) (by kernel_rfl) (by kernel_rfl) ?_ ?_ [] ?_
  · exact all_nil
  · exact all_nil
  · intro v os r h
    unfold D_laws_markText at h
    split at h <;> first | (cases h; rfl) | cases h
  · refine all_cons ?_ (all_nil)
    · refine ⟨fun vs os => ?_, by kernel_rfl, fun k vs os r h => ?_⟩
      · show C_laws_markText_4.fn 0 vs os = none
        unfold C_laws_markText_4; dsimp only; split <;> rfl
      · change C_laws_markText_4.fn (k + 1) vs os = some r at h
        unfold C_laws_markText_4 at h; dsimp only at h
        split at h
        · exact ⟨4000, (c_laws_markText_4 k _ _).trans h⟩
        · cases h
  · intro args os r h
    change (S_laws_markText k).run args os = some r at h
    unfold S_laws_markText at h; dsimp only at h
    split at h
    · exact ⟨Nat.le_of_ble_eq_true (by kernel_rfl), rfl, rfl, k, 4000, (e_laws_markText k _).trans h⟩
    · cases h
noncomputable def S_laws_markStringS (k : Nat) : Summ K TyK where
  R := Int × List ByteArray
  modes := [.mv, .mv]
  run := fun args objs => match args, objs with
    | [.own 0, .lit (.int .i64 v1)], [.sl .str v2] => laws_markStringS k v2 v1
    | _, _ => none
  ret := fun r => (.lit (.int .i64 r.1), [.sl .str r.2])
  quiet := false
noncomputable def D_laws_markStringS (v : V) (os : Objs K TyK) : Option (Int × List ByteArray) :=
  match v, os with
  | .lit (.int .i64 v1), [.sl .str v2] => some (v1, v2)
  | _, _ => none
noncomputable def C_laws_markStringS_2 : Cut K TyK (Int × List ByteArray) where
  slots := [0, 1, 5]
  fn := fun k vs os => match vs, os with
    | [.own 0, .lit (.int .i64 x0), .lit (.int .i64 x1)], [.sl .str x2] => laws_markStringS_l2 k x0 x1 x2
    | _, _ => none
noncomputable abbrev G_laws_markStringS (k : Nat) : FuncId → Option (Summ K TyK) := lookT [(74, S_laws_markText k)]
noncomputable abbrev L_laws_markStringS : List (Nat × Cut K TyK (Int × List ByteArray)) := [(2, C_laws_markStringS_2)]
theorem c_laws_markStringS_2 (k : Nat) (x0 : Int) (x1 : Int) (x2 : List ByteArray) : run cod T (G_laws_markStringS k) (lam L_laws_markStringS k) (cutsOf L_laws_markStringS) 1 (finish cod T false 1 [.tmp 4] D_laws_markStringS) 4000 true (todoAt 2 (bodyOf Try.f22)) (envOf [0, 1, 5] [.own 0, .lit (.int .i64 x0), .lit (.int .i64 x1)]) [.sl .str x2] = laws_markStringS_l2 (k + 1) x0 x1 x2 := by kernel_rfl
theorem e_laws_markStringS (k : Nat) (a0 : List ByteArray) (a1 : Int) : run cod T (G_laws_markStringS k) (lam L_laws_markStringS k) (cutsOf L_laws_markStringS) 1 (finish cod T false 1 [.tmp 4] D_laws_markStringS) 4000 false [.code (bodyOf Try.f22)] (envOf [0, 1] [.own 0, .lit (.int .i64 a1)]) [.sl .str a0] = laws_markStringS k a0 a1 := by kernel_rfl
theorem ok_laws_markStringS (k : Nat) : SummOk Try.prog cod 22 (S_laws_markStringS k) := by
  refine summ_of (T := T) Try.f22 (G_laws_markStringS) L_laws_markStringS false [.tmp 4] 1 D_laws_markStringS mixed (fun k => Known.of tok eok codOk ?_) (fun k => QuietOk.of ?_) Try.func22 (by kernel_rfl) (by kernel_rfl) (by kernel_rfl) (by kernel_rfl) (by kernel_rfl) ?_ ?_ [false] ?_
  · exact all_cons (ok_laws_markText k) (all_nil)
  · exact all_cons (fun h r => ⟨rfl, rfl⟩) (all_nil)
  · intro v os r h
    unfold D_laws_markStringS at h
    split at h <;> first | (cases h; rfl) | cases h
  · refine all_cons ?_ (all_nil)
    · refine ⟨fun vs os => ?_, by kernel_rfl, fun k vs os r h => ?_⟩
      · show C_laws_markStringS_2.fn 0 vs os = none
        unfold C_laws_markStringS_2; dsimp only; split <;> rfl
      · change C_laws_markStringS_2.fn (k + 1) vs os = some r at h
        unfold C_laws_markStringS_2 at h; dsimp only at h
        split at h
        · exact ⟨4000, (c_laws_markStringS_2 k _ _ _).trans h⟩
        · cases h
  · intro args os r h
    change (S_laws_markStringS k).run args os = some r at h
    unfold S_laws_markStringS at h; dsimp only at h
    split at h
    · exact ⟨Nat.le_of_ble_eq_true (by kernel_rfl), rfl, rfl, k, 4000, (e_laws_markStringS k _ _).trans h⟩
    · cases h
noncomputable def S_laws_heldStringS (k : Nat) : Summ K TyK where
  R := Int
  modes := [.bo, .bo]
  run := fun args objs => match args, objs with
    | [.inl true .str v1, .lit (.int .i64 v2)], [] => laws_heldStringS k v1 v2
    | _, _ => none
  ret := fun r => (.lit (.int .i64 r), [])
  quiet := true
noncomputable def D_laws_heldStringS (v : V) (os : Objs K TyK) : Option (Int) :=
  match v, os with
  | .lit (.int .i64 v1), [] => some v1
  | _, _ => none
noncomputable def C_laws_heldStringS_2 : Cut K TyK (Int) where
  slots := [0, 1, 5]
  fn := fun k vs os => match vs, os with
    | [.inl true .str x0, .lit (.int .i64 x1), .lit (.int .i64 x2)], [] => laws_heldStringS_l2 k x0 x1 x2
    | _, _ => none
noncomputable abbrev G_laws_heldStringS (k : Nat) : FuncId → Option (Summ K TyK) := lookT [(74, S_laws_markText k)]
noncomputable abbrev L_laws_heldStringS : List (Nat × Cut K TyK (Int)) := [(2, C_laws_heldStringS_2)]
theorem c_laws_heldStringS_2 (k : Nat) (x0 : List ByteArray) (x1 : Int) (x2 : Int) : run cod T (G_laws_heldStringS k) (lam L_laws_heldStringS k) (cutsOf L_laws_heldStringS) 0 (finish cod T false 0 [.tmp 4] D_laws_heldStringS) 4000 true (todoAt 2 (bodyOf Try.f23)) (envOf [0, 1, 5] [.inl true .str x0, .lit (.int .i64 x1), .lit (.int .i64 x2)]) [] = laws_heldStringS_l2 (k + 1) x0 x1 x2 := by kernel_rfl
theorem e_laws_heldStringS (k : Nat) (a0 : List ByteArray) (a1 : Int) : run cod T (G_laws_heldStringS k) (lam L_laws_heldStringS k) (cutsOf L_laws_heldStringS) 0 (finish cod T false 0 [.tmp 4] D_laws_heldStringS) 4000 false [.code (bodyOf Try.f23)] (envOf [0, 1] [.inl true .str a0, .lit (.int .i64 a1)]) [] = laws_heldStringS k a0 a1 := by kernel_rfl
theorem ok_laws_heldStringS (k : Nat) : SummOk Try.prog cod 23 (S_laws_heldStringS k) := by
  refine summ_of (T := T) Try.f23 (G_laws_heldStringS) L_laws_heldStringS false [.tmp 4] 0 D_laws_heldStringS mixed (fun k => Known.of tok eok codOk ?_) (fun k => QuietOk.of ?_) Try.func23 (by kernel_rfl) (by kernel_rfl) (by kernel_rfl) (by kernel_rfl) (by kernel_rfl) ?_ ?_ [] ?_
  · exact all_cons (ok_laws_markText k) (all_nil)
  · exact all_cons (fun h r => ⟨rfl, rfl⟩) (all_nil)
  · intro v os r h
    unfold D_laws_heldStringS at h
    split at h <;> first | (cases h; rfl) | cases h
  · refine all_cons ?_ (all_nil)
    · refine ⟨fun vs os => ?_, by kernel_rfl, fun k vs os r h => ?_⟩
      · show C_laws_heldStringS_2.fn 0 vs os = none
        unfold C_laws_heldStringS_2; dsimp only; split <;> rfl
      · change C_laws_heldStringS_2.fn (k + 1) vs os = some r at h
        unfold C_laws_heldStringS_2 at h; dsimp only at h
        split at h
        · exact ⟨4000, (c_laws_heldStringS_2 k _ _ _).trans h⟩
        · cases h
  · intro args os r h
    change (S_laws_heldStringS k).run args os = some r at h
    unfold S_laws_heldStringS at h; dsimp only at h
    split at h
    · exact ⟨Nat.le_of_ble_eq_true (by kernel_rfl), rfl, rfl, k, 4000, (e_laws_heldStringS k _ _).trans h⟩
    · cases h
noncomputable def S_spec_l1In (k : Nat) : Summ K TyK where
  R := Bool
  modes := [.bo, .bo, .bo]
  run := fun args objs => match args, objs with
    | [.lit (.int .i64 v1), .lit (.int .i64 v2), .lit (.int .i64 v3)], [] => spec_l1In k v1 v2 v3
    | _, _ => none
  ret := fun r => (.lit (.bool r), [])
  quiet := true
noncomputable def D_spec_l1In (v : V) (os : Objs K TyK) : Option (Bool) :=
  match v, os with
  | .lit (.bool v1), [] => some v1
  | _, _ => none
noncomputable abbrev G_spec_l1In (k : Nat) : FuncId → Option (Summ K TyK) := lookT []
noncomputable abbrev L_spec_l1In : List (Nat × Cut K TyK (Bool)) := []
theorem e_spec_l1In (k : Nat) (a0 : Int) (a1 : Int) (a2 : Int) : run cod T (G_spec_l1In k) (lam L_spec_l1In k) (cutsOf L_spec_l1In) 0 (finish cod T false 0 [.tmp 6] D_spec_l1In) 4000 false [.code (bodyOf Try.f79)] (envOf [0, 1, 2] [.lit (.int .i64 a0), .lit (.int .i64 a1), .lit (.int .i64 a2)]) [] = spec_l1In k a0 a1 a2 := by kernel_rfl
theorem ok_spec_l1In (k : Nat) : SummOk Try.prog cod 79 (S_spec_l1In k) := by
  refine summ_of (T := T) Try.f79 (G_spec_l1In) L_spec_l1In false [.tmp 6] 0 D_spec_l1In mixed (fun k => Known.of tok eok codOk ?_) (fun k => QuietOk.of ?_) Try.func79 (by kernel_rfl) (by kernel_rfl) (by kernel_rfl) (by kernel_rfl) (by kernel_rfl) ?_ ?_ [] ?_
  · exact all_nil
  · exact all_nil
  · intro v os r h
    unfold D_spec_l1In at h
    split at h <;> first | (cases h; rfl) | cases h
  · refine all_nil
  · intro args os r h
    change (S_spec_l1In k).run args os = some r at h
    unfold S_spec_l1In at h; dsimp only at h
    split at h
    · exact ⟨Nat.le_of_ble_eq_true (by kernel_rfl), rfl, rfl, k, 4000, (e_spec_l1In k _ _ _).trans h⟩
    · cases h
noncomputable def S_laws_eqHeld (k : Nat) : Summ K TyK where
  R := Bool
  modes := [.bo, .bo]
  run := fun args objs => match args, objs with
    | [.agg [.lit (.int .i64 v1), .lit (.string v2), .lit (.bool v3)], .agg [.lit (.int .i64 v4), .lit (.string v5), .lit (.bool v6)]], [] => laws_eqHeld k (⟨v1, (⟨v2, v3⟩ : DPart)⟩ : DHeld) (⟨v4, (⟨v5, v6⟩ : DPart)⟩ : DHeld)
    | _, _ => none
  ret := fun r => (.lit (.bool r), [])
  quiet := true
noncomputable def D_laws_eqHeld (v : V) (os : Objs K TyK) : Option (Bool) :=
  match v, os with
  | .lit (.bool v1), [] => some v1
  | _, _ => none
noncomputable abbrev G_laws_eqHeld (k : Nat) : FuncId → Option (Summ K TyK) := lookT [(73, S_laws_eqPart k)]
noncomputable abbrev L_laws_eqHeld : List (Nat × Cut K TyK (Bool)) := []
theorem e_laws_eqHeld (k : Nat) (a0 : DHeld) (a1 : DHeld) : run cod T (G_laws_eqHeld k) (lam L_laws_eqHeld k) (cutsOf L_laws_eqHeld) 0 (finish cod T false 0 [.tmp 4] D_laws_eqHeld) 4000 false [.code (bodyOf Try.f115)] (envOf [0, 1] [.agg [.lit (.int .i64 a0.Seq), .lit (.string a0.Part.Text), .lit (.bool a0.Part.Last)], .agg [.lit (.int .i64 a1.Seq), .lit (.string a1.Part.Text), .lit (.bool a1.Part.Last)]]) [] = laws_eqHeld k a0 a1 := by kernel_rfl
theorem ok_laws_eqHeld (k : Nat) : SummOk Try.prog cod 115 (S_laws_eqHeld k) := by
  refine summ_of (T := T) Try.f115 (G_laws_eqHeld) L_laws_eqHeld false [.tmp 4] 0 D_laws_eqHeld mixed (fun k => Known.of tok eok codOk ?_) (fun k => QuietOk.of ?_) Try.func115 (by kernel_rfl) (by kernel_rfl) (by kernel_rfl) (by kernel_rfl) (by kernel_rfl) ?_ ?_ [] ?_
  · exact all_cons (ok_laws_eqPart k) (all_nil)
  · exact all_cons (fun h r => ⟨rfl, rfl⟩) (all_nil)
  · intro v os r h
    unfold D_laws_eqHeld at h
    split at h <;> first | (cases h; rfl) | cases h
  · refine all_nil
  · intro args os r h
    change (S_laws_eqHeld k).run args os = some r at h
    unfold S_laws_eqHeld at h; dsimp only at h
    split at h
    · exact ⟨Nat.le_of_ble_eq_true (by kernel_rfl), rfl, rfl, k, 4000, (e_laws_eqHeld k ⟨_, ⟨_, _⟩⟩ ⟨_, ⟨_, _⟩⟩).trans h⟩
    · cases h
noncomputable def S_laws_eqHeldS (k : Nat) : Summ K TyK where
  R := Bool
  modes := [.bo, .bo]
  run := fun args objs => match args, objs with
    | [.inl true .held v1, .inl true .held v2], [] => laws_eqHeldS k v1 v2
    | _, _ => none
  ret := fun r => (.lit (.bool r), [])
  quiet := true
noncomputable def D_laws_eqHeldS (v : V) (os : Objs K TyK) : Option (Bool) :=
  match v, os with
  | .lit (.bool v1), [] => some v1
  | _, _ => none
noncomputable def C_laws_eqHeldS_4 : Cut K TyK (Bool) where
  slots := [0, 1, 5]
  fn := fun k vs os => match vs, os with
    | [.inl true .held x0, .inl true .held x1, .lit (.int .i64 x2)], [] => laws_eqHeldS_l4 k x0 x1 x2
    | _, _ => none
noncomputable abbrev G_laws_eqHeldS (k : Nat) : FuncId → Option (Summ K TyK) := lookT [(115, S_laws_eqHeld k)]
noncomputable abbrev L_laws_eqHeldS : List (Nat × Cut K TyK (Bool)) := [(4, C_laws_eqHeldS_4)]
theorem c_laws_eqHeldS_4 (k : Nat) (x0 : List DHeld) (x1 : List DHeld) (x2 : Int) : run cod T (G_laws_eqHeldS k) (lam L_laws_eqHeldS k) (cutsOf L_laws_eqHeldS) 0 (finish cod T false 0 [.tmp 4] D_laws_eqHeldS) 4000 true (todoAt 4 (bodyOf Try.f91)) (envOf [0, 1, 5] [.inl true .held x0, .inl true .held x1, .lit (.int .i64 x2)]) [] = laws_eqHeldS_l4 (k + 1) x0 x1 x2 := by kernel_rfl
theorem e_laws_eqHeldS (k : Nat) (a0 : List DHeld) (a1 : List DHeld) : run cod T (G_laws_eqHeldS k) (lam L_laws_eqHeldS k) (cutsOf L_laws_eqHeldS) 0 (finish cod T false 0 [.tmp 4] D_laws_eqHeldS) 4000 false [.code (bodyOf Try.f91)] (envOf [0, 1] [.inl true .held a0, .inl true .held a1]) [] = laws_eqHeldS k a0 a1 := by kernel_rfl
theorem ok_laws_eqHeldS (k : Nat) : SummOk Try.prog cod 91 (S_laws_eqHeldS k) := by
  refine summ_of (T := T) Try.f91 (G_laws_eqHeldS) L_laws_eqHeldS false [.tmp 4] 0 D_laws_eqHeldS mixed (fun k => Known.of tok eok codOk ?_) (fun k => QuietOk.of ?_) Try.func91 (by kernel_rfl) (by kernel_rfl) (by kernel_rfl) (by kernel_rfl) (by kernel_rfl) ?_ ?_ [] ?_
  · exact all_cons (ok_laws_eqHeld k) (all_nil)
  · exact all_cons (fun h r => ⟨rfl, rfl⟩) (all_nil)
  · intro v os r h
    unfold D_laws_eqHeldS at h
    split at h <;> first | (cases h; rfl) | cases h
  · refine all_cons ?_ (all_nil)
    · refine ⟨fun vs os => ?_, by kernel_rfl, fun k vs os r h => ?_⟩
      · show C_laws_eqHeldS_4.fn 0 vs os = none
        unfold C_laws_eqHeldS_4; dsimp only; split <;> rfl
      · change C_laws_eqHeldS_4.fn (k + 1) vs os = some r at h
        unfold C_laws_eqHeldS_4 at h; dsimp only at h
        split at h
        · exact ⟨4000, (c_laws_eqHeldS_4 k _ _ _).trans h⟩
        · cases h
  · intro args os r h
    change (S_laws_eqHeldS k).run args os = some r at h
    unfold S_laws_eqHeldS at h; dsimp only at h
    split at h
    · exact ⟨Nat.le_of_ble_eq_true (by kernel_rfl), rfl, rfl, k, 4000, (e_laws_eqHeldS k _ _).trans h⟩
    · cases h
noncomputable def S_laws_eqTake (k : Nat) : Summ K TyK where
  R := Bool
  modes := [.bo, .bo]
  run := fun args objs => match args, objs with
    | [.agg [.lit (.int .i64 v1), .inl true .held v2, .lit (.string v3), .inl true .str v4], .agg [.lit (.int .i64 v5), .inl true .held v6, .lit (.string v7), .inl true .str v8]], [] => laws_eqTake k (⟨v1, v2, v3, v4⟩ : DTake) (⟨v5, v6, v7, v8⟩ : DTake)
    | _, _ => none
  ret := fun r => (.lit (.bool r), [])
  quiet := true
noncomputable def D_laws_eqTake (v : V) (os : Objs K TyK) : Option (Bool) :=
  match v, os with
  | .lit (.bool v1), [] => some v1
  | _, _ => none
noncomputable abbrev G_laws_eqTake (k : Nat) : FuncId → Option (Summ K TyK) := lookT [(91, S_laws_eqHeldS k), (19, S_laws_eqStringS k)]
noncomputable abbrev L_laws_eqTake : List (Nat × Cut K TyK (Bool)) := []
theorem e_laws_eqTake (k : Nat) (a0 : DTake) (a1 : DTake) : run cod T (G_laws_eqTake k) (lam L_laws_eqTake k) (cutsOf L_laws_eqTake) 0 (finish cod T false 0 [.tmp 4] D_laws_eqTake) 4000 false [.code (bodyOf Try.f36)] (envOf [0, 1] [.agg [.lit (.int .i64 a0.Next), .inl true .held a0.Held, .lit (.string a0.Open), .inl true .str a0.Ready], .agg [.lit (.int .i64 a1.Next), .inl true .held a1.Held, .lit (.string a1.Open), .inl true .str a1.Ready]]) [] = laws_eqTake k a0 a1 := by kernel_rfl
theorem ok_laws_eqTake (k : Nat) : SummOk Try.prog cod 36 (S_laws_eqTake k) := by
  refine summ_of (T := T) Try.f36 (G_laws_eqTake) L_laws_eqTake false [.tmp 4] 0 D_laws_eqTake mixed (fun k => Known.of tok eok codOk ?_) (fun k => QuietOk.of ?_) Try.func36 (by kernel_rfl) (by kernel_rfl) (by kernel_rfl) (by kernel_rfl) (by kernel_rfl) ?_ ?_ [] ?_
  · exact all_cons (ok_laws_eqHeldS k) (all_cons (ok_laws_eqStringS k) (all_nil))
  · exact all_cons (fun h r => ⟨rfl, rfl⟩) (all_cons (fun h r => ⟨rfl, rfl⟩) (all_nil))
  · intro v os r h
    unfold D_laws_eqTake at h
    split at h <;> first | (cases h; rfl) | cases h
  · refine all_nil
  · intro args os r h
    change (S_laws_eqTake k).run args os = some r at h
    unfold S_laws_eqTake at h; dsimp only at h
    split at h
    · exact ⟨Nat.le_of_ble_eq_true (by kernel_rfl), rfl, rfl, k, 4000, (e_laws_eqTake k ⟨_, _, _, _⟩ ⟨_, _, _, _⟩).trans h⟩
    · cases h
noncomputable def S_laws_eqItem (k : Nat) : Summ K TyK where
  R := Bool
  modes := [.bo, .bo]
  run := fun args objs => match args, objs with
    | [.agg [.lit (.string v1), .lit (.bool v2), .lit (.bool v3), .lit (.int .i64 v4)], .agg [.lit (.string v5), .lit (.bool v6), .lit (.bool v7), .lit (.int .i64 v8)]], [] => laws_eqItem k (⟨(⟨v1, v2⟩ : DPart), v3, v4⟩ : DItem) (⟨(⟨v5, v6⟩ : DPart), v7, v8⟩ : DItem)
    | _, _ => none
  ret := fun r => (.lit (.bool r), [])
  quiet := true
noncomputable def D_laws_eqItem (v : V) (os : Objs K TyK) : Option (Bool) :=
  match v, os with
  | .lit (.bool v1), [] => some v1
  | _, _ => none
noncomputable abbrev G_laws_eqItem (k : Nat) : FuncId → Option (Summ K TyK) := lookT [(73, S_laws_eqPart k)]
noncomputable abbrev L_laws_eqItem : List (Nat × Cut K TyK (Bool)) := []
theorem e_laws_eqItem (k : Nat) (a0 : DItem) (a1 : DItem) : run cod T (G_laws_eqItem k) (lam L_laws_eqItem k) (cutsOf L_laws_eqItem) 0 (finish cod T false 0 [.tmp 4] D_laws_eqItem) 4000 false [.code (bodyOf Try.f118)] (envOf [0, 1] [.agg [.lit (.string a0.Part.Text), .lit (.bool a0.Part.Last), .lit (.bool a0.Has), .lit (.int .i64 a0.Since)], .agg [.lit (.string a1.Part.Text), .lit (.bool a1.Part.Last), .lit (.bool a1.Has), .lit (.int .i64 a1.Since)]]) [] = laws_eqItem k a0 a1 := by kernel_rfl
theorem ok_laws_eqItem (k : Nat) : SummOk Try.prog cod 118 (S_laws_eqItem k) := by
  refine summ_of (T := T) Try.f118 (G_laws_eqItem) L_laws_eqItem false [.tmp 4] 0 D_laws_eqItem mixed (fun k => Known.of tok eok codOk ?_) (fun k => QuietOk.of ?_) Try.func118 (by kernel_rfl) (by kernel_rfl) (by kernel_rfl) (by kernel_rfl) (by kernel_rfl) ?_ ?_ [] ?_
  · exact all_cons (ok_laws_eqPart k) (all_nil)
  · exact all_cons (fun h r => ⟨rfl, rfl⟩) (all_nil)
  · intro v os r h
    unfold D_laws_eqItem at h
    split at h <;> first | (cases h; rfl) | cases h
  · refine all_nil
  · intro args os r h
    change (S_laws_eqItem k).run args os = some r at h
    unfold S_laws_eqItem at h; dsimp only at h
    split at h
    · exact ⟨Nat.le_of_ble_eq_true (by kernel_rfl), rfl, rfl, k, 4000, (e_laws_eqItem k ⟨⟨_, _⟩, _, _⟩ ⟨⟨_, _⟩, _, _⟩).trans h⟩
    · cases h
noncomputable def S_laws_eqItemS (k : Nat) : Summ K TyK where
  R := Bool
  modes := [.bo, .bo]
  run := fun args objs => match args, objs with
    | [.inl true .item v1, .inl true .item v2], [] => laws_eqItemS k v1 v2
    | _, _ => none
  ret := fun r => (.lit (.bool r), [])
  quiet := true
noncomputable def D_laws_eqItemS (v : V) (os : Objs K TyK) : Option (Bool) :=
  match v, os with
  | .lit (.bool v1), [] => some v1
  | _, _ => none
noncomputable def C_laws_eqItemS_4 : Cut K TyK (Bool) where
  slots := [0, 1, 5]
  fn := fun k vs os => match vs, os with
    | [.inl true .item x0, .inl true .item x1, .lit (.int .i64 x2)], [] => laws_eqItemS_l4 k x0 x1 x2
    | _, _ => none
noncomputable abbrev G_laws_eqItemS (k : Nat) : FuncId → Option (Summ K TyK) := lookT [(118, S_laws_eqItem k)]
noncomputable abbrev L_laws_eqItemS : List (Nat × Cut K TyK (Bool)) := [(4, C_laws_eqItemS_4)]
theorem c_laws_eqItemS_4 (k : Nat) (x0 : List DItem) (x1 : List DItem) (x2 : Int) : run cod T (G_laws_eqItemS k) (lam L_laws_eqItemS k) (cutsOf L_laws_eqItemS) 0 (finish cod T false 0 [.tmp 4] D_laws_eqItemS) 4000 true (todoAt 4 (bodyOf Try.f99)) (envOf [0, 1, 5] [.inl true .item x0, .inl true .item x1, .lit (.int .i64 x2)]) [] = laws_eqItemS_l4 (k + 1) x0 x1 x2 := by kernel_rfl
theorem e_laws_eqItemS (k : Nat) (a0 : List DItem) (a1 : List DItem) : run cod T (G_laws_eqItemS k) (lam L_laws_eqItemS k) (cutsOf L_laws_eqItemS) 0 (finish cod T false 0 [.tmp 4] D_laws_eqItemS) 4000 false [.code (bodyOf Try.f99)] (envOf [0, 1] [.inl true .item a0, .inl true .item a1]) [] = laws_eqItemS k a0 a1 := by kernel_rfl
theorem ok_laws_eqItemS (k : Nat) : SummOk Try.prog cod 99 (S_laws_eqItemS k) := by
  refine summ_of (T := T) Try.f99 (G_laws_eqItemS) L_laws_eqItemS false [.tmp 4] 0 D_laws_eqItemS mixed (fun k => Known.of tok eok codOk ?_) (fun k => QuietOk.of ?_) Try.func99 (by kernel_rfl) (by kernel_rfl) (by kernel_rfl) (by kernel_rfl) (by kernel_rfl) ?_ ?_ [] ?_
  · exact all_cons (ok_laws_eqItem k) (all_nil)
  · exact all_cons (fun h r => ⟨rfl, rfl⟩) (all_nil)
  · intro v os r h
    unfold D_laws_eqItemS at h
    split at h <;> first | (cases h; rfl) | cases h
  · refine all_cons ?_ (all_nil)
    · refine ⟨fun vs os => ?_, by kernel_rfl, fun k vs os r h => ?_⟩
      · show C_laws_eqItemS_4.fn 0 vs os = none
        unfold C_laws_eqItemS_4; dsimp only; split <;> rfl
      · change C_laws_eqItemS_4.fn (k + 1) vs os = some r at h
        unfold C_laws_eqItemS_4 at h; dsimp only at h
        split at h
        · exact ⟨4000, (c_laws_eqItemS_4 k _ _ _).trans h⟩
        · cases h
  · intro args os r h
    change (S_laws_eqItemS k).run args os = some r at h
    unfold S_laws_eqItemS at h; dsimp only at h
    split at h
    · exact ⟨Nat.le_of_ble_eq_true (by kernel_rfl), rfl, rfl, k, 4000, (e_laws_eqItemS k _ _).trans h⟩
    · cases h
noncomputable def S_laws_eqSend (k : Nat) : Summ K TyK where
  R := Bool
  modes := [.bo, .bo]
  run := fun args objs => match args, objs with
    | [.agg [.lit (.int .i64 v1), .inl true .item v2], .agg [.lit (.int .i64 v3), .inl true .item v4]], [] => laws_eqSend k (⟨v1, v2⟩ : DSend) (⟨v3, v4⟩ : DSend)
    | _, _ => none
  ret := fun r => (.lit (.bool r), [])
  quiet := true
noncomputable def D_laws_eqSend (v : V) (os : Objs K TyK) : Option (Bool) :=
  match v, os with
  | .lit (.bool v1), [] => some v1
  | _, _ => none
noncomputable abbrev G_laws_eqSend (k : Nat) : FuncId → Option (Summ K TyK) := lookT [(99, S_laws_eqItemS k)]
noncomputable abbrev L_laws_eqSend : List (Nat × Cut K TyK (Bool)) := []
theorem e_laws_eqSend (k : Nat) (a0 : DSend) (a1 : DSend) : run cod T (G_laws_eqSend k) (lam L_laws_eqSend k) (cutsOf L_laws_eqSend) 0 (finish cod T false 0 [.tmp 4] D_laws_eqSend) 4000 false [.code (bodyOf Try.f47)] (envOf [0, 1] [.agg [.lit (.int .i64 a0.Base), .inl true .item a0.Items], .agg [.lit (.int .i64 a1.Base), .inl true .item a1.Items]]) [] = laws_eqSend k a0 a1 := by kernel_rfl
theorem ok_laws_eqSend (k : Nat) : SummOk Try.prog cod 47 (S_laws_eqSend k) := by
  refine summ_of (T := T) Try.f47 (G_laws_eqSend) L_laws_eqSend false [.tmp 4] 0 D_laws_eqSend mixed (fun k => Known.of tok eok codOk ?_) (fun k => QuietOk.of ?_) Try.func47 (by kernel_rfl) (by kernel_rfl) (by kernel_rfl) (by kernel_rfl) (by kernel_rfl) ?_ ?_ [] ?_
  · exact all_cons (ok_laws_eqItemS k) (all_nil)
  · exact all_cons (fun h r => ⟨rfl, rfl⟩) (all_nil)
  · intro v os r h
    unfold D_laws_eqSend at h
    split at h <;> first | (cases h; rfl) | cases h
  · refine all_nil
  · intro args os r h
    change (S_laws_eqSend k).run args os = some r at h
    unfold S_laws_eqSend at h; dsimp only at h
    split at h
    · exact ⟨Nat.le_of_ble_eq_true (by kernel_rfl), rfl, rfl, k, 4000, (e_laws_eqSend k ⟨_, _⟩ ⟨_, _⟩).trans h⟩
    · cases h
noncomputable def S_laws_markItemS (k : Nat) : Summ K TyK where
  R := Int × List DItem
  modes := [.mv, .mv]
  run := fun args objs => match args, objs with
    | [.own 0, .lit (.int .i64 v1)], [.sl .item v2] => laws_markItemS k v2 v1
    | _, _ => none
  ret := fun r => (.lit (.int .i64 r.1), [.sl .item r.2])
  quiet := false
noncomputable def D_laws_markItemS (v : V) (os : Objs K TyK) : Option (Int × List DItem) :=
  match v, os with
  | .lit (.int .i64 v1), [.sl .item v2] => some (v1, v2)
  | _, _ => none
noncomputable def C_laws_markItemS_2 : Cut K TyK (Int × List DItem) where
  slots := [0, 1, 5]
  fn := fun k vs os => match vs, os with
    | [.own 0, .lit (.int .i64 x0), .lit (.int .i64 x1)], [.sl .item x2] => laws_markItemS_l2 k x0 x1 x2
    | _, _ => none
noncomputable abbrev G_laws_markItemS (k : Nat) : FuncId → Option (Summ K TyK) := lookT [(74, S_laws_markText k)]
noncomputable abbrev L_laws_markItemS : List (Nat × Cut K TyK (Int × List DItem)) := [(2, C_laws_markItemS_2)]
theorem c_laws_markItemS_2 (k : Nat) (x0 : Int) (x1 : Int) (x2 : List DItem) : run cod T (G_laws_markItemS k) (lam L_laws_markItemS k) (cutsOf L_laws_markItemS) 1 (finish cod T false 1 [.tmp 4] D_laws_markItemS) 4000 true (todoAt 2 (bodyOf Try.f100)) (envOf [0, 1, 5] [.own 0, .lit (.int .i64 x0), .lit (.int .i64 x1)]) [.sl .item x2] = laws_markItemS_l2 (k + 1) x0 x1 x2 := by kernel_rfl
theorem e_laws_markItemS (k : Nat) (a0 : List DItem) (a1 : Int) : run cod T (G_laws_markItemS k) (lam L_laws_markItemS k) (cutsOf L_laws_markItemS) 1 (finish cod T false 1 [.tmp 4] D_laws_markItemS) 4000 false [.code (bodyOf Try.f100)] (envOf [0, 1] [.own 0, .lit (.int .i64 a1)]) [.sl .item a0] = laws_markItemS k a0 a1 := by kernel_rfl
theorem ok_laws_markItemS (k : Nat) : SummOk Try.prog cod 100 (S_laws_markItemS k) := by
  refine summ_of (T := T) Try.f100 (G_laws_markItemS) L_laws_markItemS false [.tmp 4] 1 D_laws_markItemS mixed (fun k => Known.of tok eok codOk ?_) (fun k => QuietOk.of ?_) Try.func100 (by kernel_rfl) (by kernel_rfl) (by kernel_rfl) (by kernel_rfl) (by kernel_rfl) ?_ ?_ [false] ?_
  · exact all_cons (ok_laws_markText k) (all_nil)
  · exact all_cons (fun h r => ⟨rfl, rfl⟩) (all_nil)
  · intro v os r h
    unfold D_laws_markItemS at h
    split at h <;> first | (cases h; rfl) | cases h
  · refine all_cons ?_ (all_nil)
    · refine ⟨fun vs os => ?_, by kernel_rfl, fun k vs os r h => ?_⟩
      · show C_laws_markItemS_2.fn 0 vs os = none
        unfold C_laws_markItemS_2; dsimp only; split <;> rfl
      · change C_laws_markItemS_2.fn (k + 1) vs os = some r at h
        unfold C_laws_markItemS_2 at h; dsimp only at h
        split at h
        · exact ⟨4000, (c_laws_markItemS_2 k _ _ _).trans h⟩
        · cases h
  · intro args os r h
    change (S_laws_markItemS k).run args os = some r at h
    unfold S_laws_markItemS at h; dsimp only at h
    split at h
    · exact ⟨Nat.le_of_ble_eq_true (by kernel_rfl), rfl, rfl, k, 4000, (e_laws_markItemS k _ _).trans h⟩
    · cases h
noncomputable def S_laws_markSend (k : Nat) : Summ K TyK where
  R := Int × List DItem
  modes := [.mv, .mv]
  run := fun args objs => match args, objs with
    | [.agg [.lit (.int .i64 v1), .own 0], .lit (.int .i64 v2)], [.sl .item v3] => laws_markSend k (⟨v1, v3⟩ : DSend) v2
    | _, _ => none
  ret := fun r => (.lit (.int .i64 r.1), [.sl .item r.2])
  quiet := false
noncomputable def D_laws_markSend (v : V) (os : Objs K TyK) : Option (Int × List DItem) :=
  match v, os with
  | .lit (.int .i64 v1), [.sl .item v2] => some (v1, v2)
  | _, _ => none
noncomputable abbrev G_laws_markSend (k : Nat) : FuncId → Option (Summ K TyK) := lookT [(100, S_laws_markItemS k)]
noncomputable abbrev L_laws_markSend : List (Nat × Cut K TyK (Int × List DItem)) := []
theorem e_laws_markSend (k : Nat) (a0 : DSend) (a1 : Int) : run cod T (G_laws_markSend k) (lam L_laws_markSend k) (cutsOf L_laws_markSend) 1 (finish cod T false 1 [.tmp 4] D_laws_markSend) 4000 false [.code (bodyOf Try.f48)] (envOf [0, 1] [.agg [.lit (.int .i64 a0.Base), .own 0], .lit (.int .i64 a1)]) [.sl .item a0.Items] = laws_markSend k a0 a1 := by kernel_rfl
theorem ok_laws_markSend (k : Nat) : SummOk Try.prog cod 48 (S_laws_markSend k) := by
  refine summ_of (T := T) Try.f48 (G_laws_markSend) L_laws_markSend false [.tmp 4] 1 D_laws_markSend mixed (fun k => Known.of tok eok codOk ?_) (fun k => QuietOk.of ?_) Try.func48 (by kernel_rfl) (by kernel_rfl) (by kernel_rfl) (by kernel_rfl) (by kernel_rfl) ?_ ?_ [false] ?_
  · exact all_cons (ok_laws_markItemS k) (all_nil)
  · exact all_cons (fun h r => by cases h) (all_nil)
  · intro v os r h
    unfold D_laws_markSend at h
    split at h <;> first | (cases h; rfl) | cases h
  · refine all_nil
  · intro args os r h
    change (S_laws_markSend k).run args os = some r at h
    unfold S_laws_markSend at h; dsimp only at h
    split at h
    · exact ⟨Nat.le_of_ble_eq_true (by kernel_rfl), rfl, rfl, k, 4000, (e_laws_markSend k ⟨_, _⟩ _).trans h⟩
    · cases h
noncomputable def S_laws_heldItemS (k : Nat) : Summ K TyK where
  R := Int
  modes := [.bo, .bo]
  run := fun args objs => match args, objs with
    | [.inl true .item v1, .lit (.int .i64 v2)], [] => laws_heldItemS k v1 v2
    | _, _ => none
  ret := fun r => (.lit (.int .i64 r), [])
  quiet := true
noncomputable def D_laws_heldItemS (v : V) (os : Objs K TyK) : Option (Int) :=
  match v, os with
  | .lit (.int .i64 v1), [] => some v1
  | _, _ => none
noncomputable def C_laws_heldItemS_2 : Cut K TyK (Int) where
  slots := [0, 1, 5]
  fn := fun k vs os => match vs, os with
    | [.inl true .item x0, .lit (.int .i64 x1), .lit (.int .i64 x2)], [] => laws_heldItemS_l2 k x0 x1 x2
    | _, _ => none
noncomputable abbrev G_laws_heldItemS (k : Nat) : FuncId → Option (Summ K TyK) := lookT [(74, S_laws_markText k)]
noncomputable abbrev L_laws_heldItemS : List (Nat × Cut K TyK (Int)) := [(2, C_laws_heldItemS_2)]
theorem c_laws_heldItemS_2 (k : Nat) (x0 : List DItem) (x1 : Int) (x2 : Int) : run cod T (G_laws_heldItemS k) (lam L_laws_heldItemS k) (cutsOf L_laws_heldItemS) 0 (finish cod T false 0 [.tmp 4] D_laws_heldItemS) 4000 true (todoAt 2 (bodyOf Try.f101)) (envOf [0, 1, 5] [.inl true .item x0, .lit (.int .i64 x1), .lit (.int .i64 x2)]) [] = laws_heldItemS_l2 (k + 1) x0 x1 x2 := by kernel_rfl
theorem e_laws_heldItemS (k : Nat) (a0 : List DItem) (a1 : Int) : run cod T (G_laws_heldItemS k) (lam L_laws_heldItemS k) (cutsOf L_laws_heldItemS) 0 (finish cod T false 0 [.tmp 4] D_laws_heldItemS) 4000 false [.code (bodyOf Try.f101)] (envOf [0, 1] [.inl true .item a0, .lit (.int .i64 a1)]) [] = laws_heldItemS k a0 a1 := by kernel_rfl
theorem ok_laws_heldItemS (k : Nat) : SummOk Try.prog cod 101 (S_laws_heldItemS k) := by
  refine summ_of (T := T) Try.f101 (G_laws_heldItemS) L_laws_heldItemS false [.tmp 4] 0 D_laws_heldItemS mixed (fun k => Known.of tok eok codOk ?_) (fun k => QuietOk.of ?_) Try.func101 (by kernel_rfl) (by kernel_rfl) (by kernel_rfl) (by kernel_rfl) (by kernel_rfl) ?_ ?_ [] ?_
  · exact all_cons (ok_laws_markText k) (all_nil)
  · exact all_cons (fun h r => ⟨rfl, rfl⟩) (all_nil)
  · intro v os r h
    unfold D_laws_heldItemS at h
    split at h <;> first | (cases h; rfl) | cases h
  · refine all_cons ?_ (all_nil)
    · refine ⟨fun vs os => ?_, by kernel_rfl, fun k vs os r h => ?_⟩
      · show C_laws_heldItemS_2.fn 0 vs os = none
        unfold C_laws_heldItemS_2; dsimp only; split <;> rfl
      · change C_laws_heldItemS_2.fn (k + 1) vs os = some r at h
        unfold C_laws_heldItemS_2 at h; dsimp only at h
        split at h
        · exact ⟨4000, (c_laws_heldItemS_2 k _ _ _).trans h⟩
        · cases h
  · intro args os r h
    change (S_laws_heldItemS k).run args os = some r at h
    unfold S_laws_heldItemS at h; dsimp only at h
    split at h
    · exact ⟨Nat.le_of_ble_eq_true (by kernel_rfl), rfl, rfl, k, 4000, (e_laws_heldItemS k _ _).trans h⟩
    · cases h
noncomputable def S_laws_heldSend (k : Nat) : Summ K TyK where
  R := Int
  modes := [.bo, .bo]
  run := fun args objs => match args, objs with
    | [.agg [.lit (.int .i64 v1), .inl true .item v2], .lit (.int .i64 v3)], [] => laws_heldSend k (⟨v1, v2⟩ : DSend) v3
    | _, _ => none
  ret := fun r => (.lit (.int .i64 r), [])
  quiet := true
noncomputable def D_laws_heldSend (v : V) (os : Objs K TyK) : Option (Int) :=
  match v, os with
  | .lit (.int .i64 v1), [] => some v1
  | _, _ => none
noncomputable abbrev G_laws_heldSend (k : Nat) : FuncId → Option (Summ K TyK) := lookT [(101, S_laws_heldItemS k)]
noncomputable abbrev L_laws_heldSend : List (Nat × Cut K TyK (Int)) := []
theorem e_laws_heldSend (k : Nat) (a0 : DSend) (a1 : Int) : run cod T (G_laws_heldSend k) (lam L_laws_heldSend k) (cutsOf L_laws_heldSend) 0 (finish cod T false 0 [.tmp 4] D_laws_heldSend) 4000 false [.code (bodyOf Try.f49)] (envOf [0, 1] [.agg [.lit (.int .i64 a0.Base), .inl true .item a0.Items], .lit (.int .i64 a1)]) [] = laws_heldSend k a0 a1 := by kernel_rfl
theorem ok_laws_heldSend (k : Nat) : SummOk Try.prog cod 49 (S_laws_heldSend k) := by
  refine summ_of (T := T) Try.f49 (G_laws_heldSend) L_laws_heldSend false [.tmp 4] 0 D_laws_heldSend mixed (fun k => Known.of tok eok codOk ?_) (fun k => QuietOk.of ?_) Try.func49 (by kernel_rfl) (by kernel_rfl) (by kernel_rfl) (by kernel_rfl) (by kernel_rfl) ?_ ?_ [] ?_
  · exact all_cons (ok_laws_heldItemS k) (all_nil)
  · exact all_cons (fun h r => ⟨rfl, rfl⟩) (all_nil)
  · intro v os r h
    unfold D_laws_heldSend at h
    split at h <;> first | (cases h; rfl) | cases h
  · refine all_nil
  · intro args os r h
    change (S_laws_heldSend k).run args os = some r at h
    unfold S_laws_heldSend at h; dsimp only at h
    split at h
    · exact ⟨Nat.le_of_ble_eq_true (by kernel_rfl), rfl, rfl, k, 4000, (e_laws_heldSend k ⟨_, _⟩ _).trans h⟩
    · cases h
noncomputable def S_spec_NewEnd (k : Nat) : Summ K TyK where
  R := DEnd
  modes := [.bo]
  run := fun args objs => match args, objs with
    | [.lit (.int .i64 v1)], [] => spec_NewEnd k v1
    | _, _ => none
  ret := fun r => (.agg [.lit (.int .i64 r.Number), .lit (.bool r.Up), .lit (.int .i64 r.Life), .lit (.int .i64 r.Peer), .lit (.int .i64 r.Since), .lit (.bool r.Owes), .lit (.int .i64 r.Send.Base), .own 0, .lit (.int .i64 r.Take.Next), .own 1, .lit (.string r.Take.Open), .own 2], [.sl .item r.Send.Items, .sl .held r.Take.Held, .sl .str r.Take.Ready])
  quiet := false
noncomputable def D_spec_NewEnd (v : V) (os : Objs K TyK) : Option (DEnd) :=
  match v, os with
  | .agg [.lit (.int .i64 v1), .lit (.bool v2), .lit (.int .i64 v3), .lit (.int .i64 v4), .lit (.int .i64 v5), .lit (.bool v6), .lit (.int .i64 v7), .own 0, .lit (.int .i64 v8), .own 1, .lit (.string v9), .own 2], [.sl .item v10, .sl .held v11, .sl .str v12] => some (⟨v1, v2, v3, v4, v5, v6, (⟨v7, v10⟩ : DSend), (⟨v8, v11, v9, v12⟩ : DTake)⟩ : DEnd)
  | _, _ => none
noncomputable abbrev G_spec_NewEnd (k : Nat) : FuncId → Option (Summ K TyK) := lookT [(79, S_spec_l1In k)]
noncomputable abbrev L_spec_NewEnd : List (Nat × Cut K TyK (DEnd)) := []
theorem e_spec_NewEnd (k : Nat) (a0 : Int) : run cod T (G_spec_NewEnd k) (lam L_spec_NewEnd k) (cutsOf L_spec_NewEnd) 0 (finish cod T false 0 [.cell 2 85] D_spec_NewEnd) 4000 false [.code (bodyOf Try.f57)] (envOf [0] [.lit (.int .i64 a0)]) [] = spec_NewEnd k a0 := by kernel_rfl
theorem ok_spec_NewEnd (k : Nat) : SummOk Try.prog cod 57 (S_spec_NewEnd k) := by
  refine summ_of (T := T) Try.f57 (G_spec_NewEnd) L_spec_NewEnd false [.cell 2 85] 0 D_spec_NewEnd mixed (fun k => Known.of tok eok codOk ?_) (fun k => QuietOk.of ?_) Try.func57 (by kernel_rfl) (by kernel_rfl) (by kernel_rfl) (by kernel_rfl) (by kernel_rfl) ?_ ?_ [] ?_
  · exact all_cons (ok_spec_l1In k) (all_nil)
  · exact all_cons (fun h r => ⟨rfl, rfl⟩) (all_nil)
  · intro v os r h
    unfold D_spec_NewEnd at h
    split at h <;> first | (cases h; rfl) | cases h
  · refine all_nil
  · intro args os r h
    change (S_spec_NewEnd k).run args os = some r at h
    unfold S_spec_NewEnd at h; dsimp only at h
    split at h
    · exact ⟨Nat.le_of_ble_eq_true (by kernel_rfl), rfl, rfl, k, 4000, (e_spec_NewEnd k _).trans h⟩
    · cases h
noncomputable def S_impl_NewEnd (k : Nat) : Summ K TyK where
  R := DEnd
  modes := [.bo]
  run := fun args objs => match args, objs with
    | [.lit (.int .i64 v1)], [] => impl_NewEnd k v1
    | _, _ => none
  ret := fun r => (.agg [.lit (.int .i64 r.Number), .lit (.bool r.Up), .lit (.int .i64 r.Life), .lit (.int .i64 r.Peer), .lit (.int .i64 r.Since), .lit (.bool r.Owes), .lit (.int .i64 r.Send.Base), .own 0, .lit (.int .i64 r.Take.Next), .own 1, .lit (.string r.Take.Open), .own 2], [.sl .item r.Send.Items, .sl .held r.Take.Held, .sl .str r.Take.Ready])
  quiet := false
noncomputable def D_impl_NewEnd (v : V) (os : Objs K TyK) : Option (DEnd) :=
  match v, os with
  | .agg [.lit (.int .i64 v1), .lit (.bool v2), .lit (.int .i64 v3), .lit (.int .i64 v4), .lit (.int .i64 v5), .lit (.bool v6), .lit (.int .i64 v7), .own 0, .lit (.int .i64 v8), .own 1, .lit (.string v9), .own 2], [.sl .item v10, .sl .held v11, .sl .str v12] => some (⟨v1, v2, v3, v4, v5, v6, (⟨v7, v10⟩ : DSend), (⟨v8, v11, v9, v12⟩ : DTake)⟩ : DEnd)
  | _, _ => none
noncomputable abbrev G_impl_NewEnd (k : Nat) : FuncId → Option (Summ K TyK) := lookT []
noncomputable abbrev L_impl_NewEnd : List (Nat × Cut K TyK (DEnd)) := []
theorem e_impl_NewEnd (k : Nat) (a0 : Int) : run cod T (G_impl_NewEnd k) (lam L_impl_NewEnd k) (cutsOf L_impl_NewEnd) 0 (finish cod T false 0 [.cell 2 85] D_impl_NewEnd) 4000 false [.code (bodyOf Try.f58)] (envOf [0] [.lit (.int .i64 a0)]) [] = impl_NewEnd k a0 := by kernel_rfl
theorem ok_impl_NewEnd (k : Nat) : SummOk Try.prog cod 58 (S_impl_NewEnd k) := by
  refine summ_of (T := T) Try.f58 (G_impl_NewEnd) L_impl_NewEnd false [.cell 2 85] 0 D_impl_NewEnd mixed (fun k => Known.of tok eok codOk ?_) (fun k => QuietOk.of ?_) Try.func58 (by kernel_rfl) (by kernel_rfl) (by kernel_rfl) (by kernel_rfl) (by kernel_rfl) ?_ ?_ [] ?_
  · exact all_nil
  · exact all_nil
  · intro v os r h
    unfold D_impl_NewEnd at h
    split at h <;> first | (cases h; rfl) | cases h
  · refine all_nil
  · intro args os r h
    change (S_impl_NewEnd k).run args os = some r at h
    unfold S_impl_NewEnd at h; dsimp only at h
    split at h
    · exact ⟨Nat.le_of_ble_eq_true (by kernel_rfl), rfl, rfl, k, 4000, (e_impl_NewEnd k _).trans h⟩
    · cases h
noncomputable def S_laws_eqEnd (k : Nat) : Summ K TyK where
  R := Bool
  modes := [.bo, .bo]
  run := fun args objs => match args, objs with
    | [.agg [.lit (.int .i64 v1), .lit (.bool v2), .lit (.int .i64 v3), .lit (.int .i64 v4), .lit (.int .i64 v5), .lit (.bool v6), .lit (.int .i64 v7), .inl true .item v8, .lit (.int .i64 v9), .inl true .held v10, .lit (.string v11), .inl true .str v12], .agg [.lit (.int .i64 v13), .lit (.bool v14), .lit (.int .i64 v15), .lit (.int .i64 v16), .lit (.int .i64 v17), .lit (.bool v18), .lit (.int .i64 v19), .inl true .item v20, .lit (.int .i64 v21), .inl true .held v22, .lit (.string v23), .inl true .str v24]], [] => laws_eqEnd k (⟨v1, v2, v3, v4, v5, v6, (⟨v7, v8⟩ : DSend), (⟨v9, v10, v11, v12⟩ : DTake)⟩ : DEnd) (⟨v13, v14, v15, v16, v17, v18, (⟨v19, v20⟩ : DSend), (⟨v21, v22, v23, v24⟩ : DTake)⟩ : DEnd)
    | _, _ => none
  ret := fun r => (.lit (.bool r), [])
  quiet := true
noncomputable def D_laws_eqEnd (v : V) (os : Objs K TyK) : Option (Bool) :=
  match v, os with
  | .lit (.bool v1), [] => some v1
  | _, _ => none
noncomputable abbrev G_laws_eqEnd (k : Nat) : FuncId → Option (Summ K TyK) := lookT [(47, S_laws_eqSend k), (36, S_laws_eqTake k)]
noncomputable abbrev L_laws_eqEnd : List (Nat × Cut K TyK (Bool)) := []
theorem e_laws_eqEnd (k : Nat) (a0 : DEnd) (a1 : DEnd) : run cod T (G_laws_eqEnd k) (lam L_laws_eqEnd k) (cutsOf L_laws_eqEnd) 0 (finish cod T false 0 [.tmp 4] D_laws_eqEnd) 4000 false [.code (bodyOf Try.f59)] (envOf [0, 1] [.agg [.lit (.int .i64 a0.Number), .lit (.bool a0.Up), .lit (.int .i64 a0.Life), .lit (.int .i64 a0.Peer), .lit (.int .i64 a0.Since), .lit (.bool a0.Owes), .lit (.int .i64 a0.Send.Base), .inl true .item a0.Send.Items, .lit (.int .i64 a0.Take.Next), .inl true .held a0.Take.Held, .lit (.string a0.Take.Open), .inl true .str a0.Take.Ready], .agg [.lit (.int .i64 a1.Number), .lit (.bool a1.Up), .lit (.int .i64 a1.Life), .lit (.int .i64 a1.Peer), .lit (.int .i64 a1.Since), .lit (.bool a1.Owes), .lit (.int .i64 a1.Send.Base), .inl true .item a1.Send.Items, .lit (.int .i64 a1.Take.Next), .inl true .held a1.Take.Held, .lit (.string a1.Take.Open), .inl true .str a1.Take.Ready]]) [] = laws_eqEnd k a0 a1 := by kernel_rfl
theorem ok_laws_eqEnd (k : Nat) : SummOk Try.prog cod 59 (S_laws_eqEnd k) := by
  refine summ_of (T := T) Try.f59 (G_laws_eqEnd) L_laws_eqEnd false [.tmp 4] 0 D_laws_eqEnd mixed (fun k => Known.of tok eok codOk ?_) (fun k => QuietOk.of ?_) Try.func59 (by kernel_rfl) (by kernel_rfl) (by kernel_rfl) (by kernel_rfl) (by kernel_rfl) ?_ ?_ [] ?_
  · exact all_cons (ok_laws_eqSend k) (all_cons (ok_laws_eqTake k) (all_nil))
  · exact all_cons (fun h r => ⟨rfl, rfl⟩) (all_cons (fun h r => ⟨rfl, rfl⟩) (all_nil))
  · intro v os r h
    unfold D_laws_eqEnd at h
    split at h <;> first | (cases h; rfl) | cases h
  · refine all_nil
  · intro args os r h
    change (S_laws_eqEnd k).run args os = some r at h
    unfold S_laws_eqEnd at h; dsimp only at h
    split at h
    · exact ⟨Nat.le_of_ble_eq_true (by kernel_rfl), rfl, rfl, k, 4000, (e_laws_eqEnd k ⟨_, _, _, _, _, _, ⟨_, _⟩, ⟨_, _, _, _⟩⟩ ⟨_, _, _, _, _, _, ⟨_, _⟩, ⟨_, _, _, _⟩⟩).trans h⟩
    · cases h
noncomputable def S_laws_markHeldS (k : Nat) : Summ K TyK where
  R := Int × List DHeld
  modes := [.mv, .mv]
  run := fun args objs => match args, objs with
    | [.own 0, .lit (.int .i64 v1)], [.sl .held v2] => laws_markHeldS k v2 v1
    | _, _ => none
  ret := fun r => (.lit (.int .i64 r.1), [.sl .held r.2])
  quiet := false
noncomputable def D_laws_markHeldS (v : V) (os : Objs K TyK) : Option (Int × List DHeld) :=
  match v, os with
  | .lit (.int .i64 v1), [.sl .held v2] => some (v1, v2)
  | _, _ => none
noncomputable def C_laws_markHeldS_2 : Cut K TyK (Int × List DHeld) where
  slots := [0, 1, 5]
  fn := fun k vs os => match vs, os with
    | [.own 0, .lit (.int .i64 x0), .lit (.int .i64 x1)], [.sl .held x2] => laws_markHeldS_l2 k x0 x1 x2
    | _, _ => none
noncomputable abbrev G_laws_markHeldS (k : Nat) : FuncId → Option (Summ K TyK) := lookT [(74, S_laws_markText k)]
noncomputable abbrev L_laws_markHeldS : List (Nat × Cut K TyK (Int × List DHeld)) := [(2, C_laws_markHeldS_2)]
theorem c_laws_markHeldS_2 (k : Nat) (x0 : Int) (x1 : Int) (x2 : List DHeld) : run cod T (G_laws_markHeldS k) (lam L_laws_markHeldS k) (cutsOf L_laws_markHeldS) 1 (finish cod T false 1 [.tmp 4] D_laws_markHeldS) 4000 true (todoAt 2 (bodyOf Try.f119)) (envOf [0, 1, 5] [.own 0, .lit (.int .i64 x0), .lit (.int .i64 x1)]) [.sl .held x2] = laws_markHeldS_l2 (k + 1) x0 x1 x2 := by kernel_rfl
theorem e_laws_markHeldS (k : Nat) (a0 : List DHeld) (a1 : Int) : run cod T (G_laws_markHeldS k) (lam L_laws_markHeldS k) (cutsOf L_laws_markHeldS) 1 (finish cod T false 1 [.tmp 4] D_laws_markHeldS) 4000 false [.code (bodyOf Try.f119)] (envOf [0, 1] [.own 0, .lit (.int .i64 a1)]) [.sl .held a0] = laws_markHeldS k a0 a1 := by kernel_rfl
theorem ok_laws_markHeldS (k : Nat) : SummOk Try.prog cod 119 (S_laws_markHeldS k) := by
  refine summ_of (T := T) Try.f119 (G_laws_markHeldS) L_laws_markHeldS false [.tmp 4] 1 D_laws_markHeldS mixed (fun k => Known.of tok eok codOk ?_) (fun k => QuietOk.of ?_) Try.func119 (by kernel_rfl) (by kernel_rfl) (by kernel_rfl) (by kernel_rfl) (by kernel_rfl) ?_ ?_ [false] ?_
  · exact all_cons (ok_laws_markText k) (all_nil)
  · exact all_cons (fun h r => ⟨rfl, rfl⟩) (all_nil)
  · intro v os r h
    unfold D_laws_markHeldS at h
    split at h <;> first | (cases h; rfl) | cases h
  · refine all_cons ?_ (all_nil)
    · refine ⟨fun vs os => ?_, by kernel_rfl, fun k vs os r h => ?_⟩
      · show C_laws_markHeldS_2.fn 0 vs os = none
        unfold C_laws_markHeldS_2; dsimp only; split <;> rfl
      · change C_laws_markHeldS_2.fn (k + 1) vs os = some r at h
        unfold C_laws_markHeldS_2 at h; dsimp only at h
        split at h
        · exact ⟨4000, (c_laws_markHeldS_2 k _ _ _).trans h⟩
        · cases h
  · intro args os r h
    change (S_laws_markHeldS k).run args os = some r at h
    unfold S_laws_markHeldS at h; dsimp only at h
    split at h
    · exact ⟨Nat.le_of_ble_eq_true (by kernel_rfl), rfl, rfl, k, 4000, (e_laws_markHeldS k _ _).trans h⟩
    · cases h
noncomputable def S_laws_markTake (k : Nat) : Summ K TyK where
  R := Int × List DHeld × List ByteArray
  modes := [.mv, .mv]
  run := fun args objs => match args, objs with
    | [.agg [.lit (.int .i64 v1), .own 0, .lit (.string v2), .own 1], .lit (.int .i64 v3)], [.sl .held v4, .sl .str v5] => laws_markTake k (⟨v1, v4, v2, v5⟩ : DTake) v3
    | _, _ => none
  ret := fun r => (.lit (.int .i64 r.1), [.sl .held r.2.1, .sl .str r.2.2])
  quiet := false
noncomputable def D_laws_markTake (v : V) (os : Objs K TyK) : Option (Int × List DHeld × List ByteArray) :=
  match v, os with
  | .lit (.int .i64 v1), [.sl .held v2, .sl .str v3] => some (v1, v2, v3)
  | _, _ => none
noncomputable abbrev G_laws_markTake (k : Nat) : FuncId → Option (Summ K TyK) := lookT [(119, S_laws_markHeldS k), (22, S_laws_markStringS k)]
noncomputable abbrev L_laws_markTake : List (Nat × Cut K TyK (Int × List DHeld × List ByteArray)) := []
theorem e_laws_markTake (k : Nat) (a0 : DTake) (a1 : Int) : run cod T (G_laws_markTake k) (lam L_laws_markTake k) (cutsOf L_laws_markTake) 2 (finish cod T false 2 [.tmp 4] D_laws_markTake) 4000 false [.code (bodyOf Try.f102)] (envOf [0, 1] [.agg [.lit (.int .i64 a0.Next), .own 0, .lit (.string a0.Open), .own 1], .lit (.int .i64 a1)]) [.sl .held a0.Held, .sl .str a0.Ready] = laws_markTake k a0 a1 := by kernel_rfl
theorem ok_laws_markTake (k : Nat) : SummOk Try.prog cod 102 (S_laws_markTake k) := by
  refine summ_of (T := T) Try.f102 (G_laws_markTake) L_laws_markTake false [.tmp 4] 2 D_laws_markTake mixed (fun k => Known.of tok eok codOk ?_) (fun k => QuietOk.of ?_) Try.func102 (by kernel_rfl) (by kernel_rfl) (by kernel_rfl) (by kernel_rfl) (by kernel_rfl) ?_ ?_ [false, false] ?_
  · exact all_cons (ok_laws_markHeldS k) (all_cons (ok_laws_markStringS k) (all_nil))
  · exact all_cons (fun h r => by cases h) (all_cons (fun h r => by cases h) (all_nil))
  · intro v os r h
    unfold D_laws_markTake at h
    split at h <;> first | (cases h; rfl) | cases h
  · refine all_nil
  · intro args os r h
    change (S_laws_markTake k).run args os = some r at h
    unfold S_laws_markTake at h; dsimp only at h
    split at h
    · exact ⟨Nat.le_of_ble_eq_true (by kernel_rfl), rfl, rfl, k, 4000, (e_laws_markTake k ⟨_, _, _, _⟩ _).trans h⟩
    · cases h
noncomputable def S_laws_markEnd (k : Nat) : Summ K TyK where
  R := Int × List DItem × List DHeld × List ByteArray
  modes := [.mv, .mv]
  run := fun args objs => match args, objs with
    | [.agg [.lit (.int .i64 v1), .lit (.bool v2), .lit (.int .i64 v3), .lit (.int .i64 v4), .lit (.int .i64 v5), .lit (.bool v6), .lit (.int .i64 v7), .own 0, .lit (.int .i64 v8), .own 1, .lit (.string v9), .own 2], .lit (.int .i64 v10)], [.sl .item v11, .sl .held v12, .sl .str v13] => laws_markEnd k (⟨v1, v2, v3, v4, v5, v6, (⟨v7, v11⟩ : DSend), (⟨v8, v12, v9, v13⟩ : DTake)⟩ : DEnd) v10
    | _, _ => none
  ret := fun r => (.lit (.int .i64 r.1), [.sl .item r.2.1, .sl .held r.2.2.1, .sl .str r.2.2.2])
  quiet := false
noncomputable def D_laws_markEnd (v : V) (os : Objs K TyK) : Option (Int × List DItem × List DHeld × List ByteArray) :=
  match v, os with
  | .lit (.int .i64 v1), [.sl .item v2, .sl .held v3, .sl .str v4] => some (v1, v2, v3, v4)
  | _, _ => none
noncomputable abbrev G_laws_markEnd (k : Nat) : FuncId → Option (Summ K TyK) := lookT [(48, S_laws_markSend k), (102, S_laws_markTake k)]
noncomputable abbrev L_laws_markEnd : List (Nat × Cut K TyK (Int × List DItem × List DHeld × List ByteArray)) := []
theorem e_laws_markEnd (k : Nat) (a0 : DEnd) (a1 : Int) : run cod T (G_laws_markEnd k) (lam L_laws_markEnd k) (cutsOf L_laws_markEnd) 3 (finish cod T false 3 [.tmp 4] D_laws_markEnd) 4000 false [.code (bodyOf Try.f60)] (envOf [0, 1] [.agg [.lit (.int .i64 a0.Number), .lit (.bool a0.Up), .lit (.int .i64 a0.Life), .lit (.int .i64 a0.Peer), .lit (.int .i64 a0.Since), .lit (.bool a0.Owes), .lit (.int .i64 a0.Send.Base), .own 0, .lit (.int .i64 a0.Take.Next), .own 1, .lit (.string a0.Take.Open), .own 2], .lit (.int .i64 a1)]) [.sl .item a0.Send.Items, .sl .held a0.Take.Held, .sl .str a0.Take.Ready] = laws_markEnd k a0 a1 := by kernel_rfl
theorem ok_laws_markEnd (k : Nat) : SummOk Try.prog cod 60 (S_laws_markEnd k) := by
  refine summ_of (T := T) Try.f60 (G_laws_markEnd) L_laws_markEnd false [.tmp 4] 3 D_laws_markEnd mixed (fun k => Known.of tok eok codOk ?_) (fun k => QuietOk.of ?_) Try.func60 (by kernel_rfl) (by kernel_rfl) (by kernel_rfl) (by kernel_rfl) (by kernel_rfl) ?_ ?_ [false, false, false] ?_
  · exact all_cons (ok_laws_markSend k) (all_cons (ok_laws_markTake k) (all_nil))
  · exact all_cons (fun h r => by cases h) (all_cons (fun h r => by cases h) (all_nil))
  · intro v os r h
    unfold D_laws_markEnd at h
    split at h <;> first | (cases h; rfl) | cases h
  · refine all_nil
  · intro args os r h
    change (S_laws_markEnd k).run args os = some r at h
    unfold S_laws_markEnd at h; dsimp only at h
    split at h
    · exact ⟨Nat.le_of_ble_eq_true (by kernel_rfl), rfl, rfl, k, 4000, (e_laws_markEnd k ⟨_, _, _, _, _, _, ⟨_, _⟩, ⟨_, _, _, _⟩⟩ _).trans h⟩
    · cases h
noncomputable def S_laws_heldHeldS (k : Nat) : Summ K TyK where
  R := Int
  modes := [.bo, .bo]
  run := fun args objs => match args, objs with
    | [.inl true .held v1, .lit (.int .i64 v2)], [] => laws_heldHeldS k v1 v2
    | _, _ => none
  ret := fun r => (.lit (.int .i64 r), [])
  quiet := true
noncomputable def D_laws_heldHeldS (v : V) (os : Objs K TyK) : Option (Int) :=
  match v, os with
  | .lit (.int .i64 v1), [] => some v1
  | _, _ => none
noncomputable def C_laws_heldHeldS_2 : Cut K TyK (Int) where
  slots := [0, 1, 5]
  fn := fun k vs os => match vs, os with
    | [.inl true .held x0, .lit (.int .i64 x1), .lit (.int .i64 x2)], [] => laws_heldHeldS_l2 k x0 x1 x2
    | _, _ => none
noncomputable abbrev G_laws_heldHeldS (k : Nat) : FuncId → Option (Summ K TyK) := lookT [(74, S_laws_markText k)]
noncomputable abbrev L_laws_heldHeldS : List (Nat × Cut K TyK (Int)) := [(2, C_laws_heldHeldS_2)]
theorem c_laws_heldHeldS_2 (k : Nat) (x0 : List DHeld) (x1 : Int) (x2 : Int) : run cod T (G_laws_heldHeldS k) (lam L_laws_heldHeldS k) (cutsOf L_laws_heldHeldS) 0 (finish cod T false 0 [.tmp 4] D_laws_heldHeldS) 4000 true (todoAt 2 (bodyOf Try.f120)) (envOf [0, 1, 5] [.inl true .held x0, .lit (.int .i64 x1), .lit (.int .i64 x2)]) [] = laws_heldHeldS_l2 (k + 1) x0 x1 x2 := by kernel_rfl
theorem e_laws_heldHeldS (k : Nat) (a0 : List DHeld) (a1 : Int) : run cod T (G_laws_heldHeldS k) (lam L_laws_heldHeldS k) (cutsOf L_laws_heldHeldS) 0 (finish cod T false 0 [.tmp 4] D_laws_heldHeldS) 4000 false [.code (bodyOf Try.f120)] (envOf [0, 1] [.inl true .held a0, .lit (.int .i64 a1)]) [] = laws_heldHeldS k a0 a1 := by kernel_rfl
theorem ok_laws_heldHeldS (k : Nat) : SummOk Try.prog cod 120 (S_laws_heldHeldS k) := by
  refine summ_of (T := T) Try.f120 (G_laws_heldHeldS) L_laws_heldHeldS false [.tmp 4] 0 D_laws_heldHeldS mixed (fun k => Known.of tok eok codOk ?_) (fun k => QuietOk.of ?_) Try.func120 (by kernel_rfl) (by kernel_rfl) (by kernel_rfl) (by kernel_rfl) (by kernel_rfl) ?_ ?_ [] ?_
  · exact all_cons (ok_laws_markText k) (all_nil)
  · exact all_cons (fun h r => ⟨rfl, rfl⟩) (all_nil)
  · intro v os r h
    unfold D_laws_heldHeldS at h
    split at h <;> first | (cases h; rfl) | cases h
  · refine all_cons ?_ (all_nil)
    · refine ⟨fun vs os => ?_, by kernel_rfl, fun k vs os r h => ?_⟩
      · show C_laws_heldHeldS_2.fn 0 vs os = none
        unfold C_laws_heldHeldS_2; dsimp only; split <;> rfl
      · change C_laws_heldHeldS_2.fn (k + 1) vs os = some r at h
        unfold C_laws_heldHeldS_2 at h; dsimp only at h
        split at h
        · exact ⟨4000, (c_laws_heldHeldS_2 k _ _ _).trans h⟩
        · cases h
  · intro args os r h
    change (S_laws_heldHeldS k).run args os = some r at h
    unfold S_laws_heldHeldS at h; dsimp only at h
    split at h
    · exact ⟨Nat.le_of_ble_eq_true (by kernel_rfl), rfl, rfl, k, 4000, (e_laws_heldHeldS k _ _).trans h⟩
    · cases h
noncomputable def S_laws_heldTake (k : Nat) : Summ K TyK where
  R := Int
  modes := [.bo, .bo]
  run := fun args objs => match args, objs with
    | [.agg [.lit (.int .i64 v1), .inl true .held v2, .lit (.string v3), .inl true .str v4], .lit (.int .i64 v5)], [] => laws_heldTake k (⟨v1, v2, v3, v4⟩ : DTake) v5
    | _, _ => none
  ret := fun r => (.lit (.int .i64 r), [])
  quiet := true
noncomputable def D_laws_heldTake (v : V) (os : Objs K TyK) : Option (Int) :=
  match v, os with
  | .lit (.int .i64 v1), [] => some v1
  | _, _ => none
noncomputable abbrev G_laws_heldTake (k : Nat) : FuncId → Option (Summ K TyK) := lookT [(120, S_laws_heldHeldS k), (23, S_laws_heldStringS k)]
noncomputable abbrev L_laws_heldTake : List (Nat × Cut K TyK (Int)) := []
theorem e_laws_heldTake (k : Nat) (a0 : DTake) (a1 : Int) : run cod T (G_laws_heldTake k) (lam L_laws_heldTake k) (cutsOf L_laws_heldTake) 0 (finish cod T false 0 [.tmp 4] D_laws_heldTake) 4000 false [.code (bodyOf Try.f103)] (envOf [0, 1] [.agg [.lit (.int .i64 a0.Next), .inl true .held a0.Held, .lit (.string a0.Open), .inl true .str a0.Ready], .lit (.int .i64 a1)]) [] = laws_heldTake k a0 a1 := by kernel_rfl
theorem ok_laws_heldTake (k : Nat) : SummOk Try.prog cod 103 (S_laws_heldTake k) := by
  refine summ_of (T := T) Try.f103 (G_laws_heldTake) L_laws_heldTake false [.tmp 4] 0 D_laws_heldTake mixed (fun k => Known.of tok eok codOk ?_) (fun k => QuietOk.of ?_) Try.func103 (by kernel_rfl) (by kernel_rfl) (by kernel_rfl) (by kernel_rfl) (by kernel_rfl) ?_ ?_ [] ?_
  · exact all_cons (ok_laws_heldHeldS k) (all_cons (ok_laws_heldStringS k) (all_nil))
  · exact all_cons (fun h r => ⟨rfl, rfl⟩) (all_cons (fun h r => ⟨rfl, rfl⟩) (all_nil))
  · intro v os r h
    unfold D_laws_heldTake at h
    split at h <;> first | (cases h; rfl) | cases h
  · refine all_nil
  · intro args os r h
    change (S_laws_heldTake k).run args os = some r at h
    unfold S_laws_heldTake at h; dsimp only at h
    split at h
    · exact ⟨Nat.le_of_ble_eq_true (by kernel_rfl), rfl, rfl, k, 4000, (e_laws_heldTake k ⟨_, _, _, _⟩ _).trans h⟩
    · cases h
noncomputable def S_laws_heldEnd (k : Nat) : Summ K TyK where
  R := Int
  modes := [.bo, .bo]
  run := fun args objs => match args, objs with
    | [.agg [.lit (.int .i64 v1), .lit (.bool v2), .lit (.int .i64 v3), .lit (.int .i64 v4), .lit (.int .i64 v5), .lit (.bool v6), .lit (.int .i64 v7), .inl true .item v8, .lit (.int .i64 v9), .inl true .held v10, .lit (.string v11), .inl true .str v12], .lit (.int .i64 v13)], [] => laws_heldEnd k (⟨v1, v2, v3, v4, v5, v6, (⟨v7, v8⟩ : DSend), (⟨v9, v10, v11, v12⟩ : DTake)⟩ : DEnd) v13
    | _, _ => none
  ret := fun r => (.lit (.int .i64 r), [])
  quiet := true
noncomputable def D_laws_heldEnd (v : V) (os : Objs K TyK) : Option (Int) :=
  match v, os with
  | .lit (.int .i64 v1), [] => some v1
  | _, _ => none
noncomputable abbrev G_laws_heldEnd (k : Nat) : FuncId → Option (Summ K TyK) := lookT [(49, S_laws_heldSend k), (103, S_laws_heldTake k)]
noncomputable abbrev L_laws_heldEnd : List (Nat × Cut K TyK (Int)) := []
theorem e_laws_heldEnd (k : Nat) (a0 : DEnd) (a1 : Int) : run cod T (G_laws_heldEnd k) (lam L_laws_heldEnd k) (cutsOf L_laws_heldEnd) 0 (finish cod T false 0 [.tmp 4] D_laws_heldEnd) 4000 false [.code (bodyOf Try.f61)] (envOf [0, 1] [.agg [.lit (.int .i64 a0.Number), .lit (.bool a0.Up), .lit (.int .i64 a0.Life), .lit (.int .i64 a0.Peer), .lit (.int .i64 a0.Since), .lit (.bool a0.Owes), .lit (.int .i64 a0.Send.Base), .inl true .item a0.Send.Items, .lit (.int .i64 a0.Take.Next), .inl true .held a0.Take.Held, .lit (.string a0.Take.Open), .inl true .str a0.Take.Ready], .lit (.int .i64 a1)]) [] = laws_heldEnd k a0 a1 := by kernel_rfl
theorem ok_laws_heldEnd (k : Nat) : SummOk Try.prog cod 61 (S_laws_heldEnd k) := by
  refine summ_of (T := T) Try.f61 (G_laws_heldEnd) L_laws_heldEnd false [.tmp 4] 0 D_laws_heldEnd mixed (fun k => Known.of tok eok codOk ?_) (fun k => QuietOk.of ?_) Try.func61 (by kernel_rfl) (by kernel_rfl) (by kernel_rfl) (by kernel_rfl) (by kernel_rfl) ?_ ?_ [] ?_
  · exact all_cons (ok_laws_heldSend k) (all_cons (ok_laws_heldTake k) (all_nil))
  · exact all_cons (fun h r => ⟨rfl, rfl⟩) (all_cons (fun h r => ⟨rfl, rfl⟩) (all_nil))
  · intro v os r h
    unfold D_laws_heldEnd at h
    split at h <;> first | (cases h; rfl) | cases h
  · refine all_nil
  · intro args os r h
    change (S_laws_heldEnd k).run args os = some r at h
    unfold S_laws_heldEnd at h; dsimp only at h
    split at h
    · exact ⟨Nat.le_of_ble_eq_true (by kernel_rfl), rfl, rfl, k, 4000, (e_laws_heldEnd k ⟨_, _, _, _, _, _, ⟨_, _⟩, ⟨_, _, _, _⟩⟩ _).trans h⟩
    · cases h
noncomputable def S_laws_FnExactNewEnd (k : Nat) : Summ K TyK where
  R := Bool
  modes := [.pe]
  run := fun args objs => match args, objs with
    | [.lit (.int .i64 v1)], [] => laws_FnExactNewEnd k v1
    | _, _ => none
  ret := fun r => (.lit (.bool r), [])
  quiet := true
noncomputable def D_laws_FnExactNewEnd (v : V) (os : Objs K TyK) : Option (Bool) :=
  match v, os with
  | .lit (.bool v1), [] => some v1
  | _, _ => none
noncomputable abbrev G_laws_FnExactNewEnd (k : Nat) : FuncId → Option (Summ K TyK) := lookT [(57, S_spec_NewEnd k), (58, S_impl_NewEnd k), (59, S_laws_eqEnd k), (60, S_laws_markEnd k), (61, S_laws_heldEnd k)]
noncomputable abbrev L_laws_FnExactNewEnd : List (Nat × Cut K TyK (Bool)) := []
theorem e_laws_FnExactNewEnd (k : Nat) (a0 : Int) : run cod T (G_laws_FnExactNewEnd k) (lam L_laws_FnExactNewEnd k) (cutsOf L_laws_FnExactNewEnd) 0 (finish cod T false 0 [.tmp 2] D_laws_FnExactNewEnd) 4000 false [.code (bodyOf Try.f12)] (envOf [0] [.lit (.int .i64 a0)]) [] = laws_FnExactNewEnd k a0 := by kernel_rfl
theorem ok_laws_FnExactNewEnd (k : Nat) : SummOk Try.prog cod 12 (S_laws_FnExactNewEnd k) := by
  refine summ_of (T := T) Try.f12 (G_laws_FnExactNewEnd) L_laws_FnExactNewEnd false [.tmp 2] 0 D_laws_FnExactNewEnd mixed (fun k => Known.of tok eok codOk ?_) (fun k => QuietOk.of ?_) Try.func12 (by kernel_rfl) (by kernel_rfl) (by kernel_rfl) (by kernel_rfl) (by kernel_rfl) ?_ ?_ [] ?_
  · exact all_cons (ok_spec_NewEnd k) (all_cons (ok_impl_NewEnd k) (all_cons (ok_laws_eqEnd k) (all_cons (ok_laws_markEnd k) (all_cons (ok_laws_heldEnd k) (all_nil)))))
  · exact all_cons (fun h r => by cases h) (all_cons (fun h r => by cases h) (all_cons (fun h r => ⟨rfl, rfl⟩) (all_cons (fun h r => by cases h) (all_cons (fun h r => ⟨rfl, rfl⟩) (all_nil)))))
  · intro v os r h
    unfold D_laws_FnExactNewEnd at h
    split at h <;> first | (cases h; rfl) | cases h
  · refine all_nil
  · intro args os r h
    change (S_laws_FnExactNewEnd k).run args os = some r at h
    unfold S_laws_FnExactNewEnd at h; dsimp only at h
    split at h
    · exact ⟨Nat.le_of_ble_eq_true (by kernel_rfl), rfl, rfl, k, 4000, (e_laws_FnExactNewEnd k _).trans h⟩
    · cases h
end Km.X
