/- A part of the proof of FnExactIdle: each function does what its reading says. There is no condition. -/
import Derived.Test.YthafpbpfnkncmaaKmSeat
import Derived.Test.YthafpbpfnkncmaaKxDef
namespace Km.X
open Go Km Go.Proofs
set_option linter.unusedVariables false
set_option maxRecDepth 100000
set_option maxHeartbeats 4000000
noncomputable def S_laws_szPart (k : Nat) : Summ K TyK where
  R := Int
  modes := [.bo, .bo]
  run := fun args objs => match args, objs with
    | [.agg [.lit (.string v1), .lit (.bool v2)], .lit (.int .i64 v3)], [] => laws_szPart k (⟨v1, v2⟩ : DPart) v3
    | _, _ => none
  ret := fun r => (.lit (.int .i64 r), [])
  quiet := true
noncomputable def D_laws_szPart (v : V) (os : Objs K TyK) : Option (Int) :=
  match v, os with
  | .lit (.int .i64 v1), [] => some v1
  | _, _ => none
noncomputable abbrev G_laws_szPart (k : Nat) : FuncId → Option (Summ K TyK) := lookT []
noncomputable abbrev L_laws_szPart : List (Nat × Cut K TyK (Int)) := []
theorem e_laws_szPart (k : Nat) (a0 : DPart) (a1 : Int) : run cod T (G_laws_szPart k) (lam L_laws_szPart k) (cutsOf L_laws_szPart) 0 (finish cod T false 0 [.tmp 4] D_laws_szPart) 4000 false [.code (bodyOf Try.f22)] (envOf [0, 1] [.agg [.lit (.string a0.Text), .lit (.bool a0.Last)], .lit (.int .i64 a1)]) [] = laws_szPart k a0 a1 := by kernel_rfl
theorem ok_laws_szPart (k : Nat) : SummOk Try.prog cod 22 (S_laws_szPart k) := by
  refine summ_of (T := T) Try.f22 (G_laws_szPart) L_laws_szPart false [.tmp 4] 0 D_laws_szPart mixed (fun k => Known.of tok eok codOk ?_) (fun k => QuietOk.of ?_) Try.func22 (by kernel_rfl) (by kernel_rfl) (by kernel_rfl) (by kernel_rfl) (by kernel_rfl) ?_ ?_ [] ?_
  · exact all_nil
  · exact all_nil
  · intro v os r h
    unfold D_laws_szPart at h
    split at h <;> first | (cases h; rfl) | cases h
  · refine all_nil
  · intro args os r h
    change (S_laws_szPart k).run args os = some r at h
    unfold S_laws_szPart at h; dsimp only at h
    split at h
    · exact ⟨Nat.le_of_ble_eq_true (by kernel_rfl), rfl, rfl, k, 4000, (e_laws_szPart k ⟨_, _⟩ _).trans h⟩
    · cases h
noncomputable def S_laws_szHeld (k : Nat) : Summ K TyK where
  R := Int
  modes := [.bo, .bo]
  run := fun args objs => match args, objs with
    | [.agg [.lit (.int .i64 v1), .lit (.string v2), .lit (.bool v3)], .lit (.int .i64 v4)], [] => laws_szHeld k (⟨v1, (⟨v2, v3⟩ : DPart)⟩ : DHeld) v4
    | _, _ => none
  ret := fun r => (.lit (.int .i64 r), [])
  quiet := true
noncomputable def D_laws_szHeld (v : V) (os : Objs K TyK) : Option (Int) :=
  match v, os with
  | .lit (.int .i64 v1), [] => some v1
  | _, _ => none
noncomputable abbrev G_laws_szHeld (k : Nat) : FuncId → Option (Summ K TyK) := lookT [(22, S_laws_szPart k)]
noncomputable abbrev L_laws_szHeld : List (Nat × Cut K TyK (Int)) := []
theorem e_laws_szHeld (k : Nat) (a0 : DHeld) (a1 : Int) : run cod T (G_laws_szHeld k) (lam L_laws_szHeld k) (cutsOf L_laws_szHeld) 0 (finish cod T false 0 [.tmp 4] D_laws_szHeld) 4000 false [.code (bodyOf Try.f118)] (envOf [0, 1] [.agg [.lit (.int .i64 a0.Seq), .lit (.string a0.Part.Text), .lit (.bool a0.Part.Last)], .lit (.int .i64 a1)]) [] = laws_szHeld k a0 a1 := by kernel_rfl
theorem ok_laws_szHeld (k : Nat) : SummOk Try.prog cod 118 (S_laws_szHeld k) := by
  refine summ_of (T := T) Try.f118 (G_laws_szHeld) L_laws_szHeld false [.tmp 4] 0 D_laws_szHeld mixed (fun k => Known.of tok eok codOk ?_) (fun k => QuietOk.of ?_) Try.func118 (by kernel_rfl) (by kernel_rfl) (by kernel_rfl) (by kernel_rfl) (by kernel_rfl) ?_ ?_ [] ?_
  · exact all_cons (ok_laws_szPart k) (all_nil)
  · exact all_cons (fun h r => ⟨rfl, rfl⟩) (all_nil)
  · intro v os r h
    unfold D_laws_szHeld at h
    split at h <;> first | (cases h; rfl) | cases h
  · refine all_nil
  · intro args os r h
    change (S_laws_szHeld k).run args os = some r at h
    unfold S_laws_szHeld at h; dsimp only at h
    split at h
    · exact ⟨Nat.le_of_ble_eq_true (by kernel_rfl), rfl, rfl, k, 4000, (e_laws_szHeld k ⟨_, ⟨_, _⟩⟩ _).trans h⟩
    · cases h
noncomputable def S_laws_szHeldS (k : Nat) : Summ K TyK where
  R := Int
  modes := [.bo, .bo]
  run := fun args objs => match args, objs with
    | [.inl true .held v1, .lit (.int .i64 v2)], [] => laws_szHeldS k v1 v2
    | _, _ => none
  ret := fun r => (.lit (.int .i64 r), [])
  quiet := true
noncomputable def D_laws_szHeldS (v : V) (os : Objs K TyK) : Option (Int) :=
  match v, os with
  | .lit (.int .i64 v1), [] => some v1
  | _, _ => none
noncomputable def C_laws_szHeldS_5 : Cut K TyK (Int) where
  slots := [0, 1, 5]
  fn := fun k vs os => match vs, os with
    | [.inl true .held x0, .lit (.int .i64 x1), .lit (.int .i64 x2)], [] => laws_szHeldS_l5 k x0 x1 x2
    | _, _ => none
noncomputable abbrev G_laws_szHeldS (k : Nat) : FuncId → Option (Summ K TyK) := lookT [(118, S_laws_szHeld k)]
noncomputable abbrev L_laws_szHeldS : List (Nat × Cut K TyK (Int)) := [(5, C_laws_szHeldS_5)]
theorem c_laws_szHeldS_5 (k : Nat) (x0 : List DHeld) (x1 : Int) (x2 : Int) : run cod T (G_laws_szHeldS k) (lam L_laws_szHeldS k) (cutsOf L_laws_szHeldS) 0 (finish cod T false 0 [.tmp 4] D_laws_szHeldS) 4000 true (todoAt 5 (bodyOf Try.f59)) (envOf [0, 1, 5] [.inl true .held x0, .lit (.int .i64 x1), .lit (.int .i64 x2)]) [] = laws_szHeldS_l5 (k + 1) x0 x1 x2 := by kernel_rfl
theorem e_laws_szHeldS (k : Nat) (a0 : List DHeld) (a1 : Int) : run cod T (G_laws_szHeldS k) (lam L_laws_szHeldS k) (cutsOf L_laws_szHeldS) 0 (finish cod T false 0 [.tmp 4] D_laws_szHeldS) 4000 false [.code (bodyOf Try.f59)] (envOf [0, 1] [.inl true .held a0, .lit (.int .i64 a1)]) [] = laws_szHeldS k a0 a1 := by kernel_rfl
theorem ok_laws_szHeldS (k : Nat) : SummOk Try.prog cod 59 (S_laws_szHeldS k) := by
  refine summ_of (T := T) Try.f59 (G_laws_szHeldS) L_laws_szHeldS false [.tmp 4] 0 D_laws_szHeldS mixed (fun k => Known.of tok eok codOk ?_) (fun k => QuietOk.of ?_) Try.func59 (by kernel_rfl) (by kernel_rfl) (by kernel_rfl) (by kernel_rfl) (by kernel_rfl) ?_ ?_ [] ?_
  · exact all_cons (ok_laws_szHeld k) (all_nil)
  · exact all_cons (fun h r => ⟨rfl, rfl⟩) (all_nil)
  · intro v os r h
    unfold D_laws_szHeldS at h
    split at h <;> first | (cases h; rfl) | cases h
  · refine all_cons ?_ (all_nil)
    · refine ⟨fun vs os => ?_, by kernel_rfl, fun k vs os r h => ?_⟩
      · show C_laws_szHeldS_5.fn 0 vs os = none
        unfold C_laws_szHeldS_5; dsimp only; split <;> rfl
      · change C_laws_szHeldS_5.fn (k + 1) vs os = some r at h
        unfold C_laws_szHeldS_5 at h; dsimp only at h
        split at h
        · exact ⟨4000, (c_laws_szHeldS_5 k _ _ _).trans h⟩
        · cases h
  · intro args os r h
    change (S_laws_szHeldS k).run args os = some r at h
    unfold S_laws_szHeldS at h; dsimp only at h
    split at h
    · exact ⟨Nat.le_of_ble_eq_true (by kernel_rfl), rfl, rfl, k, 4000, (e_laws_szHeldS k _ _).trans h⟩
    · cases h
noncomputable def S_laws_szStringS (k : Nat) : Summ K TyK where
  R := Int
  modes := [.bo, .bo]
  run := fun args objs => match args, objs with
    | [.inl true .str v1, .lit (.int .i64 v2)], [] => laws_szStringS k v1 v2
    | _, _ => none
  ret := fun r => (.lit (.int .i64 r), [])
  quiet := true
noncomputable def D_laws_szStringS (v : V) (os : Objs K TyK) : Option (Int) :=
  match v, os with
  | .lit (.int .i64 v1), [] => some v1
  | _, _ => none
noncomputable def C_laws_szStringS_5 : Cut K TyK (Int) where
  slots := [0, 1, 5]
  fn := fun k vs os => match vs, os with
    | [.inl true .str x0, .lit (.int .i64 x1), .lit (.int .i64 x2)], [] => laws_szStringS_l5 k x0 x1 x2
    | _, _ => none
noncomputable abbrev G_laws_szStringS (k : Nat) : FuncId → Option (Summ K TyK) := lookT []
noncomputable abbrev L_laws_szStringS : List (Nat × Cut K TyK (Int)) := [(5, C_laws_szStringS_5)]
theorem c_laws_szStringS_5 (k : Nat) (x0 : List ByteArray) (x1 : Int) (x2 : Int) : run cod T (G_laws_szStringS k) (lam L_laws_szStringS k) (cutsOf L_laws_szStringS) 0 (finish cod T false 0 [.tmp 4] D_laws_szStringS) 4000 true (todoAt 5 (bodyOf Try.f60)) (envOf [0, 1, 5] [.inl true .str x0, .lit (.int .i64 x1), .lit (.int .i64 x2)]) [] = laws_szStringS_l5 (k + 1) x0 x1 x2 := by kernel_rfl
theorem e_laws_szStringS (k : Nat) (a0 : List ByteArray) (a1 : Int) : run cod T (G_laws_szStringS k) (lam L_laws_szStringS k) (cutsOf L_laws_szStringS) 0 (finish cod T false 0 [.tmp 4] D_laws_szStringS) 4000 false [.code (bodyOf Try.f60)] (envOf [0, 1] [.inl true .str a0, .lit (.int .i64 a1)]) [] = laws_szStringS k a0 a1 := by kernel_rfl
theorem ok_laws_szStringS (k : Nat) : SummOk Try.prog cod 60 (S_laws_szStringS k) := by
  refine summ_of (T := T) Try.f60 (G_laws_szStringS) L_laws_szStringS false [.tmp 4] 0 D_laws_szStringS mixed (fun k => Known.of tok eok codOk ?_) (fun k => QuietOk.of ?_) Try.func60 (by kernel_rfl) (by kernel_rfl) (by kernel_rfl) (by kernel_rfl) (by kernel_rfl) ?_ ?_ [] ?_
  · exact all_nil
  · exact all_nil
  · intro v os r h
    unfold D_laws_szStringS at h
    split at h <;> first | (cases h; rfl) | cases h
  · refine all_cons ?_ (all_nil)
    · refine ⟨fun vs os => ?_, by kernel_rfl, fun k vs os r h => ?_⟩
      · show C_laws_szStringS_5.fn 0 vs os = none
        unfold C_laws_szStringS_5; dsimp only; split <;> rfl
      · change C_laws_szStringS_5.fn (k + 1) vs os = some r at h
        unfold C_laws_szStringS_5 at h; dsimp only at h
        split at h
        · exact ⟨4000, (c_laws_szStringS_5 k _ _ _).trans h⟩
        · cases h
  · intro args os r h
    change (S_laws_szStringS k).run args os = some r at h
    unfold S_laws_szStringS at h; dsimp only at h
    split at h
    · exact ⟨Nat.le_of_ble_eq_true (by kernel_rfl), rfl, rfl, k, 4000, (e_laws_szStringS k _ _).trans h⟩
    · cases h
noncomputable def S_laws_szTake (k : Nat) : Summ K TyK where
  R := Int
  modes := [.bo, .bo]
  run := fun args objs => match args, objs with
    | [.agg [.lit (.int .i64 v1), .inl true .held v2, .lit (.string v3), .inl true .str v4], .lit (.int .i64 v5)], [] => laws_szTake k (⟨v1, v2, v3, v4⟩ : DTake) v5
    | _, _ => none
  ret := fun r => (.lit (.int .i64 r), [])
  quiet := true
noncomputable def D_laws_szTake (v : V) (os : Objs K TyK) : Option (Int) :=
  match v, os with
  | .lit (.int .i64 v1), [] => some v1
  | _, _ => none
noncomputable abbrev G_laws_szTake (k : Nat) : FuncId → Option (Summ K TyK) := lookT [(59, S_laws_szHeldS k), (60, S_laws_szStringS k)]
noncomputable abbrev L_laws_szTake : List (Nat × Cut K TyK (Int)) := []
theorem e_laws_szTake (k : Nat) (a0 : DTake) (a1 : Int) : run cod T (G_laws_szTake k) (lam L_laws_szTake k) (cutsOf L_laws_szTake) 0 (finish cod T false 0 [.tmp 4] D_laws_szTake) 4000 false [.code (bodyOf Try.f15)] (envOf [0, 1] [.agg [.lit (.int .i64 a0.Next), .inl true .held a0.Held, .lit (.string a0.Open), .inl true .str a0.Ready], .lit (.int .i64 a1)]) [] = laws_szTake k a0 a1 := by kernel_rfl
theorem ok_laws_szTake (k : Nat) : SummOk Try.prog cod 15 (S_laws_szTake k) := by
  refine summ_of (T := T) Try.f15 (G_laws_szTake) L_laws_szTake false [.tmp 4] 0 D_laws_szTake mixed (fun k => Known.of tok eok codOk ?_) (fun k => QuietOk.of ?_) Try.func15 (by kernel_rfl) (by kernel_rfl) (by kernel_rfl) (by kernel_rfl) (by kernel_rfl) ?_ ?_ [] ?_
  · exact all_cons (ok_laws_szHeldS k) (all_cons (ok_laws_szStringS k) (all_nil))
  · exact all_cons (fun h r => ⟨rfl, rfl⟩) (all_cons (fun h r => ⟨rfl, rfl⟩) (all_nil))
  · intro v os r h
    unfold D_laws_szTake at h
    split at h <;> first | (cases h; rfl) | cases h
  · refine all_nil
  · intro args os r h
    change (S_laws_szTake k).run args os = some r at h
    unfold S_laws_szTake at h; dsimp only at h
    split at h
    · exact ⟨Nat.le_of_ble_eq_true (by kernel_rfl), rfl, rfl, k, 4000, (e_laws_szTake k ⟨_, _, _, _⟩ _).trans h⟩
    · cases h
noncomputable def S_laws_toPart (k : Nat) : Summ K TyK where
  R := DPart
  modes := [.bo]
  run := fun args objs => match args, objs with
    | [.agg [.lit (.string v1), .lit (.bool v2)]], [] => laws_toPart k (⟨v1, v2⟩ : DPart)
    | _, _ => none
  ret := fun r => (.agg [.lit (.string r.Text), .lit (.bool r.Last)], [])
  quiet := true
noncomputable def D_laws_toPart (v : V) (os : Objs K TyK) : Option (DPart) :=
  match v, os with
  | .agg [.lit (.string v1), .lit (.bool v2)], [] => some (⟨v1, v2⟩ : DPart)
  | _, _ => none
noncomputable abbrev G_laws_toPart (k : Nat) : FuncId → Option (Summ K TyK) := lookT []
noncomputable abbrev L_laws_toPart : List (Nat × Cut K TyK (DPart)) := []
theorem e_laws_toPart (k : Nat) (a0 : DPart) : run cod T (G_laws_toPart k) (lam L_laws_toPart k) (cutsOf L_laws_toPart) 0 (finish cod T false 0 [.cell 2 40] D_laws_toPart) 4000 false [.code (bodyOf Try.f24)] (envOf [0] [.agg [.lit (.string a0.Text), .lit (.bool a0.Last)]]) [] = laws_toPart k a0 := by kernel_rfl
theorem ok_laws_toPart (k : Nat) : SummOk Try.prog cod 24 (S_laws_toPart k) := by
  refine summ_of (T := T) Try.f24 (G_laws_toPart) L_laws_toPart false [.cell 2 40] 0 D_laws_toPart mixed (fun k => Known.of tok eok codOk ?_) (fun k => QuietOk.of ?_) Try.func24 (by kernel_rfl) (by kernel_rfl) (by kernel_rfl) (by kernel_rfl) (by kernel_rfl) ?_ ?_ [] ?_
  · exact all_nil
  · exact all_nil
  · intro v os r h
    unfold D_laws_toPart at h
    split at h <;> first | (cases h; rfl) | cases h
  · refine all_nil
  · intro args os r h
    change (S_laws_toPart k).run args os = some r at h
    unfold S_laws_toPart at h; dsimp only at h
    split at h
    · exact ⟨Nat.le_of_ble_eq_true (by kernel_rfl), rfl, rfl, k, 4000, (e_laws_toPart k ⟨_, _⟩).trans h⟩
    · cases h
noncomputable def S_laws_toHeld (k : Nat) : Summ K TyK where
  R := DHeld
  modes := [.bo]
  run := fun args objs => match args, objs with
    | [.agg [.lit (.int .i64 v1), .lit (.string v2), .lit (.bool v3)]], [] => laws_toHeld k (⟨v1, (⟨v2, v3⟩ : DPart)⟩ : DHeld)
    | _, _ => none
  ret := fun r => (.agg [.lit (.int .i64 r.Seq), .lit (.string r.Part.Text), .lit (.bool r.Part.Last)], [])
  quiet := true
noncomputable def D_laws_toHeld (v : V) (os : Objs K TyK) : Option (DHeld) :=
  match v, os with
  | .agg [.lit (.int .i64 v1), .lit (.string v2), .lit (.bool v3)], [] => some (⟨v1, (⟨v2, v3⟩ : DPart)⟩ : DHeld)
  | _, _ => none
noncomputable abbrev G_laws_toHeld (k : Nat) : FuncId → Option (Summ K TyK) := lookT [(24, S_laws_toPart k)]
noncomputable abbrev L_laws_toHeld : List (Nat × Cut K TyK (DHeld)) := []
theorem e_laws_toHeld (k : Nat) (a0 : DHeld) : run cod T (G_laws_toHeld k) (lam L_laws_toHeld k) (cutsOf L_laws_toHeld) 0 (finish cod T false 0 [.cell 2 97] D_laws_toHeld) 4000 false [.code (bodyOf Try.f120)] (envOf [0] [.agg [.lit (.int .i64 a0.Seq), .lit (.string a0.Part.Text), .lit (.bool a0.Part.Last)]]) [] = laws_toHeld k a0 := by kernel_rfl
theorem ok_laws_toHeld (k : Nat) : SummOk Try.prog cod 120 (S_laws_toHeld k) := by
  refine summ_of (T := T) Try.f120 (G_laws_toHeld) L_laws_toHeld false [.cell 2 97] 0 D_laws_toHeld mixed (fun k => Known.of tok eok codOk ?_) (fun k => QuietOk.of ?_) Try.func120 (by kernel_rfl) (by kernel_rfl) (by kernel_rfl) (by kernel_rfl) (by kernel_rfl) ?_ ?_ [] ?_
  · exact all_cons (ok_laws_toPart k) (all_nil)
  · exact all_cons (fun h r => ⟨rfl, rfl⟩) (all_nil)
  · intro v os r h
    unfold D_laws_toHeld at h
    split at h <;> first | (cases h; rfl) | cases h
  · refine all_nil
  · intro args os r h
    change (S_laws_toHeld k).run args os = some r at h
    unfold S_laws_toHeld at h; dsimp only at h
    split at h
    · exact ⟨Nat.le_of_ble_eq_true (by kernel_rfl), rfl, rfl, k, 4000, (e_laws_toHeld k ⟨_, ⟨_, _⟩⟩).trans h⟩
    · cases h
noncomputable def S_laws_toHeldS (k : Nat) : Summ K TyK where
  R := List DHeld
  modes := [.bo]
  run := fun args objs => match args, objs with
    | [.inl true .held v1], [] => laws_toHeldS k v1
    | _, _ => none
  ret := fun r => (.own 0, [.sl .held r])
  quiet := false
noncomputable def D_laws_toHeldS (v : V) (os : Objs K TyK) : Option (List DHeld) :=
  match v, os with
  | .own 0, [.sl .held v1] => some v1
  | _, _ => none
noncomputable def C_laws_toHeldS_3 : Cut K TyK (List DHeld) where
  slots := [0, 3, 4]
  fn := fun k vs os => match vs, os with
    | [.inl true .held x0, .own 0, .lit (.int .i64 x1)], [.sl .held x2] => laws_toHeldS_l3 k x0 x1 x2
    | _, _ => none
noncomputable abbrev G_laws_toHeldS (k : Nat) : FuncId → Option (Summ K TyK) := lookT [(120, S_laws_toHeld k)]
noncomputable abbrev L_laws_toHeldS : List (Nat × Cut K TyK (List DHeld)) := [(3, C_laws_toHeldS_3)]
theorem c_laws_toHeldS_3 (k : Nat) (x0 : List DHeld) (x1 : Int) (x2 : List DHeld) : run cod T (G_laws_toHeldS k) (lam L_laws_toHeldS k) (cutsOf L_laws_toHeldS) 0 (finish cod T false 0 [.tmp 2] D_laws_toHeldS) 4000 true (todoAt 3 (bodyOf Try.f64)) (envOf [0, 3, 4] [.inl true .held x0, .own 0, .lit (.int .i64 x1)]) [.sl .held x2] = laws_toHeldS_l3 (k + 1) x0 x1 x2 := by kernel_rfl
theorem e_laws_toHeldS (k : Nat) (a0 : List DHeld) : run cod T (G_laws_toHeldS k) (lam L_laws_toHeldS k) (cutsOf L_laws_toHeldS) 0 (finish cod T false 0 [.tmp 2] D_laws_toHeldS) 4000 false [.code (bodyOf Try.f64)] (envOf [0] [.inl true .held a0]) [] = laws_toHeldS k a0 := by kernel_rfl
theorem ok_laws_toHeldS (k : Nat) : SummOk Try.prog cod 64 (S_laws_toHeldS k) := by
  refine summ_of (T := T) Try.f64 (G_laws_toHeldS) L_laws_toHeldS false [.tmp 2] 0 D_laws_toHeldS mixed (fun k => Known.of tok eok codOk ?_) (fun k => QuietOk.of ?_) Try.func64 (by kernel_rfl) (by kernel_rfl) (by kernel_rfl) (by kernel_rfl) (by kernel_rfl) ?_ ?_ [] ?_
  · exact all_cons (ok_laws_toHeld k) (all_nil)
  · exact all_cons (fun h r => ⟨rfl, rfl⟩) (all_nil)
  · intro v os r h
    unfold D_laws_toHeldS at h
    split at h <;> first | (cases h; rfl) | cases h
  · refine all_cons ?_ (all_nil)
    · refine ⟨fun vs os => ?_, by kernel_rfl, fun k vs os r h => ?_⟩
      · show C_laws_toHeldS_3.fn 0 vs os = none
        unfold C_laws_toHeldS_3; dsimp only; split <;> rfl
      · change C_laws_toHeldS_3.fn (k + 1) vs os = some r at h
        unfold C_laws_toHeldS_3 at h; dsimp only at h
        split at h
        · exact ⟨4000, (c_laws_toHeldS_3 k _ _ _).trans h⟩
        · cases h
  · intro args os r h
    change (S_laws_toHeldS k).run args os = some r at h
    unfold S_laws_toHeldS at h; dsimp only at h
    split at h
    · exact ⟨Nat.le_of_ble_eq_true (by kernel_rfl), rfl, rfl, k, 4000, (e_laws_toHeldS k _).trans h⟩
    · cases h
noncomputable def S_laws_toStringS (k : Nat) : Summ K TyK where
  R := List ByteArray
  modes := [.bo]
  run := fun args objs => match args, objs with
    | [.inl true .str v1], [] => laws_toStringS k v1
    | _, _ => none
  ret := fun r => (.own 0, [.sl .str r])
  quiet := false
noncomputable def D_laws_toStringS (v : V) (os : Objs K TyK) : Option (List ByteArray) :=
  match v, os with
  | .own 0, [.sl .str v1] => some v1
  | _, _ => none
noncomputable def C_laws_toStringS_3 : Cut K TyK (List ByteArray) where
  slots := [0, 3, 4]
  fn := fun k vs os => match vs, os with
    | [.inl true .str x0, .own 0, .lit (.int .i64 x1)], [.sl .str x2] => laws_toStringS_l3 k x0 x1 x2
    | _, _ => none
noncomputable abbrev G_laws_toStringS (k : Nat) : FuncId → Option (Summ K TyK) := lookT []
noncomputable abbrev L_laws_toStringS : List (Nat × Cut K TyK (List ByteArray)) := [(3, C_laws_toStringS_3)]
theorem c_laws_toStringS_3 (k : Nat) (x0 : List ByteArray) (x1 : Int) (x2 : List ByteArray) : run cod T (G_laws_toStringS k) (lam L_laws_toStringS k) (cutsOf L_laws_toStringS) 0 (finish cod T false 0 [.tmp 2] D_laws_toStringS) 4000 true (todoAt 3 (bodyOf Try.f65)) (envOf [0, 3, 4] [.inl true .str x0, .own 0, .lit (.int .i64 x1)]) [.sl .str x2] = laws_toStringS_l3 (k + 1) x0 x1 x2 := by kernel_rfl
theorem e_laws_toStringS (k : Nat) (a0 : List ByteArray) : run cod T (G_laws_toStringS k) (lam L_laws_toStringS k) (cutsOf L_laws_toStringS) 0 (finish cod T false 0 [.tmp 2] D_laws_toStringS) 4000 false [.code (bodyOf Try.f65)] (envOf [0] [.inl true .str a0]) [] = laws_toStringS k a0 := by kernel_rfl
theorem ok_laws_toStringS (k : Nat) : SummOk Try.prog cod 65 (S_laws_toStringS k) := by
  refine summ_of (T := T) Try.f65 (G_laws_toStringS) L_laws_toStringS false [.tmp 2] 0 D_laws_toStringS mixed (fun k => Known.of tok eok codOk ?_) (fun k => QuietOk.of ?_) Try.func65 (by kernel_rfl) (by kernel_rfl) (by kernel_rfl) (by kernel_rfl) (by kernel_rfl) ?_ ?_ [] ?_
  · exact all_nil
  · exact all_nil
  · intro v os r h
    unfold D_laws_toStringS at h
    split at h <;> first | (cases h; rfl) | cases h
  · refine all_cons ?_ (all_nil)
    · refine ⟨fun vs os => ?_, by kernel_rfl, fun k vs os r h => ?_⟩
      · show C_laws_toStringS_3.fn 0 vs os = none
        unfold C_laws_toStringS_3; dsimp only; split <;> rfl
      · change C_laws_toStringS_3.fn (k + 1) vs os = some r at h
        unfold C_laws_toStringS_3 at h; dsimp only at h
        split at h
        · exact ⟨4000, (c_laws_toStringS_3 k _ _ _).trans h⟩
        · cases h
  · intro args os r h
    change (S_laws_toStringS k).run args os = some r at h
    unfold S_laws_toStringS at h; dsimp only at h
    split at h
    · exact ⟨Nat.le_of_ble_eq_true (by kernel_rfl), rfl, rfl, k, 4000, (e_laws_toStringS k _).trans h⟩
    · cases h
noncomputable def S_laws_toTake (k : Nat) : Summ K TyK where
  R := DTake
  modes := [.bo]
  run := fun args objs => match args, objs with
    | [.agg [.lit (.int .i64 v1), .inl true .held v2, .lit (.string v3), .inl true .str v4]], [] => laws_toTake k (⟨v1, v2, v3, v4⟩ : DTake)
    | _, _ => none
  ret := fun r => (.agg [.lit (.int .i64 r.Next), .own 0, .lit (.string r.Open), .own 1], [.sl .held r.Held, .sl .str r.Ready])
  quiet := false
noncomputable def D_laws_toTake (v : V) (os : Objs K TyK) : Option (DTake) :=
  match v, os with
  | .agg [.lit (.int .i64 v1), .own 0, .lit (.string v2), .own 1], [.sl .held v3, .sl .str v4] => some (⟨v1, v3, v2, v4⟩ : DTake)
  | _, _ => none
noncomputable abbrev G_laws_toTake (k : Nat) : FuncId → Option (Summ K TyK) := lookT [(64, S_laws_toHeldS k), (65, S_laws_toStringS k)]
noncomputable abbrev L_laws_toTake : List (Nat × Cut K TyK (DTake)) := []
theorem e_laws_toTake (k : Nat) (a0 : DTake) : run cod T (G_laws_toTake k) (lam L_laws_toTake k) (cutsOf L_laws_toTake) 0 (finish cod T false 0 [.cell 2 29] D_laws_toTake) 4000 false [.code (bodyOf Try.f17)] (envOf [0] [.agg [.lit (.int .i64 a0.Next), .inl true .held a0.Held, .lit (.string a0.Open), .inl true .str a0.Ready]]) [] = laws_toTake k a0 := by kernel_rfl
theorem ok_laws_toTake (k : Nat) : SummOk Try.prog cod 17 (S_laws_toTake k) := by
  refine summ_of (T := T) Try.f17 (G_laws_toTake) L_laws_toTake false [.cell 2 29] 0 D_laws_toTake mixed (fun k => Known.of tok eok codOk ?_) (fun k => QuietOk.of ?_) Try.func17 (by kernel_rfl) (by kernel_rfl) (by kernel_rfl) (by kernel_rfl) (by kernel_rfl) ?_ ?_ [] ?_
  · exact all_cons (ok_laws_toHeldS k) (all_cons (ok_laws_toStringS k) (all_nil))
  · exact all_cons (fun h r => by cases h) (all_cons (fun h r => by cases h) (all_nil))
  · intro v os r h
    unfold D_laws_toTake at h
    split at h <;> first | (cases h; rfl) | cases h
  · refine all_nil
  · intro args os r h
    change (S_laws_toTake k).run args os = some r at h
    unfold S_laws_toTake at h; dsimp only at h
    split at h
    · exact ⟨Nat.le_of_ble_eq_true (by kernel_rfl), rfl, rfl, k, 4000, (e_laws_toTake k ⟨_, _, _, _⟩).trans h⟩
    · cases h
noncomputable def S_spec_l1In (k : Nat) : Summ K TyK where
  R := Bool
  modes := [.bo, .bo, .bo]
  run := fun args objs => match args, objs with
    | [.lit (.int .i64 v1), .lit (.int .i64 v2), .lit (.int .i64 v3)], [] => spec_l1In k v1 v2 v3
    | _, _ => none
  ret := fun r => (.lit (.bool r), [])
  quiet := true
noncomputable def D_spec_l1In (v : V) (os : Objs K TyK) : Option (Bool) :=
  match v, os with
  | .lit (.bool v1), [] => some v1
  | _, _ => none
noncomputable abbrev G_spec_l1In (k : Nat) : FuncId → Option (Summ K TyK) := lookT []
noncomputable abbrev L_spec_l1In : List (Nat × Cut K TyK (Bool)) := []
theorem e_spec_l1In (k : Nat) (a0 : Int) (a1 : Int) (a2 : Int) : run cod T (G_spec_l1In k) (lam L_spec_l1In k) (cutsOf L_spec_l1In) 0 (finish cod T false 0 [.tmp 6] D_spec_l1In) 4000 false [.code (bodyOf Try.f78)] (envOf [0, 1, 2] [.lit (.int .i64 a0), .lit (.int .i64 a1), .lit (.int .i64 a2)]) [] = spec_l1In k a0 a1 a2 := by kernel_rfl
theorem ok_spec_l1In (k : Nat) : SummOk Try.prog cod 78 (S_spec_l1In k) := by
  refine summ_of (T := T) Try.f78 (G_spec_l1In) L_spec_l1In false [.tmp 6] 0 D_spec_l1In mixed (fun k => Known.of tok eok codOk ?_) (fun k => QuietOk.of ?_) Try.func78 (by kernel_rfl) (by kernel_rfl) (by kernel_rfl) (by kernel_rfl) (by kernel_rfl) ?_ ?_ [] ?_
  · exact all_nil
  · exact all_nil
  · intro v os r h
    unfold D_spec_l1In at h
    split at h <;> first | (cases h; rfl) | cases h
  · refine all_nil
  · intro args os r h
    change (S_spec_l1In k).run args os = some r at h
    unfold S_spec_l1In at h; dsimp only at h
    split at h
    · exact ⟨Nat.le_of_ble_eq_true (by kernel_rfl), rfl, rfl, k, 4000, (e_spec_l1In k _ _ _).trans h⟩
    · cases h
noncomputable def S_spec_l5Near (k : Nat) : Summ K TyK where
  R := Bool
  modes := [.bo, .bo]
  run := fun args objs => match args, objs with
    | [.agg [.lit (.int .i64 v1), .inl true .held v2, .lit (.string v3), .inl true .str v4], .lit (.int .i64 v5)], [] => spec_l5Near k (⟨v1, v2, v3, v4⟩ : DTake) v5
    | _, _ => none
  ret := fun r => (.lit (.bool r), [])
  quiet := true
noncomputable def D_spec_l5Near (v : V) (os : Objs K TyK) : Option (Bool) :=
  match v, os with
  | .lit (.bool v1), [] => some v1
  | _, _ => none
noncomputable abbrev G_spec_l5Near (k : Nat) : FuncId → Option (Summ K TyK) := lookT [(78, S_spec_l1In k)]
noncomputable abbrev L_spec_l5Near : List (Nat × Cut K TyK (Bool)) := []
theorem e_spec_l5Near (k : Nat) (a0 : DTake) (a1 : Int) : run cod T (G_spec_l5Near k) (lam L_spec_l5Near k) (cutsOf L_spec_l5Near) 0 (finish cod T false 0 [.tmp 4] D_spec_l5Near) 4000 false [.code (bodyOf Try.f75)] (envOf [0, 1] [.agg [.lit (.int .i64 a0.Next), .inl true .held a0.Held, .lit (.string a0.Open), .inl true .str a0.Ready], .lit (.int .i64 a1)]) [] = spec_l5Near k a0 a1 := by kernel_rfl
theorem ok_spec_l5Near (k : Nat) : SummOk Try.prog cod 75 (S_spec_l5Near k) := by
  refine summ_of (T := T) Try.f75 (G_spec_l5Near) L_spec_l5Near false [.tmp 4] 0 D_spec_l5Near mixed (fun k => Known.of tok eok codOk ?_) (fun k => QuietOk.of ?_) Try.func75 (by kernel_rfl) (by kernel_rfl) (by kernel_rfl) (by kernel_rfl) (by kernel_rfl) ?_ ?_ [] ?_
  · exact all_cons (ok_spec_l1In k) (all_nil)
  · exact all_cons (fun h r => ⟨rfl, rfl⟩) (all_nil)
  · intro v os r h
    unfold D_spec_l5Near at h
    split at h <;> first | (cases h; rfl) | cases h
  · refine all_nil
  · intro args os r h
    change (S_spec_l5Near k).run args os = some r at h
    unfold S_spec_l5Near at h; dsimp only at h
    split at h
    · exact ⟨Nat.le_of_ble_eq_true (by kernel_rfl), rfl, rfl, k, 4000, (e_spec_l5Near k ⟨_, _, _, _⟩ _).trans h⟩
    · cases h
noncomputable def S_spec_l5Can (k : Nat) : Summ K TyK where
  R := Bool
  modes := [.bo, .bo]
  run := fun args objs => match args, objs with
    | [.agg [.lit (.int .i64 v1), .inl true .held v2, .lit (.string v3), .inl true .str v4], .agg [.lit (.string v5), .lit (.bool v6)]], [] => spec_l5Can k (⟨v1, v2, v3, v4⟩ : DTake) (⟨v5, v6⟩ : DPart)
    | _, _ => none
  ret := fun r => (.lit (.bool r), [])
  quiet := true
noncomputable def D_spec_l5Can (v : V) (os : Objs K TyK) : Option (Bool) :=
  match v, os with
  | .lit (.bool v1), [] => some v1
  | _, _ => none
noncomputable abbrev G_spec_l5Can (k : Nat) : FuncId → Option (Summ K TyK) := lookT []
noncomputable abbrev L_spec_l5Can : List (Nat × Cut K TyK (Bool)) := []
theorem e_spec_l5Can (k : Nat) (a0 : DTake) (a1 : DPart) : run cod T (G_spec_l5Can k) (lam L_spec_l5Can k) (cutsOf L_spec_l5Can) 0 (finish cod T false 0 [.tmp 4] D_spec_l5Can) 4000 false [.code (bodyOf Try.f119)] (envOf [0, 1] [.agg [.lit (.int .i64 a0.Next), .inl true .held a0.Held, .lit (.string a0.Open), .inl true .str a0.Ready], .agg [.lit (.string a1.Text), .lit (.bool a1.Last)]]) [] = spec_l5Can k a0 a1 := by kernel_rfl
theorem ok_spec_l5Can (k : Nat) : SummOk Try.prog cod 119 (S_spec_l5Can k) := by
  refine summ_of (T := T) Try.f119 (G_spec_l5Can) L_spec_l5Can false [.tmp 4] 0 D_spec_l5Can mixed (fun k => Known.of tok eok codOk ?_) (fun k => QuietOk.of ?_) Try.func119 (by kernel_rfl) (by kernel_rfl) (by kernel_rfl) (by kernel_rfl) (by kernel_rfl) ?_ ?_ [] ?_
  · exact all_nil
  · exact all_nil
  · intro v os r h
    unfold D_spec_l5Can at h
    split at h <;> first | (cases h; rfl) | cases h
  · refine all_nil
  · intro args os r h
    change (S_spec_l5Can k).run args os = some r at h
    unfold S_spec_l5Can at h; dsimp only at h
    split at h
    · exact ⟨Nat.le_of_ble_eq_true (by kernel_rfl), rfl, rfl, k, 4000, (e_spec_l5Can k ⟨_, _, _, _⟩ ⟨_, _⟩).trans h⟩
    · cases h
noncomputable def S_spec_ValidTake (k : Nat) : Summ K TyK where
  R := Bool
  modes := [.bo]
  run := fun args objs => match args, objs with
    | [.agg [.lit (.int .i64 v1), .inl true .held v2, .lit (.string v3), .inl true .str v4]], [] => spec_ValidTake k (⟨v1, v2, v3, v4⟩ : DTake)
    | _, _ => none
  ret := fun r => (.lit (.bool r), [])
  quiet := true
noncomputable def D_spec_ValidTake (v : V) (os : Objs K TyK) : Option (Bool) :=
  match v, os with
  | .lit (.bool v1), [] => some v1
  | _, _ => none
noncomputable def C_spec_ValidTake_4 : Cut K TyK (Bool) where
  slots := [1, 3]
  fn := fun k vs os => match vs, os with
    | [.ref 0 0, .lit (.int .i64 x0)], [.box [.lit (.int .i64 x1), .inl true .held x2, .lit (.string x3), .inl true .str x4]] => spec_ValidTake_l4 k x0 x1 x2 x3 x4
    | _, _ => none
noncomputable def C_spec_ValidTake_9 : Cut K TyK (Bool) where
  slots := [1, 4]
  fn := fun k vs os => match vs, os with
    | [.ref 0 0, .lit (.int .i64 x0)], [.box [.lit (.int .i64 x1), .inl true .held x2, .lit (.string x3), .inl true .str x4]] => spec_ValidTake_l9 k x0 x1 x2 x3 x4
    | _, _ => none
noncomputable abbrev G_spec_ValidTake (k : Nat) : FuncId → Option (Summ K TyK) := lookT [(78, S_spec_l1In k), (75, S_spec_l5Near k), (119, S_spec_l5Can k)]
noncomputable abbrev L_spec_ValidTake : List (Nat × Cut K TyK (Bool)) := [(4, C_spec_ValidTake_4), (9, C_spec_ValidTake_9)]
theorem c_spec_ValidTake_4 (k : Nat) (x0 : Int) (x1 : Int) (x2 : List DHeld) (x3 : ByteArray) (x4 : List ByteArray) : run cod T (G_spec_ValidTake k) (lam L_spec_ValidTake k) (cutsOf L_spec_ValidTake) 0 (finish cod T false 0 [.tmp 2] D_spec_ValidTake) 4000 true (todoAt 4 (bodyOf Try.f61)) (envOf [1, 3] [.ref 0 0, .lit (.int .i64 x0)]) [.box [.lit (.int .i64 x1), .inl true .held x2, .lit (.string x3), .inl true .str x4]] = spec_ValidTake_l4 (k + 1) x0 x1 x2 x3 x4 := by kernel_rfl
theorem c_spec_ValidTake_9 (k : Nat) (x0 : Int) (x1 : Int) (x2 : List DHeld) (x3 : ByteArray) (x4 : List ByteArray) : run cod T (G_spec_ValidTake k) (lam L_spec_ValidTake k) (cutsOf L_spec_ValidTake) 0 (finish cod T false 0 [.tmp 2] D_spec_ValidTake) 4000 true (todoAt 9 (bodyOf Try.f61)) (envOf [1, 4] [.ref 0 0, .lit (.int .i64 x0)]) [.box [.lit (.int .i64 x1), .inl true .held x2, .lit (.string x3), .inl true .str x4]] = spec_ValidTake_l9 (k + 1) x0 x1 x2 x3 x4 := by kernel_rfl
theorem e_spec_ValidTake (k : Nat) (a0 : DTake) : run cod T (G_spec_ValidTake k) (lam L_spec_ValidTake k) (cutsOf L_spec_ValidTake) 0 (finish cod T false 0 [.tmp 2] D_spec_ValidTake) 4000 false [.code (bodyOf Try.f61)] (envOf [0] [.agg [.lit (.int .i64 a0.Next), .inl true .held a0.Held, .lit (.string a0.Open), .inl true .str a0.Ready]]) [] = spec_ValidTake k a0 := by kernel_rfl
theorem ok_spec_ValidTake (k : Nat) : SummOk Try.prog cod 61 (S_spec_ValidTake k) := by
  refine summ_of (T := T) Try.f61 (G_spec_ValidTake) L_spec_ValidTake false [.tmp 2] 0 D_spec_ValidTake mixed (fun k => Known.of tok eok codOk ?_) (fun k => QuietOk.of ?_) Try.func61 (by kernel_rfl) (by kernel_rfl) (by kernel_rfl) (by kernel_rfl) (by kernel_rfl) ?_ ?_ [] ?_
  · exact all_cons (ok_spec_l1In k) (all_cons (ok_spec_l5Near k) (all_cons (ok_spec_l5Can k) (all_nil)))
  · exact all_cons (fun h r => ⟨rfl, rfl⟩) (all_cons (fun h r => ⟨rfl, rfl⟩) (all_cons (fun h r => ⟨rfl, rfl⟩) (all_nil)))
  · intro v os r h
    unfold D_spec_ValidTake at h
    split at h <;> first | (cases h; rfl) | cases h
  · refine all_cons ?_ (all_cons ?_ (all_nil))
    · refine ⟨fun vs os => ?_, by kernel_rfl, fun k vs os r h => ?_⟩
      · show C_spec_ValidTake_4.fn 0 vs os = none
        unfold C_spec_ValidTake_4; dsimp only; split <;> rfl
      · change C_spec_ValidTake_4.fn (k + 1) vs os = some r at h
        unfold C_spec_ValidTake_4 at h; dsimp only at h
        split at h
        · exact ⟨4000, (c_spec_ValidTake_4 k _ _ _ _ _).trans h⟩
        · cases h
    · refine ⟨fun vs os => ?_, by kernel_rfl, fun k vs os r h => ?_⟩
      · show C_spec_ValidTake_9.fn 0 vs os = none
        unfold C_spec_ValidTake_9; dsimp only; split <;> rfl
      · change C_spec_ValidTake_9.fn (k + 1) vs os = some r at h
        unfold C_spec_ValidTake_9 at h; dsimp only at h
        split at h
        · exact ⟨4000, (c_spec_ValidTake_9 k _ _ _ _ _).trans h⟩
        · cases h
  · intro args os r h
    change (S_spec_ValidTake k).run args os = some r at h
    unfold S_spec_ValidTake at h; dsimp only at h
    split at h
    · exact ⟨Nat.le_of_ble_eq_true (by kernel_rfl), rfl, rfl, k, 4000, (e_spec_ValidTake k ⟨_, _, _, _⟩).trans h⟩
    · cases h
noncomputable def S_impl_in (k : Nat) : Summ K TyK where
  R := Bool
  modes := [.bo, .bo, .bo]
  run := fun args objs => match args, objs with
    | [.lit (.int .i64 v1), .lit (.int .i64 v2), .lit (.int .i64 v3)], [] => impl_in k v1 v2 v3
    | _, _ => none
  ret := fun r => (.lit (.bool r), [])
  quiet := true
noncomputable def D_impl_in (v : V) (os : Objs K TyK) : Option (Bool) :=
  match v, os with
  | .lit (.bool v1), [] => some v1
  | _, _ => none
noncomputable abbrev G_impl_in (k : Nat) : FuncId → Option (Summ K TyK) := lookT []
noncomputable abbrev L_impl_in : List (Nat × Cut K TyK (Bool)) := []
theorem e_impl_in (k : Nat) (a0 : Int) (a1 : Int) (a2 : Int) : run cod T (G_impl_in k) (lam L_impl_in k) (cutsOf L_impl_in) 0 (finish cod T false 0 [.tmp 6] D_impl_in) 4000 false [.code (bodyOf Try.f76)] (envOf [0, 1, 2] [.lit (.int .i64 a0), .lit (.int .i64 a1), .lit (.int .i64 a2)]) [] = impl_in k a0 a1 a2 := by kernel_rfl
theorem ok_impl_in (k : Nat) : SummOk Try.prog cod 76 (S_impl_in k) := by
  refine summ_of (T := T) Try.f76 (G_impl_in) L_impl_in false [.tmp 6] 0 D_impl_in mixed (fun k => Known.of tok eok codOk ?_) (fun k => QuietOk.of ?_) Try.func76 (by kernel_rfl) (by kernel_rfl) (by kernel_rfl) (by kernel_rfl) (by kernel_rfl) ?_ ?_ [] ?_
  · exact all_nil
  · exact all_nil
  · intro v os r h
    unfold D_impl_in at h
    split at h <;> first | (cases h; rfl) | cases h
  · refine all_nil
  · intro args os r h
    change (S_impl_in k).run args os = some r at h
    unfold S_impl_in at h; dsimp only at h
    split at h
    · exact ⟨Nat.le_of_ble_eq_true (by kernel_rfl), rfl, rfl, k, 4000, (e_impl_in k _ _ _).trans h⟩
    · cases h
noncomputable def S_impl_goes (k : Nat) : Summ K TyK where
  R := Bool
  modes := [.bo, .bo]
  run := fun args objs => match args, objs with
    | [.agg [.lit (.int .i64 v1), .inl true .held v2, .lit (.string v3), .inl true .str v4], .agg [.lit (.string v5), .lit (.bool v6)]], [] => impl_goes k (⟨v1, v2, v3, v4⟩ : DTake) (⟨v5, v6⟩ : DPart)
    | _, _ => none
  ret := fun r => (.lit (.bool r), [])
  quiet := true
noncomputable def D_impl_goes (v : V) (os : Objs K TyK) : Option (Bool) :=
  match v, os with
  | .lit (.bool v1), [] => some v1
  | _, _ => none
noncomputable abbrev G_impl_goes (k : Nat) : FuncId → Option (Summ K TyK) := lookT []
noncomputable abbrev L_impl_goes : List (Nat × Cut K TyK (Bool)) := []
theorem e_impl_goes (k : Nat) (a0 : DTake) (a1 : DPart) : run cod T (G_impl_goes k) (lam L_impl_goes k) (cutsOf L_impl_goes) 0 (finish cod T false 0 [.tmp 4] D_impl_goes) 4000 false [.code (bodyOf Try.f121)] (envOf [0, 1] [.agg [.lit (.int .i64 a0.Next), .inl true .held a0.Held, .lit (.string a0.Open), .inl true .str a0.Ready], .agg [.lit (.string a1.Text), .lit (.bool a1.Last)]]) [] = impl_goes k a0 a1 := by kernel_rfl
theorem ok_impl_goes (k : Nat) : SummOk Try.prog cod 121 (S_impl_goes k) := by
  refine summ_of (T := T) Try.f121 (G_impl_goes) L_impl_goes false [.tmp 4] 0 D_impl_goes mixed (fun k => Known.of tok eok codOk ?_) (fun k => QuietOk.of ?_) Try.func121 (by kernel_rfl) (by kernel_rfl) (by kernel_rfl) (by kernel_rfl) (by kernel_rfl) ?_ ?_ [] ?_
  · exact all_nil
  · exact all_nil
  · intro v os r h
    unfold D_impl_goes at h
    split at h <;> first | (cases h; rfl) | cases h
  · refine all_nil
  · intro args os r h
    change (S_impl_goes k).run args os = some r at h
    unfold S_impl_goes at h; dsimp only at h
    split at h
    · exact ⟨Nat.le_of_ble_eq_true (by kernel_rfl), rfl, rfl, k, 4000, (e_impl_goes k ⟨_, _, _, _⟩ ⟨_, _⟩).trans h⟩
    · cases h
noncomputable def S_impl_ValidTake (k : Nat) : Summ K TyK where
  R := Bool
  modes := [.bo]
  run := fun args objs => match args, objs with
    | [.agg [.lit (.int .i64 v1), .inl true .held v2, .lit (.string v3), .inl true .str v4]], [] => impl_ValidTake k (⟨v1, v2, v3, v4⟩ : DTake)
    | _, _ => none
  ret := fun r => (.lit (.bool r), [])
  quiet := true
noncomputable def D_impl_ValidTake (v : V) (os : Objs K TyK) : Option (Bool) :=
  match v, os with
  | .lit (.bool v1), [] => some v1
  | _, _ => none
noncomputable def C_impl_ValidTake_4 : Cut K TyK (Bool) where
  slots := [1, 30, 31, 32]
  fn := fun k vs os => match vs, os with
    | [.ref 0 0, .inl true .held x0, .lit (.int .i64 x1), .lit (.int .i64 x2)], [.box [.lit (.int .i64 x3), .inl true .held x4, .lit (.string x5), .inl true .str x6]] => impl_ValidTake_l4 k x0 x1 x2 x3 x4 x5 x6
    | _, _ => none
noncomputable def C_impl_ValidTake_12 : Cut K TyK (Bool) where
  slots := [88, 89, 90]
  fn := fun k vs os => match vs, os with
    | [.inl true .str x0, .lit (.int .i64 x1), .lit (.int .i64 x2)], [] => impl_ValidTake_l12 k x0 x1 x2
    | _, _ => none
noncomputable abbrev G_impl_ValidTake (k : Nat) : FuncId → Option (Summ K TyK) := lookT [(76, S_impl_in k), (121, S_impl_goes k)]
noncomputable abbrev L_impl_ValidTake : List (Nat × Cut K TyK (Bool)) := [(4, C_impl_ValidTake_4), (12, C_impl_ValidTake_12)]
theorem c_impl_ValidTake_4 (k : Nat) (x0 : List DHeld) (x1 : Int) (x2 : Int) (x3 : Int) (x4 : List DHeld) (x5 : ByteArray) (x6 : List ByteArray) : run cod T (G_impl_ValidTake k) (lam L_impl_ValidTake k) (cutsOf L_impl_ValidTake) 0 (finish cod T false 0 [.tmp 2] D_impl_ValidTake) 4000 true (todoAt 4 (bodyOf Try.f66)) (envOf [1, 30, 31, 32] [.ref 0 0, .inl true .held x0, .lit (.int .i64 x1), .lit (.int .i64 x2)]) [.box [.lit (.int .i64 x3), .inl true .held x4, .lit (.string x5), .inl true .str x6]] = impl_ValidTake_l4 (k + 1) x0 x1 x2 x3 x4 x5 x6 := by kernel_rfl
theorem c_impl_ValidTake_12 (k : Nat) (x0 : List ByteArray) (x1 : Int) (x2 : Int) : run cod T (G_impl_ValidTake k) (lam L_impl_ValidTake k) (cutsOf L_impl_ValidTake) 0 (finish cod T false 0 [.tmp 2] D_impl_ValidTake) 4000 true (todoAt 12 (bodyOf Try.f66)) (envOf [88, 89, 90] [.inl true .str x0, .lit (.int .i64 x1), .lit (.int .i64 x2)]) [] = impl_ValidTake_l12 (k + 1) x0 x1 x2 := by kernel_rfl
theorem e_impl_ValidTake (k : Nat) (a0 : DTake) : run cod T (G_impl_ValidTake k) (lam L_impl_ValidTake k) (cutsOf L_impl_ValidTake) 0 (finish cod T false 0 [.tmp 2] D_impl_ValidTake) 4000 false [.code (bodyOf Try.f66)] (envOf [0] [.agg [.lit (.int .i64 a0.Next), .inl true .held a0.Held, .lit (.string a0.Open), .inl true .str a0.Ready]]) [] = impl_ValidTake k a0 := by kernel_rfl
theorem ok_impl_ValidTake (k : Nat) : SummOk Try.prog cod 66 (S_impl_ValidTake k) := by
  refine summ_of (T := T) Try.f66 (G_impl_ValidTake) L_impl_ValidTake false [.tmp 2] 0 D_impl_ValidTake mixed (fun k => Known.of tok eok codOk ?_) (fun k => QuietOk.of ?_) Try.func66 (by kernel_rfl) (by kernel_rfl) (by kernel_rfl) (by kernel_rfl) (by kernel_rfl) ?_ ?_ [] ?_
  · exact all_cons (ok_impl_in k) (all_cons (ok_impl_goes k) (all_nil))
  · exact all_cons (fun h r => ⟨rfl, rfl⟩) (all_cons (fun h r => ⟨rfl, rfl⟩) (all_nil))
  · intro v os r h
    unfold D_impl_ValidTake at h
    split at h <;> first | (cases h; rfl) | cases h
  · refine all_cons ?_ (all_cons ?_ (all_nil))
    · refine ⟨fun vs os => ?_, by kernel_rfl, fun k vs os r h => ?_⟩
      · show C_impl_ValidTake_4.fn 0 vs os = none
        unfold C_impl_ValidTake_4; dsimp only; split <;> rfl
      · change C_impl_ValidTake_4.fn (k + 1) vs os = some r at h
        unfold C_impl_ValidTake_4 at h; dsimp only at h
        split at h
        · exact ⟨4000, (c_impl_ValidTake_4 k _ _ _ _ _ _ _).trans h⟩
        · cases h
    · refine ⟨fun vs os => ?_, by kernel_rfl, fun k vs os r h => ?_⟩
      · show C_impl_ValidTake_12.fn 0 vs os = none
        unfold C_impl_ValidTake_12; dsimp only; split <;> rfl
      · change C_impl_ValidTake_12.fn (k + 1) vs os = some r at h
        unfold C_impl_ValidTake_12 at h; dsimp only at h
        split at h
        · exact ⟨4000, (c_impl_ValidTake_12 k _ _ _).trans h⟩
        · cases h
  · intro args os r h
    change (S_impl_ValidTake k).run args os = some r at h
    unfold S_impl_ValidTake at h; dsimp only at h
    split at h
    · exact ⟨Nat.le_of_ble_eq_true (by kernel_rfl), rfl, rfl, k, 4000, (e_impl_ValidTake k ⟨_, _, _, _⟩).trans h⟩
    · cases h
noncomputable def S_laws_eqPart (k : Nat) : Summ K TyK where
  R := Bool
  modes := [.bo, .bo]
  run := fun args objs => match args, objs with
    | [.agg [.lit (.string v1), .lit (.bool v2)], .agg [.lit (.string v3), .lit (.bool v4)]], [] => laws_eqPart k (⟨v1, v2⟩ : DPart) (⟨v3, v4⟩ : DPart)
    | _, _ => none
  ret := fun r => (.lit (.bool r), [])
  quiet := true
noncomputable def D_laws_eqPart (v : V) (os : Objs K TyK) : Option (Bool) :=
  match v, os with
  | .lit (.bool v1), [] => some v1
  | _, _ => none
noncomputable abbrev G_laws_eqPart (k : Nat) : FuncId → Option (Summ K TyK) := lookT []
noncomputable abbrev L_laws_eqPart : List (Nat × Cut K TyK (Bool)) := []
theorem e_laws_eqPart (k : Nat) (a0 : DPart) (a1 : DPart) : run cod T (G_laws_eqPart k) (lam L_laws_eqPart k) (cutsOf L_laws_eqPart) 0 (finish cod T false 0 [.tmp 4] D_laws_eqPart) 4000 false [.code (bodyOf Try.f140)] (envOf [0, 1] [.agg [.lit (.string a0.Text), .lit (.bool a0.Last)], .agg [.lit (.string a1.Text), .lit (.bool a1.Last)]]) [] = laws_eqPart k a0 a1 := by kernel_rfl
theorem ok_laws_eqPart (k : Nat) : SummOk Try.prog cod 140 (S_laws_eqPart k) := by
  refine summ_of (T := T) Try.f140 (G_laws_eqPart) L_laws_eqPart false [.tmp 4] 0 D_laws_eqPart mixed (fun k => Known.of tok eok codOk ?_) (fun k => QuietOk.of ?_) Try.func140 (by kernel_rfl) (by kernel_rfl) (by kernel_rfl) (by kernel_rfl) (by kernel_rfl) ?_ ?_ [] ?_
  · exact all_nil
  · exact all_nil
  · intro v os r h
    unfold D_laws_eqPart at h
    split at h <;> first | (cases h; rfl) | cases h
  · refine all_nil
  · intro args os r h
    change (S_laws_eqPart k).run args os = some r at h
    unfold S_laws_eqPart at h; dsimp only at h
    split at h
    · exact ⟨Nat.le_of_ble_eq_true (by kernel_rfl), rfl, rfl, k, 4000, (e_laws_eqPart k ⟨_, _⟩ ⟨_, _⟩).trans h⟩
    · cases h
noncomputable def S_laws_eqHeld (k : Nat) : Summ K TyK where
  R := Bool
  modes := [.bo, .bo]
  run := fun args objs => match args, objs with
    | [.agg [.lit (.int .i64 v1), .lit (.string v2), .lit (.bool v3)], .agg [.lit (.int .i64 v4), .lit (.string v5), .lit (.bool v6)]], [] => laws_eqHeld k (⟨v1, (⟨v2, v3⟩ : DPart)⟩ : DHeld) (⟨v4, (⟨v5, v6⟩ : DPart)⟩ : DHeld)
    | _, _ => none
  ret := fun r => (.lit (.bool r), [])
  quiet := true
noncomputable def D_laws_eqHeld (v : V) (os : Objs K TyK) : Option (Bool) :=
  match v, os with
  | .lit (.bool v1), [] => some v1
  | _, _ => none
noncomputable abbrev G_laws_eqHeld (k : Nat) : FuncId → Option (Summ K TyK) := lookT [(140, S_laws_eqPart k)]
noncomputable abbrev L_laws_eqHeld : List (Nat × Cut K TyK (Bool)) := []
theorem e_laws_eqHeld (k : Nat) (a0 : DHeld) (a1 : DHeld) : run cod T (G_laws_eqHeld k) (lam L_laws_eqHeld k) (cutsOf L_laws_eqHeld) 0 (finish cod T false 0 [.tmp 4] D_laws_eqHeld) 4000 false [.code (bodyOf Try.f122)] (envOf [0, 1] [.agg [.lit (.int .i64 a0.Seq), .lit (.string a0.Part.Text), .lit (.bool a0.Part.Last)], .agg [.lit (.int .i64 a1.Seq), .lit (.string a1.Part.Text), .lit (.bool a1.Part.Last)]]) [] = laws_eqHeld k a0 a1 := by kernel_rfl
theorem ok_laws_eqHeld (k : Nat) : SummOk Try.prog cod 122 (S_laws_eqHeld k) := by
  refine summ_of (T := T) Try.f122 (G_laws_eqHeld) L_laws_eqHeld false [.tmp 4] 0 D_laws_eqHeld mixed (fun k => Known.of tok eok codOk ?_) (fun k => QuietOk.of ?_) Try.func122 (by kernel_rfl) (by kernel_rfl) (by kernel_rfl) (by kernel_rfl) (by kernel_rfl) ?_ ?_ [] ?_
  · exact all_cons (ok_laws_eqPart k) (all_nil)
  · exact all_cons (fun h r => ⟨rfl, rfl⟩) (all_nil)
  · intro v os r h
    unfold D_laws_eqHeld at h
    split at h <;> first | (cases h; rfl) | cases h
  · refine all_nil
  · intro args os r h
    change (S_laws_eqHeld k).run args os = some r at h
    unfold S_laws_eqHeld at h; dsimp only at h
    split at h
    · exact ⟨Nat.le_of_ble_eq_true (by kernel_rfl), rfl, rfl, k, 4000, (e_laws_eqHeld k ⟨_, ⟨_, _⟩⟩ ⟨_, ⟨_, _⟩⟩).trans h⟩
    · cases h
noncomputable def S_laws_eqHeldS (k : Nat) : Summ K TyK where
  R := Bool
  modes := [.bo, .bo]
  run := fun args objs => match args, objs with
    | [.inl true .held v1, .inl true .held v2], [] => laws_eqHeldS k v1 v2
    | _, _ => none
  ret := fun r => (.lit (.bool r), [])
  quiet := true
noncomputable def D_laws_eqHeldS (v : V) (os : Objs K TyK) : Option (Bool) :=
  match v, os with
  | .lit (.bool v1), [] => some v1
  | _, _ => none
noncomputable def C_laws_eqHeldS_4 : Cut K TyK (Bool) where
  slots := [0, 1, 5]
  fn := fun k vs os => match vs, os with
    | [.inl true .held x0, .inl true .held x1, .lit (.int .i64 x2)], [] => laws_eqHeldS_l4 k x0 x1 x2
    | _, _ => none
noncomputable abbrev G_laws_eqHeldS (k : Nat) : FuncId → Option (Summ K TyK) := lookT [(122, S_laws_eqHeld k)]
noncomputable abbrev L_laws_eqHeldS : List (Nat × Cut K TyK (Bool)) := [(4, C_laws_eqHeldS_4)]
theorem c_laws_eqHeldS_4 (k : Nat) (x0 : List DHeld) (x1 : List DHeld) (x2 : Int) : run cod T (G_laws_eqHeldS k) (lam L_laws_eqHeldS k) (cutsOf L_laws_eqHeldS) 0 (finish cod T false 0 [.tmp 4] D_laws_eqHeldS) 4000 true (todoAt 4 (bodyOf Try.f69)) (envOf [0, 1, 5] [.inl true .held x0, .inl true .held x1, .lit (.int .i64 x2)]) [] = laws_eqHeldS_l4 (k + 1) x0 x1 x2 := by kernel_rfl
theorem e_laws_eqHeldS (k : Nat) (a0 : List DHeld) (a1 : List DHeld) : run cod T (G_laws_eqHeldS k) (lam L_laws_eqHeldS k) (cutsOf L_laws_eqHeldS) 0 (finish cod T false 0 [.tmp 4] D_laws_eqHeldS) 4000 false [.code (bodyOf Try.f69)] (envOf [0, 1] [.inl true .held a0, .inl true .held a1]) [] = laws_eqHeldS k a0 a1 := by kernel_rfl
theorem ok_laws_eqHeldS (k : Nat) : SummOk Try.prog cod 69 (S_laws_eqHeldS k) := by
  refine summ_of (T := T) Try.f69 (G_laws_eqHeldS) L_laws_eqHeldS false [.tmp 4] 0 D_laws_eqHeldS mixed (fun k => Known.of tok eok codOk ?_) (fun k => QuietOk.of ?_) Try.func69 (by kernel_rfl) (by kernel_rfl) (by kernel_rfl) (by kernel_rfl) (by kernel_rfl) ?_ ?_ [] ?_
  · exact all_cons (ok_laws_eqHeld k) (all_nil)
  · exact all_cons (fun h r => ⟨rfl, rfl⟩) (all_nil)
  · intro v os r h
    unfold D_laws_eqHeldS at h
    split at h <;> first | (cases h; rfl) | cases h
  · refine all_cons ?_ (all_nil)
    · refine ⟨fun vs os => ?_, by kernel_rfl, fun k vs os r h => ?_⟩
      · show C_laws_eqHeldS_4.fn 0 vs os = none
        unfold C_laws_eqHeldS_4; dsimp only; split <;> rfl
      · change C_laws_eqHeldS_4.fn (k + 1) vs os = some r at h
        unfold C_laws_eqHeldS_4 at h; dsimp only at h
        split at h
        · exact ⟨4000, (c_laws_eqHeldS_4 k _ _ _).trans h⟩
        · cases h
  · intro args os r h
    change (S_laws_eqHeldS k).run args os = some r at h
    unfold S_laws_eqHeldS at h; dsimp only at h
    split at h
    · exact ⟨Nat.le_of_ble_eq_true (by kernel_rfl), rfl, rfl, k, 4000, (e_laws_eqHeldS k _ _).trans h⟩
    · cases h
noncomputable def S_laws_eqStringS (k : Nat) : Summ K TyK where
  R := Bool
  modes := [.bo, .bo]
  run := fun args objs => match args, objs with
    | [.inl true .str v1, .inl true .str v2], [] => laws_eqStringS k v1 v2
    | _, _ => none
  ret := fun r => (.lit (.bool r), [])
  quiet := true
noncomputable def D_laws_eqStringS (v : V) (os : Objs K TyK) : Option (Bool) :=
  match v, os with
  | .lit (.bool v1), [] => some v1
  | _, _ => none
noncomputable def C_laws_eqStringS_4 : Cut K TyK (Bool) where
  slots := [0, 1, 5]
  fn := fun k vs os => match vs, os with
    | [.inl true .str x0, .inl true .str x1, .lit (.int .i64 x2)], [] => laws_eqStringS_l4 k x0 x1 x2
    | _, _ => none
noncomputable abbrev G_laws_eqStringS (k : Nat) : FuncId → Option (Summ K TyK) := lookT []
noncomputable abbrev L_laws_eqStringS : List (Nat × Cut K TyK (Bool)) := [(4, C_laws_eqStringS_4)]
theorem c_laws_eqStringS_4 (k : Nat) (x0 : List ByteArray) (x1 : List ByteArray) (x2 : Int) : run cod T (G_laws_eqStringS k) (lam L_laws_eqStringS k) (cutsOf L_laws_eqStringS) 0 (finish cod T false 0 [.tmp 4] D_laws_eqStringS) 4000 true (todoAt 4 (bodyOf Try.f70)) (envOf [0, 1, 5] [.inl true .str x0, .inl true .str x1, .lit (.int .i64 x2)]) [] = laws_eqStringS_l4 (k + 1) x0 x1 x2 := by kernel_rfl
theorem e_laws_eqStringS (k : Nat) (a0 : List ByteArray) (a1 : List ByteArray) : run cod T (G_laws_eqStringS k) (lam L_laws_eqStringS k) (cutsOf L_laws_eqStringS) 0 (finish cod T false 0 [.tmp 4] D_laws_eqStringS) 4000 false [.code (bodyOf Try.f70)] (envOf [0, 1] [.inl true .str a0, .inl true .str a1]) [] = laws_eqStringS k a0 a1 := by kernel_rfl
theorem ok_laws_eqStringS (k : Nat) : SummOk Try.prog cod 70 (S_laws_eqStringS k) := by
  refine summ_of (T := T) Try.f70 (G_laws_eqStringS) L_laws_eqStringS false [.tmp 4] 0 D_laws_eqStringS mixed (fun k => Known.of tok eok codOk ?_) (fun k => QuietOk.of ?_) Try.func70 (by kernel_rfl) (by kernel_rfl) (by kernel_rfl) (by kernel_rfl) (by kernel_rfl) ?_ ?_ [] ?_
  · exact all_nil
  · exact all_nil
  · intro v os r h
    unfold D_laws_eqStringS at h
    split at h <;> first | (cases h; rfl) | cases h
  · refine all_cons ?_ (all_nil)
    · refine ⟨fun vs os => ?_, by kernel_rfl, fun k vs os r h => ?_⟩
      · show C_laws_eqStringS_4.fn 0 vs os = none
        unfold C_laws_eqStringS_4; dsimp only; split <;> rfl
      · change C_laws_eqStringS_4.fn (k + 1) vs os = some r at h
        unfold C_laws_eqStringS_4 at h; dsimp only at h
        split at h
        · exact ⟨4000, (c_laws_eqStringS_4 k _ _ _).trans h⟩
        · cases h
  · intro args os r h
    change (S_laws_eqStringS k).run args os = some r at h
    unfold S_laws_eqStringS at h; dsimp only at h
    split at h
    · exact ⟨Nat.le_of_ble_eq_true (by kernel_rfl), rfl, rfl, k, 4000, (e_laws_eqStringS k _ _).trans h⟩
    · cases h
noncomputable def S_laws_eqTake (k : Nat) : Summ K TyK where
  R := Bool
  modes := [.bo, .bo]
  run := fun args objs => match args, objs with
    | [.agg [.lit (.int .i64 v1), .inl true .held v2, .lit (.string v3), .inl true .str v4], .agg [.lit (.int .i64 v5), .inl true .held v6, .lit (.string v7), .inl true .str v8]], [] => laws_eqTake k (⟨v1, v2, v3, v4⟩ : DTake) (⟨v5, v6, v7, v8⟩ : DTake)
    | _, _ => none
  ret := fun r => (.lit (.bool r), [])
  quiet := true
noncomputable def D_laws_eqTake (v : V) (os : Objs K TyK) : Option (Bool) :=
  match v, os with
  | .lit (.bool v1), [] => some v1
  | _, _ => none
noncomputable abbrev G_laws_eqTake (k : Nat) : FuncId → Option (Summ K TyK) := lookT [(69, S_laws_eqHeldS k), (70, S_laws_eqStringS k)]
noncomputable abbrev L_laws_eqTake : List (Nat × Cut K TyK (Bool)) := []
theorem e_laws_eqTake (k : Nat) (a0 : DTake) (a1 : DTake) : run cod T (G_laws_eqTake k) (lam L_laws_eqTake k) (cutsOf L_laws_eqTake) 0 (finish cod T false 0 [.tmp 4] D_laws_eqTake) 4000 false [.code (bodyOf Try.f19)] (envOf [0, 1] [.agg [.lit (.int .i64 a0.Next), .inl true .held a0.Held, .lit (.string a0.Open), .inl true .str a0.Ready], .agg [.lit (.int .i64 a1.Next), .inl true .held a1.Held, .lit (.string a1.Open), .inl true .str a1.Ready]]) [] = laws_eqTake k a0 a1 := by kernel_rfl
theorem ok_laws_eqTake (k : Nat) : SummOk Try.prog cod 19 (S_laws_eqTake k) := by
  refine summ_of (T := T) Try.f19 (G_laws_eqTake) L_laws_eqTake false [.tmp 4] 0 D_laws_eqTake mixed (fun k => Known.of tok eok codOk ?_) (fun k => QuietOk.of ?_) Try.func19 (by kernel_rfl) (by kernel_rfl) (by kernel_rfl) (by kernel_rfl) (by kernel_rfl) ?_ ?_ [] ?_
  · exact all_cons (ok_laws_eqHeldS k) (all_cons (ok_laws_eqStringS k) (all_nil))
  · exact all_cons (fun h r => ⟨rfl, rfl⟩) (all_cons (fun h r => ⟨rfl, rfl⟩) (all_nil))
  · intro v os r h
    unfold D_laws_eqTake at h
    split at h <;> first | (cases h; rfl) | cases h
  · refine all_nil
  · intro args os r h
    change (S_laws_eqTake k).run args os = some r at h
    unfold S_laws_eqTake at h; dsimp only at h
    split at h
    · exact ⟨Nat.le_of_ble_eq_true (by kernel_rfl), rfl, rfl, k, 4000, (e_laws_eqTake k ⟨_, _, _, _⟩ ⟨_, _, _, _⟩).trans h⟩
    · cases h
noncomputable def S_laws_szItem (k : Nat) : Summ K TyK where
  R := Int
  modes := [.bo, .bo]
  run := fun args objs => match args, objs with
    | [.agg [.lit (.string v1), .lit (.bool v2), .lit (.bool v3), .lit (.int .i64 v4)], .lit (.int .i64 v5)], [] => laws_szItem k (⟨(⟨v1, v2⟩ : DPart), v3, v4⟩ : DItem) v5
    | _, _ => none
  ret := fun r => (.lit (.int .i64 r), [])
  quiet := true
noncomputable def D_laws_szItem (v : V) (os : Objs K TyK) : Option (Int) :=
  match v, os with
  | .lit (.int .i64 v1), [] => some v1
  | _, _ => none
noncomputable abbrev G_laws_szItem (k : Nat) : FuncId → Option (Summ K TyK) := lookT [(22, S_laws_szPart k)]
noncomputable abbrev L_laws_szItem : List (Nat × Cut K TyK (Int)) := []
theorem e_laws_szItem (k : Nat) (a0 : DItem) (a1 : Int) : run cod T (G_laws_szItem k) (lam L_laws_szItem k) (cutsOf L_laws_szItem) 0 (finish cod T false 0 [.tmp 4] D_laws_szItem) 4000 false [.code (bodyOf Try.f141)] (envOf [0, 1] [.agg [.lit (.string a0.Part.Text), .lit (.bool a0.Part.Last), .lit (.bool a0.Has), .lit (.int .i64 a0.Since)], .lit (.int .i64 a1)]) [] = laws_szItem k a0 a1 := by kernel_rfl
theorem ok_laws_szItem (k : Nat) : SummOk Try.prog cod 141 (S_laws_szItem k) := by
  refine summ_of (T := T) Try.f141 (G_laws_szItem) L_laws_szItem false [.tmp 4] 0 D_laws_szItem mixed (fun k => Known.of tok eok codOk ?_) (fun k => QuietOk.of ?_) Try.func141 (by kernel_rfl) (by kernel_rfl) (by kernel_rfl) (by kernel_rfl) (by kernel_rfl) ?_ ?_ [] ?_
  · exact all_cons (ok_laws_szPart k) (all_nil)
  · exact all_cons (fun h r => ⟨rfl, rfl⟩) (all_nil)
  · intro v os r h
    unfold D_laws_szItem at h
    split at h <;> first | (cases h; rfl) | cases h
  · refine all_nil
  · intro args os r h
    change (S_laws_szItem k).run args os = some r at h
    unfold S_laws_szItem at h; dsimp only at h
    split at h
    · exact ⟨Nat.le_of_ble_eq_true (by kernel_rfl), rfl, rfl, k, 4000, (e_laws_szItem k ⟨⟨_, _⟩, _, _⟩ _).trans h⟩
    · cases h
noncomputable def S_laws_szItemS (k : Nat) : Summ K TyK where
  R := Int
  modes := [.bo, .bo]
  run := fun args objs => match args, objs with
    | [.inl true .item v1, .lit (.int .i64 v2)], [] => laws_szItemS k v1 v2
    | _, _ => none
  ret := fun r => (.lit (.int .i64 r), [])
  quiet := true
noncomputable def D_laws_szItemS (v : V) (os : Objs K TyK) : Option (Int) :=
  match v, os with
  | .lit (.int .i64 v1), [] => some v1
  | _, _ => none
noncomputable def C_laws_szItemS_5 : Cut K TyK (Int) where
  slots := [0, 1, 5]
  fn := fun k vs os => match vs, os with
    | [.inl true .item x0, .lit (.int .i64 x1), .lit (.int .i64 x2)], [] => laws_szItemS_l5 k x0 x1 x2
    | _, _ => none
noncomputable abbrev G_laws_szItemS (k : Nat) : FuncId → Option (Summ K TyK) := lookT [(141, S_laws_szItem k)]
noncomputable abbrev L_laws_szItemS : List (Nat × Cut K TyK (Int)) := [(5, C_laws_szItemS_5)]
theorem c_laws_szItemS_5 (k : Nat) (x0 : List DItem) (x1 : Int) (x2 : Int) : run cod T (G_laws_szItemS k) (lam L_laws_szItemS k) (cutsOf L_laws_szItemS) 0 (finish cod T false 0 [.tmp 4] D_laws_szItemS) 4000 true (todoAt 5 (bodyOf Try.f124)) (envOf [0, 1, 5] [.inl true .item x0, .lit (.int .i64 x1), .lit (.int .i64 x2)]) [] = laws_szItemS_l5 (k + 1) x0 x1 x2 := by kernel_rfl
theorem e_laws_szItemS (k : Nat) (a0 : List DItem) (a1 : Int) : run cod T (G_laws_szItemS k) (lam L_laws_szItemS k) (cutsOf L_laws_szItemS) 0 (finish cod T false 0 [.tmp 4] D_laws_szItemS) 4000 false [.code (bodyOf Try.f124)] (envOf [0, 1] [.inl true .item a0, .lit (.int .i64 a1)]) [] = laws_szItemS k a0 a1 := by kernel_rfl
theorem ok_laws_szItemS (k : Nat) : SummOk Try.prog cod 124 (S_laws_szItemS k) := by
  refine summ_of (T := T) Try.f124 (G_laws_szItemS) L_laws_szItemS false [.tmp 4] 0 D_laws_szItemS mixed (fun k => Known.of tok eok codOk ?_) (fun k => QuietOk.of ?_) Try.func124 (by kernel_rfl) (by kernel_rfl) (by kernel_rfl) (by kernel_rfl) (by kernel_rfl) ?_ ?_ [] ?_
  · exact all_cons (ok_laws_szItem k) (all_nil)
  · exact all_cons (fun h r => ⟨rfl, rfl⟩) (all_nil)
  · intro v os r h
    unfold D_laws_szItemS at h
    split at h <;> first | (cases h; rfl) | cases h
  · refine all_cons ?_ (all_nil)
    · refine ⟨fun vs os => ?_, by kernel_rfl, fun k vs os r h => ?_⟩
      · show C_laws_szItemS_5.fn 0 vs os = none
        unfold C_laws_szItemS_5; dsimp only; split <;> rfl
      · change C_laws_szItemS_5.fn (k + 1) vs os = some r at h
        unfold C_laws_szItemS_5 at h; dsimp only at h
        split at h
        · exact ⟨4000, (c_laws_szItemS_5 k _ _ _).trans h⟩
        · cases h
  · intro args os r h
    change (S_laws_szItemS k).run args os = some r at h
    unfold S_laws_szItemS at h; dsimp only at h
    split at h
    · exact ⟨Nat.le_of_ble_eq_true (by kernel_rfl), rfl, rfl, k, 4000, (e_laws_szItemS k _ _).trans h⟩
    · cases h
noncomputable def S_laws_szSend (k : Nat) : Summ K TyK where
  R := Int
  modes := [.bo, .bo]
  run := fun args objs => match args, objs with
    | [.agg [.lit (.int .i64 v1), .inl true .item v2], .lit (.int .i64 v3)], [] => laws_szSend k (⟨v1, v2⟩ : DSend) v3
    | _, _ => none
  ret := fun r => (.lit (.int .i64 r), [])
  quiet := true
noncomputable def D_laws_szSend (v : V) (os : Objs K TyK) : Option (Int) :=
  match v, os with
  | .lit (.int .i64 v1), [] => some v1
  | _, _ => none
noncomputable abbrev G_laws_szSend (k : Nat) : FuncId → Option (Summ K TyK) := lookT [(124, S_laws_szItemS k)]
noncomputable abbrev L_laws_szSend : List (Nat × Cut K TyK (Int)) := []
theorem e_laws_szSend (k : Nat) (a0 : DSend) (a1 : Int) : run cod T (G_laws_szSend k) (lam L_laws_szSend k) (cutsOf L_laws_szSend) 0 (finish cod T false 0 [.tmp 4] D_laws_szSend) 4000 false [.code (bodyOf Try.f77)] (envOf [0, 1] [.agg [.lit (.int .i64 a0.Base), .inl true .item a0.Items], .lit (.int .i64 a1)]) [] = laws_szSend k a0 a1 := by kernel_rfl
theorem ok_laws_szSend (k : Nat) : SummOk Try.prog cod 77 (S_laws_szSend k) := by
  refine summ_of (T := T) Try.f77 (G_laws_szSend) L_laws_szSend false [.tmp 4] 0 D_laws_szSend mixed (fun k => Known.of tok eok codOk ?_) (fun k => QuietOk.of ?_) Try.func77 (by kernel_rfl) (by kernel_rfl) (by kernel_rfl) (by kernel_rfl) (by kernel_rfl) ?_ ?_ [] ?_
  · exact all_cons (ok_laws_szItemS k) (all_nil)
  · exact all_cons (fun h r => ⟨rfl, rfl⟩) (all_nil)
  · intro v os r h
    unfold D_laws_szSend at h
    split at h <;> first | (cases h; rfl) | cases h
  · refine all_nil
  · intro args os r h
    change (S_laws_szSend k).run args os = some r at h
    unfold S_laws_szSend at h; dsimp only at h
    split at h
    · exact ⟨Nat.le_of_ble_eq_true (by kernel_rfl), rfl, rfl, k, 4000, (e_laws_szSend k ⟨_, _⟩ _).trans h⟩
    · cases h
noncomputable def S_laws_szEnd (k : Nat) : Summ K TyK where
  R := Int
  modes := [.bo, .bo]
  run := fun args objs => match args, objs with
    | [.agg [.lit (.int .i64 v1), .lit (.bool v2), .lit (.int .i64 v3), .lit (.int .i64 v4), .lit (.int .i64 v5), .lit (.bool v6), .lit (.int .i64 v7), .inl true .item v8, .lit (.int .i64 v9), .inl true .held v10, .lit (.string v11), .inl true .str v12], .lit (.int .i64 v13)], [] => laws_szEnd k (⟨v1, v2, v3, v4, v5, v6, (⟨v7, v8⟩ : DSend), (⟨v9, v10, v11, v12⟩ : DTake)⟩ : DEnd) v13
    | _, _ => none
  ret := fun r => (.lit (.int .i64 r), [])
  quiet := true
noncomputable def D_laws_szEnd (v : V) (os : Objs K TyK) : Option (Int) :=
  match v, os with
  | .lit (.int .i64 v1), [] => some v1
  | _, _ => none
noncomputable abbrev G_laws_szEnd (k : Nat) : FuncId → Option (Summ K TyK) := lookT [(77, S_laws_szSend k), (15, S_laws_szTake k)]
noncomputable abbrev L_laws_szEnd : List (Nat × Cut K TyK (Int)) := []
theorem e_laws_szEnd (k : Nat) (a0 : DEnd) (a1 : Int) : run cod T (G_laws_szEnd k) (lam L_laws_szEnd k) (cutsOf L_laws_szEnd) 0 (finish cod T false 0 [.tmp 4] D_laws_szEnd) 4000 false [.code (bodyOf Try.f26)] (envOf [0, 1] [.agg [.lit (.int .i64 a0.Number), .lit (.bool a0.Up), .lit (.int .i64 a0.Life), .lit (.int .i64 a0.Peer), .lit (.int .i64 a0.Since), .lit (.bool a0.Owes), .lit (.int .i64 a0.Send.Base), .inl true .item a0.Send.Items, .lit (.int .i64 a0.Take.Next), .inl true .held a0.Take.Held, .lit (.string a0.Take.Open), .inl true .str a0.Take.Ready], .lit (.int .i64 a1)]) [] = laws_szEnd k a0 a1 := by kernel_rfl
theorem ok_laws_szEnd (k : Nat) : SummOk Try.prog cod 26 (S_laws_szEnd k) := by
  refine summ_of (T := T) Try.f26 (G_laws_szEnd) L_laws_szEnd false [.tmp 4] 0 D_laws_szEnd mixed (fun k => Known.of tok eok codOk ?_) (fun k => QuietOk.of ?_) Try.func26 (by kernel_rfl) (by kernel_rfl) (by kernel_rfl) (by kernel_rfl) (by kernel_rfl) ?_ ?_ [] ?_
  · exact all_cons (ok_laws_szSend k) (all_cons (ok_laws_szTake k) (all_nil))
  · exact all_cons (fun h r => ⟨rfl, rfl⟩) (all_cons (fun h r => ⟨rfl, rfl⟩) (all_nil))
  · intro v os r h
    unfold D_laws_szEnd at h
    split at h <;> first | (cases h; rfl) | cases h
  · refine all_nil
  · intro args os r h
    change (S_laws_szEnd k).run args os = some r at h
    unfold S_laws_szEnd at h; dsimp only at h
    split at h
    · exact ⟨Nat.le_of_ble_eq_true (by kernel_rfl), rfl, rfl, k, 4000, (e_laws_szEnd k ⟨_, _, _, _, _, _, ⟨_, _⟩, ⟨_, _, _, _⟩⟩ _).trans h⟩
    · cases h
noncomputable def S_laws_toItem (k : Nat) : Summ K TyK where
  R := DItem
  modes := [.bo]
  run := fun args objs => match args, objs with
    | [.agg [.lit (.string v1), .lit (.bool v2), .lit (.bool v3), .lit (.int .i64 v4)]], [] => laws_toItem k (⟨(⟨v1, v2⟩ : DPart), v3, v4⟩ : DItem)
    | _, _ => none
  ret := fun r => (.agg [.lit (.string r.Part.Text), .lit (.bool r.Part.Last), .lit (.bool r.Has), .lit (.int .i64 r.Since)], [])
  quiet := true
noncomputable def D_laws_toItem (v : V) (os : Objs K TyK) : Option (DItem) :=
  match v, os with
  | .agg [.lit (.string v1), .lit (.bool v2), .lit (.bool v3), .lit (.int .i64 v4)], [] => some (⟨(⟨v1, v2⟩ : DPart), v3, v4⟩ : DItem)
  | _, _ => none
noncomputable abbrev G_laws_toItem (k : Nat) : FuncId → Option (Summ K TyK) := lookT [(24, S_laws_toPart k)]
noncomputable abbrev L_laws_toItem : List (Nat × Cut K TyK (DItem)) := []
theorem e_laws_toItem (k : Nat) (a0 : DItem) : run cod T (G_laws_toItem k) (lam L_laws_toItem k) (cutsOf L_laws_toItem) 0 (finish cod T false 0 [.cell 2 135] D_laws_toItem) 4000 false [.code (bodyOf Try.f142)] (envOf [0] [.agg [.lit (.string a0.Part.Text), .lit (.bool a0.Part.Last), .lit (.bool a0.Has), .lit (.int .i64 a0.Since)]]) [] = laws_toItem k a0 := by kernel_rfl
theorem ok_laws_toItem (k : Nat) : SummOk Try.prog cod 142 (S_laws_toItem k) := by
  refine summ_of (T := T) Try.f142 (G_laws_toItem) L_laws_toItem false [.cell 2 135] 0 D_laws_toItem mixed (fun k => Known.of tok eok codOk ?_) (fun k => QuietOk.of ?_) Try.func142 (by kernel_rfl) (by kernel_rfl) (by kernel_rfl) (by kernel_rfl) (by kernel_rfl) ?_ ?_ [] ?_
  · exact all_cons (ok_laws_toPart k) (all_nil)
  · exact all_cons (fun h r => ⟨rfl, rfl⟩) (all_nil)
  · intro v os r h
    unfold D_laws_toItem at h
    split at h <;> first | (cases h; rfl) | cases h
  · refine all_nil
  · intro args os r h
    change (S_laws_toItem k).run args os = some r at h
    unfold S_laws_toItem at h; dsimp only at h
    split at h
    · exact ⟨Nat.le_of_ble_eq_true (by kernel_rfl), rfl, rfl, k, 4000, (e_laws_toItem k ⟨⟨_, _⟩, _, _⟩).trans h⟩
    · cases h
noncomputable def S_laws_toItemS (k : Nat) : Summ K TyK where
  R := List DItem
  modes := [.bo]
  run := fun args objs => match args, objs with
    | [.inl true .item v1], [] => laws_toItemS k v1
    | _, _ => none
  ret := fun r => (.own 0, [.sl .item r])
  quiet := false
noncomputable def D_laws_toItemS (v : V) (os : Objs K TyK) : Option (List DItem) :=
  match v, os with
  | .own 0, [.sl .item v1] => some v1
  | _, _ => none
noncomputable def C_laws_toItemS_3 : Cut K TyK (List DItem) where
  slots := [0, 3, 4]
  fn := fun k vs os => match vs, os with
    | [.inl true .item x0, .own 0, .lit (.int .i64 x1)], [.sl .item x2] => laws_toItemS_l3 k x0 x1 x2
    | _, _ => none
noncomputable abbrev G_laws_toItemS (k : Nat) : FuncId → Option (Summ K TyK) := lookT [(142, S_laws_toItem k)]
noncomputable abbrev L_laws_toItemS : List (Nat × Cut K TyK (List DItem)) := [(3, C_laws_toItemS_3)]
theorem c_laws_toItemS_3 (k : Nat) (x0 : List DItem) (x1 : Int) (x2 : List DItem) : run cod T (G_laws_toItemS k) (lam L_laws_toItemS k) (cutsOf L_laws_toItemS) 0 (finish cod T false 0 [.tmp 2] D_laws_toItemS) 4000 true (todoAt 3 (bodyOf Try.f125)) (envOf [0, 3, 4] [.inl true .item x0, .own 0, .lit (.int .i64 x1)]) [.sl .item x2] = laws_toItemS_l3 (k + 1) x0 x1 x2 := by kernel_rfl
theorem e_laws_toItemS (k : Nat) (a0 : List DItem) : run cod T (G_laws_toItemS k) (lam L_laws_toItemS k) (cutsOf L_laws_toItemS) 0 (finish cod T false 0 [.tmp 2] D_laws_toItemS) 4000 false [.code (bodyOf Try.f125)] (envOf [0] [.inl true .item a0]) [] = laws_toItemS k a0 := by kernel_rfl
theorem ok_laws_toItemS (k : Nat) : SummOk Try.prog cod 125 (S_laws_toItemS k) := by
  refine summ_of (T := T) Try.f125 (G_laws_toItemS) L_laws_toItemS false [.tmp 2] 0 D_laws_toItemS mixed (fun k => Known.of tok eok codOk ?_) (fun k => QuietOk.of ?_) Try.func125 (by kernel_rfl) (by kernel_rfl) (by kernel_rfl) (by kernel_rfl) (by kernel_rfl) ?_ ?_ [] ?_
  · exact all_cons (ok_laws_toItem k) (all_nil)
  · exact all_cons (fun h r => ⟨rfl, rfl⟩) (all_nil)
  · intro v os r h
    unfold D_laws_toItemS at h
    split at h <;> first | (cases h; rfl) | cases h
  · refine all_cons ?_ (all_nil)
    · refine ⟨fun vs os => ?_, by kernel_rfl, fun k vs os r h => ?_⟩
      · show C_laws_toItemS_3.fn 0 vs os = none
        unfold C_laws_toItemS_3; dsimp only; split <;> rfl
      · change C_laws_toItemS_3.fn (k + 1) vs os = some r at h
        unfold C_laws_toItemS_3 at h; dsimp only at h
        split at h
        · exact ⟨4000, (c_laws_toItemS_3 k _ _ _).trans h⟩
        · cases h
  · intro args os r h
    change (S_laws_toItemS k).run args os = some r at h
    unfold S_laws_toItemS at h; dsimp only at h
    split at h
    · exact ⟨Nat.le_of_ble_eq_true (by kernel_rfl), rfl, rfl, k, 4000, (e_laws_toItemS k _).trans h⟩
    · cases h
noncomputable def S_laws_toSend (k : Nat) : Summ K TyK where
  R := DSend
  modes := [.bo]
  run := fun args objs => match args, objs with
    | [.agg [.lit (.int .i64 v1), .inl true .item v2]], [] => laws_toSend k (⟨v1, v2⟩ : DSend)
    | _, _ => none
  ret := fun r => (.agg [.lit (.int .i64 r.Base), .own 0], [.sl .item r.Items])
  quiet := false
noncomputable def D_laws_toSend (v : V) (os : Objs K TyK) : Option (DSend) :=
  match v, os with
  | .agg [.lit (.int .i64 v1), .own 0], [.sl .item v2] => some (⟨v1, v2⟩ : DSend)
  | _, _ => none
noncomputable abbrev G_laws_toSend (k : Nat) : FuncId → Option (Summ K TyK) := lookT [(125, S_laws_toItemS k)]
noncomputable abbrev L_laws_toSend : List (Nat × Cut K TyK (DSend)) := []
theorem e_laws_toSend (k : Nat) (a0 : DSend) : run cod T (G_laws_toSend k) (lam L_laws_toSend k) (cutsOf L_laws_toSend) 0 (finish cod T false 0 [.cell 2 52] D_laws_toSend) 4000 false [.code (bodyOf Try.f82)] (envOf [0] [.agg [.lit (.int .i64 a0.Base), .inl true .item a0.Items]]) [] = laws_toSend k a0 := by kernel_rfl
theorem ok_laws_toSend (k : Nat) : SummOk Try.prog cod 82 (S_laws_toSend k) := by
  refine summ_of (T := T) Try.f82 (G_laws_toSend) L_laws_toSend false [.cell 2 52] 0 D_laws_toSend mixed (fun k => Known.of tok eok codOk ?_) (fun k => QuietOk.of ?_) Try.func82 (by kernel_rfl) (by kernel_rfl) (by kernel_rfl) (by kernel_rfl) (by kernel_rfl) ?_ ?_ [] ?_
  · exact all_cons (ok_laws_toItemS k) (all_nil)
  · exact all_cons (fun h r => by cases h) (all_nil)
  · intro v os r h
    unfold D_laws_toSend at h
    split at h <;> first | (cases h; rfl) | cases h
  · refine all_nil
  · intro args os r h
    change (S_laws_toSend k).run args os = some r at h
    unfold S_laws_toSend at h; dsimp only at h
    split at h
    · exact ⟨Nat.le_of_ble_eq_true (by kernel_rfl), rfl, rfl, k, 4000, (e_laws_toSend k ⟨_, _⟩).trans h⟩
    · cases h
noncomputable def S_laws_toEnd (k : Nat) : Summ K TyK where
  R := DEnd
  modes := [.bo]
  run := fun args objs => match args, objs with
    | [.agg [.lit (.int .i64 v1), .lit (.bool v2), .lit (.int .i64 v3), .lit (.int .i64 v4), .lit (.int .i64 v5), .lit (.bool v6), .lit (.int .i64 v7), .inl true .item v8, .lit (.int .i64 v9), .inl true .held v10, .lit (.string v11), .inl true .str v12]], [] => laws_toEnd k (⟨v1, v2, v3, v4, v5, v6, (⟨v7, v8⟩ : DSend), (⟨v9, v10, v11, v12⟩ : DTake)⟩ : DEnd)
    | _, _ => none
  ret := fun r => (.agg [.lit (.int .i64 r.Number), .lit (.bool r.Up), .lit (.int .i64 r.Life), .lit (.int .i64 r.Peer), .lit (.int .i64 r.Since), .lit (.bool r.Owes), .lit (.int .i64 r.Send.Base), .own 0, .lit (.int .i64 r.Take.Next), .own 1, .lit (.string r.Take.Open), .own 2], [.sl .item r.Send.Items, .sl .held r.Take.Held, .sl .str r.Take.Ready])
  quiet := false
noncomputable def D_laws_toEnd (v : V) (os : Objs K TyK) : Option (DEnd) :=
  match v, os with
  | .agg [.lit (.int .i64 v1), .lit (.bool v2), .lit (.int .i64 v3), .lit (.int .i64 v4), .lit (.int .i64 v5), .lit (.bool v6), .lit (.int .i64 v7), .own 0, .lit (.int .i64 v8), .own 1, .lit (.string v9), .own 2], [.sl .item v10, .sl .held v11, .sl .str v12] => some (⟨v1, v2, v3, v4, v5, v6, (⟨v7, v10⟩ : DSend), (⟨v8, v11, v9, v12⟩ : DTake)⟩ : DEnd)
  | _, _ => none
noncomputable abbrev G_laws_toEnd (k : Nat) : FuncId → Option (Summ K TyK) := lookT [(82, S_laws_toSend k), (17, S_laws_toTake k)]
noncomputable abbrev L_laws_toEnd : List (Nat × Cut K TyK (DEnd)) := []
theorem e_laws_toEnd (k : Nat) (a0 : DEnd) : run cod T (G_laws_toEnd k) (lam L_laws_toEnd k) (cutsOf L_laws_toEnd) 0 (finish cod T false 0 [.cell 2 54] D_laws_toEnd) 4000 false [.code (bodyOf Try.f28)] (envOf [0] [.agg [.lit (.int .i64 a0.Number), .lit (.bool a0.Up), .lit (.int .i64 a0.Life), .lit (.int .i64 a0.Peer), .lit (.int .i64 a0.Since), .lit (.bool a0.Owes), .lit (.int .i64 a0.Send.Base), .inl true .item a0.Send.Items, .lit (.int .i64 a0.Take.Next), .inl true .held a0.Take.Held, .lit (.string a0.Take.Open), .inl true .str a0.Take.Ready]]) [] = laws_toEnd k a0 := by kernel_rfl
theorem ok_laws_toEnd (k : Nat) : SummOk Try.prog cod 28 (S_laws_toEnd k) := by
  refine summ_of (T := T) Try.f28 (G_laws_toEnd) L_laws_toEnd false [.cell 2 54] 0 D_laws_toEnd mixed (fun k => Known.of tok eok codOk ?_) (fun k => QuietOk.of ?_) Try.func28 (by kernel_rfl) (by kernel_rfl) (by kernel_rfl) (by kernel_rfl) (by kernel_rfl) ?_ ?_ [] ?_
  · exact all_cons (ok_laws_toSend k) (all_cons (ok_laws_toTake k) (all_nil))
  · exact all_cons (fun h r => by cases h) (all_cons (fun h r => by cases h) (all_nil))
  · intro v os r h
    unfold D_laws_toEnd at h
    split at h <;> first | (cases h; rfl) | cases h
  · refine all_nil
  · intro args os r h
    change (S_laws_toEnd k).run args os = some r at h
    unfold S_laws_toEnd at h; dsimp only at h
    split at h
    · exact ⟨Nat.le_of_ble_eq_true (by kernel_rfl), rfl, rfl, k, 4000, (e_laws_toEnd k ⟨_, _, _, _, _, _, ⟨_, _⟩, ⟨_, _, _, _⟩⟩).trans h⟩
    · cases h
noncomputable def S_spec_ValidSend (k : Nat) : Summ K TyK where
  R := Bool
  modes := [.bo]
  run := fun args objs => match args, objs with
    | [.agg [.lit (.int .i64 v1), .inl true .item v2]], [] => spec_ValidSend k (⟨v1, v2⟩ : DSend)
    | _, _ => none
  ret := fun r => (.lit (.bool r), [])
  quiet := true
noncomputable def D_spec_ValidSend (v : V) (os : Objs K TyK) : Option (Bool) :=
  match v, os with
  | .lit (.bool v1), [] => some v1
  | _, _ => none
noncomputable def C_spec_ValidSend_4 : Cut K TyK (Bool) where
  slots := [1, 3]
  fn := fun k vs os => match vs, os with
    | [.ref 0 0, .lit (.int .i64 x0)], [.box [.lit (.int .i64 x1), .inl true .item x2]] => spec_ValidSend_l4 k x0 x1 x2
    | _, _ => none
noncomputable abbrev G_spec_ValidSend (k : Nat) : FuncId → Option (Summ K TyK) := lookT [(78, S_spec_l1In k)]
noncomputable abbrev L_spec_ValidSend : List (Nat × Cut K TyK (Bool)) := [(4, C_spec_ValidSend_4)]
theorem c_spec_ValidSend_4 (k : Nat) (x0 : Int) (x1 : Int) (x2 : List DItem) : run cod T (G_spec_ValidSend k) (lam L_spec_ValidSend k) (cutsOf L_spec_ValidSend) 0 (finish cod T false 0 [.tmp 2] D_spec_ValidSend) 4000 true (todoAt 4 (bodyOf Try.f79)) (envOf [1, 3] [.ref 0 0, .lit (.int .i64 x0)]) [.box [.lit (.int .i64 x1), .inl true .item x2]] = spec_ValidSend_l4 (k + 1) x0 x1 x2 := by kernel_rfl
theorem e_spec_ValidSend (k : Nat) (a0 : DSend) : run cod T (G_spec_ValidSend k) (lam L_spec_ValidSend k) (cutsOf L_spec_ValidSend) 0 (finish cod T false 0 [.tmp 2] D_spec_ValidSend) 4000 false [.code (bodyOf Try.f79)] (envOf [0] [.agg [.lit (.int .i64 a0.Base), .inl true .item a0.Items]]) [] = spec_ValidSend k a0 := by kernel_rfl
theorem ok_spec_ValidSend (k : Nat) : SummOk Try.prog cod 79 (S_spec_ValidSend k) := by
  refine summ_of (T := T) Try.f79 (G_spec_ValidSend) L_spec_ValidSend false [.tmp 2] 0 D_spec_ValidSend mixed (fun k => Known.of tok eok codOk ?_) (fun k => QuietOk.of ?_) Try.func79 (by kernel_rfl) (by kernel_rfl) (by kernel_rfl) (by kernel_rfl) (by kernel_rfl) ?_ ?_ [] ?_
  · exact all_cons (ok_spec_l1In k) (all_nil)
  · exact all_cons (fun h r => ⟨rfl, rfl⟩) (all_nil)
  · intro v os r h
    unfold D_spec_ValidSend at h
    split at h <;> first | (cases h; rfl) | cases h
  · refine all_cons ?_ (all_nil)
    · refine ⟨fun vs os => ?_, by kernel_rfl, fun k vs os r h => ?_⟩
      · show C_spec_ValidSend_4.fn 0 vs os = none
        unfold C_spec_ValidSend_4; dsimp only; split <;> rfl
      · change C_spec_ValidSend_4.fn (k + 1) vs os = some r at h
        unfold C_spec_ValidSend_4 at h; dsimp only at h
        split at h
        · exact ⟨4000, (c_spec_ValidSend_4 k _ _ _).trans h⟩
        · cases h
  · intro args os r h
    change (S_spec_ValidSend k).run args os = some r at h
    unfold S_spec_ValidSend at h; dsimp only at h
    split at h
    · exact ⟨Nat.le_of_ble_eq_true (by kernel_rfl), rfl, rfl, k, 4000, (e_spec_ValidSend k ⟨_, _⟩).trans h⟩
    · cases h
noncomputable def S_spec_l6NoSend (k : Nat) : Summ K TyK where
  R := Bool
  modes := [.bo]
  run := fun args objs => match args, objs with
    | [.agg [.lit (.int .i64 v1), .inl true .item v2]], [] => spec_l6NoSend k (⟨v1, v2⟩ : DSend)
    | _, _ => none
  ret := fun r => (.lit (.bool r), [])
  quiet := true
noncomputable def D_spec_l6NoSend (v : V) (os : Objs K TyK) : Option (Bool) :=
  match v, os with
  | .lit (.bool v1), [] => some v1
  | _, _ => none
noncomputable abbrev G_spec_l6NoSend (k : Nat) : FuncId → Option (Summ K TyK) := lookT []
noncomputable abbrev L_spec_l6NoSend : List (Nat × Cut K TyK (Bool)) := []
theorem e_spec_l6NoSend (k : Nat) (a0 : DSend) : run cod T (G_spec_l6NoSend k) (lam L_spec_l6NoSend k) (cutsOf L_spec_l6NoSend) 0 (finish cod T false 0 [.tmp 2] D_spec_l6NoSend) 4000 false [.code (bodyOf Try.f80)] (envOf [0] [.agg [.lit (.int .i64 a0.Base), .inl true .item a0.Items]]) [] = spec_l6NoSend k a0 := by kernel_rfl
theorem ok_spec_l6NoSend (k : Nat) : SummOk Try.prog cod 80 (S_spec_l6NoSend k) := by
  refine summ_of (T := T) Try.f80 (G_spec_l6NoSend) L_spec_l6NoSend false [.tmp 2] 0 D_spec_l6NoSend mixed (fun k => Known.of tok eok codOk ?_) (fun k => QuietOk.of ?_) Try.func80 (by kernel_rfl) (by kernel_rfl) (by kernel_rfl) (by kernel_rfl) (by kernel_rfl) ?_ ?_ [] ?_
  · exact all_nil
  · exact all_nil
  · intro v os r h
    unfold D_spec_l6NoSend at h
    split at h <;> first | (cases h; rfl) | cases h
  · refine all_nil
  · intro args os r h
    change (S_spec_l6NoSend k).run args os = some r at h
    unfold S_spec_l6NoSend at h; dsimp only at h
    split at h
    · exact ⟨Nat.le_of_ble_eq_true (by kernel_rfl), rfl, rfl, k, 4000, (e_spec_l6NoSend k ⟨_, _⟩).trans h⟩
    · cases h
noncomputable def S_spec_l6NoTake (k : Nat) : Summ K TyK where
  R := Bool
  modes := [.bo]
  run := fun args objs => match args, objs with
    | [.agg [.lit (.int .i64 v1), .inl true .held v2, .lit (.string v3), .inl true .str v4]], [] => spec_l6NoTake k (⟨v1, v2, v3, v4⟩ : DTake)
    | _, _ => none
  ret := fun r => (.lit (.bool r), [])
  quiet := true
noncomputable def D_spec_l6NoTake (v : V) (os : Objs K TyK) : Option (Bool) :=
  match v, os with
  | .lit (.bool v1), [] => some v1
  | _, _ => none
noncomputable abbrev G_spec_l6NoTake (k : Nat) : FuncId → Option (Summ K TyK) := lookT []
noncomputable abbrev L_spec_l6NoTake : List (Nat × Cut K TyK (Bool)) := []
theorem e_spec_l6NoTake (k : Nat) (a0 : DTake) : run cod T (G_spec_l6NoTake k) (lam L_spec_l6NoTake k) (cutsOf L_spec_l6NoTake) 0 (finish cod T false 0 [.tmp 2] D_spec_l6NoTake) 4000 false [.code (bodyOf Try.f81)] (envOf [0] [.agg [.lit (.int .i64 a0.Next), .inl true .held a0.Held, .lit (.string a0.Open), .inl true .str a0.Ready]]) [] = spec_l6NoTake k a0 := by kernel_rfl
theorem ok_spec_l6NoTake (k : Nat) : SummOk Try.prog cod 81 (S_spec_l6NoTake k) := by
  refine summ_of (T := T) Try.f81 (G_spec_l6NoTake) L_spec_l6NoTake false [.tmp 2] 0 D_spec_l6NoTake mixed (fun k => Known.of tok eok codOk ?_) (fun k => QuietOk.of ?_) Try.func81 (by kernel_rfl) (by kernel_rfl) (by kernel_rfl) (by kernel_rfl) (by kernel_rfl) ?_ ?_ [] ?_
  · exact all_nil
  · exact all_nil
  · intro v os r h
    unfold D_spec_l6NoTake at h
    split at h <;> first | (cases h; rfl) | cases h
  · refine all_nil
  · intro args os r h
    change (S_spec_l6NoTake k).run args os = some r at h
    unfold S_spec_l6NoTake at h; dsimp only at h
    split at h
    · exact ⟨Nat.le_of_ble_eq_true (by kernel_rfl), rfl, rfl, k, 4000, (e_spec_l6NoTake k ⟨_, _, _, _⟩).trans h⟩
    · cases h
noncomputable def S_spec_ValidEnd (k : Nat) : Summ K TyK where
  R := Bool
  modes := [.bo]
  run := fun args objs => match args, objs with
    | [.agg [.lit (.int .i64 v1), .lit (.bool v2), .lit (.int .i64 v3), .lit (.int .i64 v4), .lit (.int .i64 v5), .lit (.bool v6), .lit (.int .i64 v7), .inl true .item v8, .lit (.int .i64 v9), .inl true .held v10, .lit (.string v11), .inl true .str v12]], [] => spec_ValidEnd k (⟨v1, v2, v3, v4, v5, v6, (⟨v7, v8⟩ : DSend), (⟨v9, v10, v11, v12⟩ : DTake)⟩ : DEnd)
    | _, _ => none
  ret := fun r => (.lit (.bool r), [])
  quiet := true
noncomputable def D_spec_ValidEnd (v : V) (os : Objs K TyK) : Option (Bool) :=
  match v, os with
  | .lit (.bool v1), [] => some v1
  | _, _ => none
noncomputable abbrev G_spec_ValidEnd (k : Nat) : FuncId → Option (Summ K TyK) := lookT [(78, S_spec_l1In k), (79, S_spec_ValidSend k), (61, S_spec_ValidTake k), (80, S_spec_l6NoSend k), (81, S_spec_l6NoTake k)]
noncomputable abbrev L_spec_ValidEnd : List (Nat × Cut K TyK (Bool)) := []
theorem e_spec_ValidEnd (k : Nat) (a0 : DEnd) : run cod T (G_spec_ValidEnd k) (lam L_spec_ValidEnd k) (cutsOf L_spec_ValidEnd) 0 (finish cod T false 0 [.tmp 2] D_spec_ValidEnd) 4000 false [.code (bodyOf Try.f27)] (envOf [0] [.agg [.lit (.int .i64 a0.Number), .lit (.bool a0.Up), .lit (.int .i64 a0.Life), .lit (.int .i64 a0.Peer), .lit (.int .i64 a0.Since), .lit (.bool a0.Owes), .lit (.int .i64 a0.Send.Base), .inl true .item a0.Send.Items, .lit (.int .i64 a0.Take.Next), .inl true .held a0.Take.Held, .lit (.string a0.Take.Open), .inl true .str a0.Take.Ready]]) [] = spec_ValidEnd k a0 := by kernel_rfl
theorem ok_spec_ValidEnd (k : Nat) : SummOk Try.prog cod 27 (S_spec_ValidEnd k) := by
  refine summ_of (T := T) Try.f27 (G_spec_ValidEnd) L_spec_ValidEnd false [.tmp 2] 0 D_spec_ValidEnd mixed (fun k => Known.of tok eok codOk ?_) (fun k => QuietOk.of ?_) Try.func27 (by kernel_rfl) (by kernel_rfl) (by kernel_rfl) (by kernel_rfl) (by kernel_rfl) ?_ ?_ [] ?_
  · exact all_cons (ok_spec_l1In k) (all_cons (ok_spec_ValidSend k) (all_cons (ok_spec_ValidTake k) (all_cons (ok_spec_l6NoSend k) (all_cons (ok_spec_l6NoTake k) (all_nil)))))
  · exact all_cons (fun h r => ⟨rfl, rfl⟩) (all_cons (fun h r => ⟨rfl, rfl⟩) (all_cons (fun h r => ⟨rfl, rfl⟩) (all_cons (fun h r => ⟨rfl, rfl⟩) (all_cons (fun h r => ⟨rfl, rfl⟩) (all_nil)))))
  · intro v os r h
    unfold D_spec_ValidEnd at h
    split at h <;> first | (cases h; rfl) | cases h
  · refine all_nil
  · intro args os r h
    change (S_spec_ValidEnd k).run args os = some r at h
    unfold S_spec_ValidEnd at h; dsimp only at h
    split at h
    · exact ⟨Nat.le_of_ble_eq_true (by kernel_rfl), rfl, rfl, k, 4000, (e_spec_ValidEnd k ⟨_, _, _, _, _, _, ⟨_, _⟩, ⟨_, _, _, _⟩⟩).trans h⟩
    · cases h
noncomputable def S_impl_ValidSend (k : Nat) : Summ K TyK where
  R := Bool
  modes := [.bo]
  run := fun args objs => match args, objs with
    | [.agg [.lit (.int .i64 v1), .inl true .item v2]], [] => impl_ValidSend k (⟨v1, v2⟩ : DSend)
    | _, _ => none
  ret := fun r => (.lit (.bool r), [])
  quiet := true
noncomputable def D_impl_ValidSend (v : V) (os : Objs K TyK) : Option (Bool) :=
  match v, os with
  | .lit (.bool v1), [] => some v1
  | _, _ => none
noncomputable def C_impl_ValidSend_4 : Cut K TyK (Bool) where
  slots := [25, 26, 27]
  fn := fun k vs os => match vs, os with
    | [.inl true .item x0, .lit (.int .i64 x1), .lit (.int .i64 x2)], [] => impl_ValidSend_l4 k x0 x1 x2
    | _, _ => none
noncomputable abbrev G_impl_ValidSend (k : Nat) : FuncId → Option (Summ K TyK) := lookT [(76, S_impl_in k)]
noncomputable abbrev L_impl_ValidSend : List (Nat × Cut K TyK (Bool)) := [(4, C_impl_ValidSend_4)]
theorem c_impl_ValidSend_4 (k : Nat) (x0 : List DItem) (x1 : Int) (x2 : Int) : run cod T (G_impl_ValidSend k) (lam L_impl_ValidSend k) (cutsOf L_impl_ValidSend) 0 (finish cod T false 0 [.tmp 2] D_impl_ValidSend) 4000 true (todoAt 4 (bodyOf Try.f83)) (envOf [25, 26, 27] [.inl true .item x0, .lit (.int .i64 x1), .lit (.int .i64 x2)]) [] = impl_ValidSend_l4 (k + 1) x0 x1 x2 := by kernel_rfl
theorem e_impl_ValidSend (k : Nat) (a0 : DSend) : run cod T (G_impl_ValidSend k) (lam L_impl_ValidSend k) (cutsOf L_impl_ValidSend) 0 (finish cod T false 0 [.tmp 2] D_impl_ValidSend) 4000 false [.code (bodyOf Try.f83)] (envOf [0] [.agg [.lit (.int .i64 a0.Base), .inl true .item a0.Items]]) [] = impl_ValidSend k a0 := by kernel_rfl
theorem ok_impl_ValidSend (k : Nat) : SummOk Try.prog cod 83 (S_impl_ValidSend k) := by
  refine summ_of (T := T) Try.f83 (G_impl_ValidSend) L_impl_ValidSend false [.tmp 2] 0 D_impl_ValidSend mixed (fun k => Known.of tok eok codOk ?_) (fun k => QuietOk.of ?_) Try.func83 (by kernel_rfl) (by kernel_rfl) (by kernel_rfl) (by kernel_rfl) (by kernel_rfl) ?_ ?_ [] ?_
  · exact all_cons (ok_impl_in k) (all_nil)
  · exact all_cons (fun h r => ⟨rfl, rfl⟩) (all_nil)
  · intro v os r h
    unfold D_impl_ValidSend at h
    split at h <;> first | (cases h; rfl) | cases h
  · refine all_cons ?_ (all_nil)
    · refine ⟨fun vs os => ?_, by kernel_rfl, fun k vs os r h => ?_⟩
      · show C_impl_ValidSend_4.fn 0 vs os = none
        unfold C_impl_ValidSend_4; dsimp only; split <;> rfl
      · change C_impl_ValidSend_4.fn (k + 1) vs os = some r at h
        unfold C_impl_ValidSend_4 at h; dsimp only at h
        split at h
        · exact ⟨4000, (c_impl_ValidSend_4 k _ _ _).trans h⟩
        · cases h
  · intro args os r h
    change (S_impl_ValidSend k).run args os = some r at h
    unfold S_impl_ValidSend at h; dsimp only at h
    split at h
    · exact ⟨Nat.le_of_ble_eq_true (by kernel_rfl), rfl, rfl, k, 4000, (e_impl_ValidSend k ⟨_, _⟩).trans h⟩
    · cases h
noncomputable def S_impl_noSend (k : Nat) : Summ K TyK where
  R := Bool
  modes := [.bo]
  run := fun args objs => match args, objs with
    | [.agg [.lit (.int .i64 v1), .inl true .item v2]], [] => impl_noSend k (⟨v1, v2⟩ : DSend)
    | _, _ => none
  ret := fun r => (.lit (.bool r), [])
  quiet := true
noncomputable def D_impl_noSend (v : V) (os : Objs K TyK) : Option (Bool) :=
  match v, os with
  | .lit (.bool v1), [] => some v1
  | _, _ => none
noncomputable abbrev G_impl_noSend (k : Nat) : FuncId → Option (Summ K TyK) := lookT []
noncomputable abbrev L_impl_noSend : List (Nat × Cut K TyK (Bool)) := []
theorem e_impl_noSend (k : Nat) (a0 : DSend) : run cod T (G_impl_noSend k) (lam L_impl_noSend k) (cutsOf L_impl_noSend) 0 (finish cod T false 0 [.tmp 2] D_impl_noSend) 4000 false [.code (bodyOf Try.f84)] (envOf [0] [.agg [.lit (.int .i64 a0.Base), .inl true .item a0.Items]]) [] = impl_noSend k a0 := by kernel_rfl
theorem ok_impl_noSend (k : Nat) : SummOk Try.prog cod 84 (S_impl_noSend k) := by
  refine summ_of (T := T) Try.f84 (G_impl_noSend) L_impl_noSend false [.tmp 2] 0 D_impl_noSend mixed (fun k => Known.of tok eok codOk ?_) (fun k => QuietOk.of ?_) Try.func84 (by kernel_rfl) (by kernel_rfl) (by kernel_rfl) (by kernel_rfl) (by kernel_rfl) ?_ ?_ [] ?_
  · exact all_nil
  · exact all_nil
  · intro v os r h
    unfold D_impl_noSend at h
    split at h <;> first | (cases h; rfl) | cases h
  · refine all_nil
  · intro args os r h
    change (S_impl_noSend k).run args os = some r at h
    unfold S_impl_noSend at h; dsimp only at h
    split at h
    · exact ⟨Nat.le_of_ble_eq_true (by kernel_rfl), rfl, rfl, k, 4000, (e_impl_noSend k ⟨_, _⟩).trans h⟩
    · cases h
noncomputable def S_impl_noTake (k : Nat) : Summ K TyK where
  R := Bool
  modes := [.bo]
  run := fun args objs => match args, objs with
    | [.agg [.lit (.int .i64 v1), .inl true .held v2, .lit (.string v3), .inl true .str v4]], [] => impl_noTake k (⟨v1, v2, v3, v4⟩ : DTake)
    | _, _ => none
  ret := fun r => (.lit (.bool r), [])
  quiet := true
noncomputable def D_impl_noTake (v : V) (os : Objs K TyK) : Option (Bool) :=
  match v, os with
  | .lit (.bool v1), [] => some v1
  | _, _ => none
noncomputable abbrev G_impl_noTake (k : Nat) : FuncId → Option (Summ K TyK) := lookT []
noncomputable abbrev L_impl_noTake : List (Nat × Cut K TyK (Bool)) := []
theorem e_impl_noTake (k : Nat) (a0 : DTake) : run cod T (G_impl_noTake k) (lam L_impl_noTake k) (cutsOf L_impl_noTake) 0 (finish cod T false 0 [.tmp 2] D_impl_noTake) 4000 false [.code (bodyOf Try.f85)] (envOf [0] [.agg [.lit (.int .i64 a0.Next), .inl true .held a0.Held, .lit (.string a0.Open), .inl true .str a0.Ready]]) [] = impl_noTake k a0 := by kernel_rfl
theorem ok_impl_noTake (k : Nat) : SummOk Try.prog cod 85 (S_impl_noTake k) := by
  refine summ_of (T := T) Try.f85 (G_impl_noTake) L_impl_noTake false [.tmp 2] 0 D_impl_noTake mixed (fun k => Known.of tok eok codOk ?_) (fun k => QuietOk.of ?_) Try.func85 (by kernel_rfl) (by kernel_rfl) (by kernel_rfl) (by kernel_rfl) (by kernel_rfl) ?_ ?_ [] ?_
  · exact all_nil
  · exact all_nil
  · intro v os r h
    unfold D_impl_noTake at h
    split at h <;> first | (cases h; rfl) | cases h
  · refine all_nil
  · intro args os r h
    change (S_impl_noTake k).run args os = some r at h
    unfold S_impl_noTake at h; dsimp only at h
    split at h
    · exact ⟨Nat.le_of_ble_eq_true (by kernel_rfl), rfl, rfl, k, 4000, (e_impl_noTake k ⟨_, _, _, _⟩).trans h⟩
    · cases h
noncomputable def S_impl_ValidEnd (k : Nat) : Summ K TyK where
  R := Bool
  modes := [.bo]
  run := fun args objs => match args, objs with
    | [.agg [.lit (.int .i64 v1), .lit (.bool v2), .lit (.int .i64 v3), .lit (.int .i64 v4), .lit (.int .i64 v5), .lit (.bool v6), .lit (.int .i64 v7), .inl true .item v8, .lit (.int .i64 v9), .inl true .held v10, .lit (.string v11), .inl true .str v12]], [] => impl_ValidEnd k (⟨v1, v2, v3, v4, v5, v6, (⟨v7, v8⟩ : DSend), (⟨v9, v10, v11, v12⟩ : DTake)⟩ : DEnd)
    | _, _ => none
  ret := fun r => (.lit (.bool r), [])
  quiet := true
noncomputable def D_impl_ValidEnd (v : V) (os : Objs K TyK) : Option (Bool) :=
  match v, os with
  | .lit (.bool v1), [] => some v1
  | _, _ => none
noncomputable abbrev G_impl_ValidEnd (k : Nat) : FuncId → Option (Summ K TyK) := lookT [(76, S_impl_in k), (83, S_impl_ValidSend k), (66, S_impl_ValidTake k), (84, S_impl_noSend k), (85, S_impl_noTake k)]
noncomputable abbrev L_impl_ValidEnd : List (Nat × Cut K TyK (Bool)) := []
theorem e_impl_ValidEnd (k : Nat) (a0 : DEnd) : run cod T (G_impl_ValidEnd k) (lam L_impl_ValidEnd k) (cutsOf L_impl_ValidEnd) 0 (finish cod T false 0 [.tmp 2] D_impl_ValidEnd) 4000 false [.code (bodyOf Try.f29)] (envOf [0] [.agg [.lit (.int .i64 a0.Number), .lit (.bool a0.Up), .lit (.int .i64 a0.Life), .lit (.int .i64 a0.Peer), .lit (.int .i64 a0.Since), .lit (.bool a0.Owes), .lit (.int .i64 a0.Send.Base), .inl true .item a0.Send.Items, .lit (.int .i64 a0.Take.Next), .inl true .held a0.Take.Held, .lit (.string a0.Take.Open), .inl true .str a0.Take.Ready]]) [] = impl_ValidEnd k a0 := by kernel_rfl
theorem ok_impl_ValidEnd (k : Nat) : SummOk Try.prog cod 29 (S_impl_ValidEnd k) := by
  refine summ_of (T := T) Try.f29 (G_impl_ValidEnd) L_impl_ValidEnd false [.tmp 2] 0 D_impl_ValidEnd mixed (fun k => Known.of tok eok codOk ?_) (fun k => QuietOk.of ?_) Try.func29 (by kernel_rfl) (by kernel_rfl) (by kernel_rfl) (by kernel_rfl) (by kernel_rfl) ?_ ?_ [] ?_
  · exact all_cons (ok_impl_in k) (all_cons (ok_impl_ValidSend k) (all_cons (ok_impl_ValidTake k) (all_cons (ok_impl_noSend k) (all_cons (ok_impl_noTake k) (all_nil)))))
  · exact all_cons (fun h r => ⟨rfl, rfl⟩) (all_cons (fun h r => ⟨rfl, rfl⟩) (all_cons (fun h r => ⟨rfl, rfl⟩) (all_cons (fun h r => ⟨rfl, rfl⟩) (all_cons (fun h r => ⟨rfl, rfl⟩) (all_nil)))))
  · intro v os r h
    unfold D_impl_ValidEnd at h
    split at h <;> first | (cases h; rfl) | cases h
  · refine all_nil
  · intro args os r h
    change (S_impl_ValidEnd k).run args os = some r at h
    unfold S_impl_ValidEnd at h; dsimp only at h
    split at h
    · exact ⟨Nat.le_of_ble_eq_true (by kernel_rfl), rfl, rfl, k, 4000, (e_impl_ValidEnd k ⟨_, _, _, _, _, _, ⟨_, _⟩, ⟨_, _, _, _⟩⟩).trans h⟩
    · cases h
noncomputable def S_laws_eqItem (k : Nat) : Summ K TyK where
  R := Bool
  modes := [.bo, .bo]
  run := fun args objs => match args, objs with
    | [.agg [.lit (.string v1), .lit (.bool v2), .lit (.bool v3), .lit (.int .i64 v4)], .agg [.lit (.string v5), .lit (.bool v6), .lit (.bool v7), .lit (.int .i64 v8)]], [] => laws_eqItem k (⟨(⟨v1, v2⟩ : DPart), v3, v4⟩ : DItem) (⟨(⟨v5, v6⟩ : DPart), v7, v8⟩ : DItem)
    | _, _ => none
  ret := fun r => (.lit (.bool r), [])
  quiet := true
noncomputable def D_laws_eqItem (v : V) (os : Objs K TyK) : Option (Bool) :=
  match v, os with
  | .lit (.bool v1), [] => some v1
  | _, _ => none
noncomputable abbrev G_laws_eqItem (k : Nat) : FuncId → Option (Summ K TyK) := lookT [(140, S_laws_eqPart k)]
noncomputable abbrev L_laws_eqItem : List (Nat × Cut K TyK (Bool)) := []
theorem e_laws_eqItem (k : Nat) (a0 : DItem) (a1 : DItem) : run cod T (G_laws_eqItem k) (lam L_laws_eqItem k) (cutsOf L_laws_eqItem) 0 (finish cod T false 0 [.tmp 4] D_laws_eqItem) 4000 false [.code (bodyOf Try.f143)] (envOf [0, 1] [.agg [.lit (.string a0.Part.Text), .lit (.bool a0.Part.Last), .lit (.bool a0.Has), .lit (.int .i64 a0.Since)], .agg [.lit (.string a1.Part.Text), .lit (.bool a1.Part.Last), .lit (.bool a1.Has), .lit (.int .i64 a1.Since)]]) [] = laws_eqItem k a0 a1 := by kernel_rfl
theorem ok_laws_eqItem (k : Nat) : SummOk Try.prog cod 143 (S_laws_eqItem k) := by
  refine summ_of (T := T) Try.f143 (G_laws_eqItem) L_laws_eqItem false [.tmp 4] 0 D_laws_eqItem mixed (fun k => Known.of tok eok codOk ?_) (fun k => QuietOk.of ?_) Try.func143 (by kernel_rfl) (by kernel_rfl) (by kernel_rfl) (by kernel_rfl) (by kernel_rfl) ?_ ?_ [] ?_
  · exact all_cons (ok_laws_eqPart k) (all_nil)
  · exact all_cons (fun h r => ⟨rfl, rfl⟩) (all_nil)
  · intro v os r h
    unfold D_laws_eqItem at h
    split at h <;> first | (cases h; rfl) | cases h
  · refine all_nil
  · intro args os r h
    change (S_laws_eqItem k).run args os = some r at h
    unfold S_laws_eqItem at h; dsimp only at h
    split at h
    · exact ⟨Nat.le_of_ble_eq_true (by kernel_rfl), rfl, rfl, k, 4000, (e_laws_eqItem k ⟨⟨_, _⟩, _, _⟩ ⟨⟨_, _⟩, _, _⟩).trans h⟩
    · cases h
noncomputable def S_laws_eqItemS (k : Nat) : Summ K TyK where
  R := Bool
  modes := [.bo, .bo]
  run := fun args objs => match args, objs with
    | [.inl true .item v1, .inl true .item v2], [] => laws_eqItemS k v1 v2
    | _, _ => none
  ret := fun r => (.lit (.bool r), [])
  quiet := true
noncomputable def D_laws_eqItemS (v : V) (os : Objs K TyK) : Option (Bool) :=
  match v, os with
  | .lit (.bool v1), [] => some v1
  | _, _ => none
noncomputable def C_laws_eqItemS_4 : Cut K TyK (Bool) where
  slots := [0, 1, 5]
  fn := fun k vs os => match vs, os with
    | [.inl true .item x0, .inl true .item x1, .lit (.int .i64 x2)], [] => laws_eqItemS_l4 k x0 x1 x2
    | _, _ => none
noncomputable abbrev G_laws_eqItemS (k : Nat) : FuncId → Option (Summ K TyK) := lookT [(143, S_laws_eqItem k)]
noncomputable abbrev L_laws_eqItemS : List (Nat × Cut K TyK (Bool)) := [(4, C_laws_eqItemS_4)]
theorem c_laws_eqItemS_4 (k : Nat) (x0 : List DItem) (x1 : List DItem) (x2 : Int) : run cod T (G_laws_eqItemS k) (lam L_laws_eqItemS k) (cutsOf L_laws_eqItemS) 0 (finish cod T false 0 [.tmp 4] D_laws_eqItemS) 4000 true (todoAt 4 (bodyOf Try.f126)) (envOf [0, 1, 5] [.inl true .item x0, .inl true .item x1, .lit (.int .i64 x2)]) [] = laws_eqItemS_l4 (k + 1) x0 x1 x2 := by kernel_rfl
theorem e_laws_eqItemS (k : Nat) (a0 : List DItem) (a1 : List DItem) : run cod T (G_laws_eqItemS k) (lam L_laws_eqItemS k) (cutsOf L_laws_eqItemS) 0 (finish cod T false 0 [.tmp 4] D_laws_eqItemS) 4000 false [.code (bodyOf Try.f126)] (envOf [0, 1] [.inl true .item a0, .inl true .item a1]) [] = laws_eqItemS k a0 a1 := by kernel_rfl
theorem ok_laws_eqItemS (k : Nat) : SummOk Try.prog cod 126 (S_laws_eqItemS k) := by
  refine summ_of (T := T) Try.f126 (G_laws_eqItemS) L_laws_eqItemS false [.tmp 4] 0 D_laws_eqItemS mixed (fun k => Known.of tok eok codOk ?_) (fun k => QuietOk.of ?_) Try.func126 (by kernel_rfl) (by kernel_rfl) (by kernel_rfl) (by kernel_rfl) (by kernel_rfl) ?_ ?_ [] ?_
  · exact all_cons (ok_laws_eqItem k) (all_nil)
  · exact all_cons (fun h r => ⟨rfl, rfl⟩) (all_nil)
  · intro v os r h
    unfold D_laws_eqItemS at h
    split at h <;> first | (cases h; rfl) | cases h
  · refine all_cons ?_ (all_nil)
    · refine ⟨fun vs os => ?_, by kernel_rfl, fun k vs os r h => ?_⟩
      · show C_laws_eqItemS_4.fn 0 vs os = none
        unfold C_laws_eqItemS_4; dsimp only; split <;> rfl
      · change C_laws_eqItemS_4.fn (k + 1) vs os = some r at h
        unfold C_laws_eqItemS_4 at h; dsimp only at h
        split at h
        · exact ⟨4000, (c_laws_eqItemS_4 k _ _ _).trans h⟩
        · cases h
  · intro args os r h
    change (S_laws_eqItemS k).run args os = some r at h
    unfold S_laws_eqItemS at h; dsimp only at h
    split at h
    · exact ⟨Nat.le_of_ble_eq_true (by kernel_rfl), rfl, rfl, k, 4000, (e_laws_eqItemS k _ _).trans h⟩
    · cases h
noncomputable def S_laws_eqSend (k : Nat) : Summ K TyK where
  R := Bool
  modes := [.bo, .bo]
  run := fun args objs => match args, objs with
    | [.agg [.lit (.int .i64 v1), .inl true .item v2], .agg [.lit (.int .i64 v3), .inl true .item v4]], [] => laws_eqSend k (⟨v1, v2⟩ : DSend) (⟨v3, v4⟩ : DSend)
    | _, _ => none
  ret := fun r => (.lit (.bool r), [])
  quiet := true
noncomputable def D_laws_eqSend (v : V) (os : Objs K TyK) : Option (Bool) :=
  match v, os with
  | .lit (.bool v1), [] => some v1
  | _, _ => none
noncomputable abbrev G_laws_eqSend (k : Nat) : FuncId → Option (Summ K TyK) := lookT [(126, S_laws_eqItemS k)]
noncomputable abbrev L_laws_eqSend : List (Nat × Cut K TyK (Bool)) := []
theorem e_laws_eqSend (k : Nat) (a0 : DSend) (a1 : DSend) : run cod T (G_laws_eqSend k) (lam L_laws_eqSend k) (cutsOf L_laws_eqSend) 0 (finish cod T false 0 [.tmp 4] D_laws_eqSend) 4000 false [.code (bodyOf Try.f86)] (envOf [0, 1] [.agg [.lit (.int .i64 a0.Base), .inl true .item a0.Items], .agg [.lit (.int .i64 a1.Base), .inl true .item a1.Items]]) [] = laws_eqSend k a0 a1 := by kernel_rfl
theorem ok_laws_eqSend (k : Nat) : SummOk Try.prog cod 86 (S_laws_eqSend k) := by
  refine summ_of (T := T) Try.f86 (G_laws_eqSend) L_laws_eqSend false [.tmp 4] 0 D_laws_eqSend mixed (fun k => Known.of tok eok codOk ?_) (fun k => QuietOk.of ?_) Try.func86 (by kernel_rfl) (by kernel_rfl) (by kernel_rfl) (by kernel_rfl) (by kernel_rfl) ?_ ?_ [] ?_
  · exact all_cons (ok_laws_eqItemS k) (all_nil)
  · exact all_cons (fun h r => ⟨rfl, rfl⟩) (all_nil)
  · intro v os r h
    unfold D_laws_eqSend at h
    split at h <;> first | (cases h; rfl) | cases h
  · refine all_nil
  · intro args os r h
    change (S_laws_eqSend k).run args os = some r at h
    unfold S_laws_eqSend at h; dsimp only at h
    split at h
    · exact ⟨Nat.le_of_ble_eq_true (by kernel_rfl), rfl, rfl, k, 4000, (e_laws_eqSend k ⟨_, _⟩ ⟨_, _⟩).trans h⟩
    · cases h
noncomputable def S_laws_eqEnd (k : Nat) : Summ K TyK where
  R := Bool
  modes := [.bo, .bo]
  run := fun args objs => match args, objs with
    | [.agg [.lit (.int .i64 v1), .lit (.bool v2), .lit (.int .i64 v3), .lit (.int .i64 v4), .lit (.int .i64 v5), .lit (.bool v6), .lit (.int .i64 v7), .inl true .item v8, .lit (.int .i64 v9), .inl true .held v10, .lit (.string v11), .inl true .str v12], .agg [.lit (.int .i64 v13), .lit (.bool v14), .lit (.int .i64 v15), .lit (.int .i64 v16), .lit (.int .i64 v17), .lit (.bool v18), .lit (.int .i64 v19), .inl true .item v20, .lit (.int .i64 v21), .inl true .held v22, .lit (.string v23), .inl true .str v24]], [] => laws_eqEnd k (⟨v1, v2, v3, v4, v5, v6, (⟨v7, v8⟩ : DSend), (⟨v9, v10, v11, v12⟩ : DTake)⟩ : DEnd) (⟨v13, v14, v15, v16, v17, v18, (⟨v19, v20⟩ : DSend), (⟨v21, v22, v23, v24⟩ : DTake)⟩ : DEnd)
    | _, _ => none
  ret := fun r => (.lit (.bool r), [])
  quiet := true
noncomputable def D_laws_eqEnd (v : V) (os : Objs K TyK) : Option (Bool) :=
  match v, os with
  | .lit (.bool v1), [] => some v1
  | _, _ => none
noncomputable abbrev G_laws_eqEnd (k : Nat) : FuncId → Option (Summ K TyK) := lookT [(86, S_laws_eqSend k), (19, S_laws_eqTake k)]
noncomputable abbrev L_laws_eqEnd : List (Nat × Cut K TyK (Bool)) := []
theorem e_laws_eqEnd (k : Nat) (a0 : DEnd) (a1 : DEnd) : run cod T (G_laws_eqEnd k) (lam L_laws_eqEnd k) (cutsOf L_laws_eqEnd) 0 (finish cod T false 0 [.tmp 4] D_laws_eqEnd) 4000 false [.code (bodyOf Try.f30)] (envOf [0, 1] [.agg [.lit (.int .i64 a0.Number), .lit (.bool a0.Up), .lit (.int .i64 a0.Life), .lit (.int .i64 a0.Peer), .lit (.int .i64 a0.Since), .lit (.bool a0.Owes), .lit (.int .i64 a0.Send.Base), .inl true .item a0.Send.Items, .lit (.int .i64 a0.Take.Next), .inl true .held a0.Take.Held, .lit (.string a0.Take.Open), .inl true .str a0.Take.Ready], .agg [.lit (.int .i64 a1.Number), .lit (.bool a1.Up), .lit (.int .i64 a1.Life), .lit (.int .i64 a1.Peer), .lit (.int .i64 a1.Since), .lit (.bool a1.Owes), .lit (.int .i64 a1.Send.Base), .inl true .item a1.Send.Items, .lit (.int .i64 a1.Take.Next), .inl true .held a1.Take.Held, .lit (.string a1.Take.Open), .inl true .str a1.Take.Ready]]) [] = laws_eqEnd k a0 a1 := by kernel_rfl
theorem ok_laws_eqEnd (k : Nat) : SummOk Try.prog cod 30 (S_laws_eqEnd k) := by
  refine summ_of (T := T) Try.f30 (G_laws_eqEnd) L_laws_eqEnd false [.tmp 4] 0 D_laws_eqEnd mixed (fun k => Known.of tok eok codOk ?_) (fun k => QuietOk.of ?_) Try.func30 (by kernel_rfl) (by kernel_rfl) (by kernel_rfl) (by kernel_rfl) (by kernel_rfl) ?_ ?_ [] ?_
  · exact all_cons (ok_laws_eqSend k) (all_cons (ok_laws_eqTake k) (all_nil))
  · exact all_cons (fun h r => ⟨rfl, rfl⟩) (all_cons (fun h r => ⟨rfl, rfl⟩) (all_nil))
  · intro v os r h
    unfold D_laws_eqEnd at h
    split at h <;> first | (cases h; rfl) | cases h
  · refine all_nil
  · intro args os r h
    change (S_laws_eqEnd k).run args os = some r at h
    unfold S_laws_eqEnd at h; dsimp only at h
    split at h
    · exact ⟨Nat.le_of_ble_eq_true (by kernel_rfl), rfl, rfl, k, 4000, (e_laws_eqEnd k ⟨_, _, _, _, _, _, ⟨_, _⟩, ⟨_, _, _, _⟩⟩ ⟨_, _, _, _, _, _, ⟨_, _⟩, ⟨_, _, _, _⟩⟩).trans h⟩
    · cases h
noncomputable def S_laws_eqEndS (k : Nat) : Summ K TyK where
  R := Bool
  modes := [.bo, .bo]
  run := fun args objs => match args, objs with
    | [.inl true .end v1, .inl true .end v2], [] => laws_eqEndS k v1 v2
    | _, _ => none
  ret := fun r => (.lit (.bool r), [])
  quiet := true
noncomputable def D_laws_eqEndS (v : V) (os : Objs K TyK) : Option (Bool) :=
  match v, os with
  | .lit (.bool v1), [] => some v1
  | _, _ => none
noncomputable def C_laws_eqEndS_4 : Cut K TyK (Bool) where
  slots := [0, 1, 5]
  fn := fun k vs os => match vs, os with
    | [.inl true .end x0, .inl true .end x1, .lit (.int .i64 x2)], [] => laws_eqEndS_l4 k x0 x1 x2
    | _, _ => none
noncomputable abbrev G_laws_eqEndS (k : Nat) : FuncId → Option (Summ K TyK) := lookT [(30, S_laws_eqEnd k)]
noncomputable abbrev L_laws_eqEndS : List (Nat × Cut K TyK (Bool)) := [(4, C_laws_eqEndS_4)]
theorem c_laws_eqEndS_4 (k : Nat) (x0 : List DEnd) (x1 : List DEnd) (x2 : Int) : run cod T (G_laws_eqEndS k) (lam L_laws_eqEndS k) (cutsOf L_laws_eqEndS) 0 (finish cod T false 0 [.tmp 4] D_laws_eqEndS) 4000 true (todoAt 4 (bodyOf Try.f89)) (envOf [0, 1, 5] [.inl true .end x0, .inl true .end x1, .lit (.int .i64 x2)]) [] = laws_eqEndS_l4 (k + 1) x0 x1 x2 := by kernel_rfl
theorem e_laws_eqEndS (k : Nat) (a0 : List DEnd) (a1 : List DEnd) : run cod T (G_laws_eqEndS k) (lam L_laws_eqEndS k) (cutsOf L_laws_eqEndS) 0 (finish cod T false 0 [.tmp 4] D_laws_eqEndS) 4000 false [.code (bodyOf Try.f89)] (envOf [0, 1] [.inl true .end a0, .inl true .end a1]) [] = laws_eqEndS k a0 a1 := by kernel_rfl
theorem ok_laws_eqEndS (k : Nat) : SummOk Try.prog cod 89 (S_laws_eqEndS k) := by
  refine summ_of (T := T) Try.f89 (G_laws_eqEndS) L_laws_eqEndS false [.tmp 4] 0 D_laws_eqEndS mixed (fun k => Known.of tok eok codOk ?_) (fun k => QuietOk.of ?_) Try.func89 (by kernel_rfl) (by kernel_rfl) (by kernel_rfl) (by kernel_rfl) (by kernel_rfl) ?_ ?_ [] ?_
  · exact all_cons (ok_laws_eqEnd k) (all_nil)
  · exact all_cons (fun h r => ⟨rfl, rfl⟩) (all_nil)
  · intro v os r h
    unfold D_laws_eqEndS at h
    split at h <;> first | (cases h; rfl) | cases h
  · refine all_cons ?_ (all_nil)
    · refine ⟨fun vs os => ?_, by kernel_rfl, fun k vs os r h => ?_⟩
      · show C_laws_eqEndS_4.fn 0 vs os = none
        unfold C_laws_eqEndS_4; dsimp only; split <;> rfl
      · change C_laws_eqEndS_4.fn (k + 1) vs os = some r at h
        unfold C_laws_eqEndS_4 at h; dsimp only at h
        split at h
        · exact ⟨4000, (c_laws_eqEndS_4 k _ _ _).trans h⟩
        · cases h
  · intro args os r h
    change (S_laws_eqEndS k).run args os = some r at h
    unfold S_laws_eqEndS at h; dsimp only at h
    split at h
    · exact ⟨Nat.le_of_ble_eq_true (by kernel_rfl), rfl, rfl, k, 4000, (e_laws_eqEndS k _ _).trans h⟩
    · cases h
noncomputable def S_laws_eqParcel (k : Nat) : Summ K TyK where
  R := Bool
  modes := [.bo, .bo]
  run := fun args objs => match args, objs with
    | [.agg [.lit (.int .i64 v1), .lit (.string v2), .lit (.string v3)], .agg [.lit (.int .i64 v4), .lit (.string v5), .lit (.string v6)]], [] => laws_eqParcel k (⟨v1, v2, v3⟩ : DParcel) (⟨v4, v5, v6⟩ : DParcel)
    | _, _ => none
  ret := fun r => (.lit (.bool r), [])
  quiet := true
noncomputable def D_laws_eqParcel (v : V) (os : Objs K TyK) : Option (Bool) :=
  match v, os with
  | .lit (.bool v1), [] => some v1
  | _, _ => none
noncomputable abbrev G_laws_eqParcel (k : Nat) : FuncId → Option (Summ K TyK) := lookT []
noncomputable abbrev L_laws_eqParcel : List (Nat × Cut K TyK (Bool)) := []
theorem e_laws_eqParcel (k : Nat) (a0 : DParcel) (a1 : DParcel) : run cod T (G_laws_eqParcel k) (lam L_laws_eqParcel k) (cutsOf L_laws_eqParcel) 0 (finish cod T false 0 [.tmp 4] D_laws_eqParcel) 4000 false [.code (bodyOf Try.f127)] (envOf [0, 1] [.agg [.lit (.int .i64 a0.To), .lit (.string a0.Sent), .lit (.string a0.Bytes)], .agg [.lit (.int .i64 a1.To), .lit (.string a1.Sent), .lit (.string a1.Bytes)]]) [] = laws_eqParcel k a0 a1 := by kernel_rfl
theorem ok_laws_eqParcel (k : Nat) : SummOk Try.prog cod 127 (S_laws_eqParcel k) := by
  refine summ_of (T := T) Try.f127 (G_laws_eqParcel) L_laws_eqParcel false [.tmp 4] 0 D_laws_eqParcel mixed (fun k => Known.of tok eok codOk ?_) (fun k => QuietOk.of ?_) Try.func127 (by kernel_rfl) (by kernel_rfl) (by kernel_rfl) (by kernel_rfl) (by kernel_rfl) ?_ ?_ [] ?_
  · exact all_nil
  · exact all_nil
  · intro v os r h
    unfold D_laws_eqParcel at h
    split at h <;> first | (cases h; rfl) | cases h
  · refine all_nil
  · intro args os r h
    change (S_laws_eqParcel k).run args os = some r at h
    unfold S_laws_eqParcel at h; dsimp only at h
    split at h
    · exact ⟨Nat.le_of_ble_eq_true (by kernel_rfl), rfl, rfl, k, 4000, (e_laws_eqParcel k ⟨_, _, _⟩ ⟨_, _, _⟩).trans h⟩
    · cases h
noncomputable def S_laws_eqParcelS (k : Nat) : Summ K TyK where
  R := Bool
  modes := [.bo, .bo]
  run := fun args objs => match args, objs with
    | [.inl true .parcel v1, .inl true .parcel v2], [] => laws_eqParcelS k v1 v2
    | _, _ => none
  ret := fun r => (.lit (.bool r), [])
  quiet := true
noncomputable def D_laws_eqParcelS (v : V) (os : Objs K TyK) : Option (Bool) :=
  match v, os with
  | .lit (.bool v1), [] => some v1
  | _, _ => none
noncomputable def C_laws_eqParcelS_4 : Cut K TyK (Bool) where
  slots := [0, 1, 5]
  fn := fun k vs os => match vs, os with
    | [.inl true .parcel x0, .inl true .parcel x1, .lit (.int .i64 x2)], [] => laws_eqParcelS_l4 k x0 x1 x2
    | _, _ => none
noncomputable abbrev G_laws_eqParcelS (k : Nat) : FuncId → Option (Summ K TyK) := lookT [(127, S_laws_eqParcel k)]
noncomputable abbrev L_laws_eqParcelS : List (Nat × Cut K TyK (Bool)) := [(4, C_laws_eqParcelS_4)]
theorem c_laws_eqParcelS_4 (k : Nat) (x0 : List DParcel) (x1 : List DParcel) (x2 : Int) : run cod T (G_laws_eqParcelS k) (lam L_laws_eqParcelS k) (cutsOf L_laws_eqParcelS) 0 (finish cod T false 0 [.tmp 4] D_laws_eqParcelS) 4000 true (todoAt 4 (bodyOf Try.f90)) (envOf [0, 1, 5] [.inl true .parcel x0, .inl true .parcel x1, .lit (.int .i64 x2)]) [] = laws_eqParcelS_l4 (k + 1) x0 x1 x2 := by kernel_rfl
theorem e_laws_eqParcelS (k : Nat) (a0 : List DParcel) (a1 : List DParcel) : run cod T (G_laws_eqParcelS k) (lam L_laws_eqParcelS k) (cutsOf L_laws_eqParcelS) 0 (finish cod T false 0 [.tmp 4] D_laws_eqParcelS) 4000 false [.code (bodyOf Try.f90)] (envOf [0, 1] [.inl true .parcel a0, .inl true .parcel a1]) [] = laws_eqParcelS k a0 a1 := by kernel_rfl
theorem ok_laws_eqParcelS (k : Nat) : SummOk Try.prog cod 90 (S_laws_eqParcelS k) := by
  refine summ_of (T := T) Try.f90 (G_laws_eqParcelS) L_laws_eqParcelS false [.tmp 4] 0 D_laws_eqParcelS mixed (fun k => Known.of tok eok codOk ?_) (fun k => QuietOk.of ?_) Try.func90 (by kernel_rfl) (by kernel_rfl) (by kernel_rfl) (by kernel_rfl) (by kernel_rfl) ?_ ?_ [] ?_
  · exact all_cons (ok_laws_eqParcel k) (all_nil)
  · exact all_cons (fun h r => ⟨rfl, rfl⟩) (all_nil)
  · intro v os r h
    unfold D_laws_eqParcelS at h
    split at h <;> first | (cases h; rfl) | cases h
  · refine all_cons ?_ (all_nil)
    · refine ⟨fun vs os => ?_, by kernel_rfl, fun k vs os r h => ?_⟩
      · show C_laws_eqParcelS_4.fn 0 vs os = none
        unfold C_laws_eqParcelS_4; dsimp only; split <;> rfl
      · change C_laws_eqParcelS_4.fn (k + 1) vs os = some r at h
        unfold C_laws_eqParcelS_4 at h; dsimp only at h
        split at h
        · exact ⟨4000, (c_laws_eqParcelS_4 k _ _ _).trans h⟩
        · cases h
  · intro args os r h
    change (S_laws_eqParcelS k).run args os = some r at h
    unfold S_laws_eqParcelS at h; dsimp only at h
    split at h
    · exact ⟨Nat.le_of_ble_eq_true (by kernel_rfl), rfl, rfl, k, 4000, (e_laws_eqParcelS k _ _).trans h⟩
    · cases h
noncomputable def S_laws_eqRecord (k : Nat) : Summ K TyK where
  R := Bool
  modes := [.bo, .bo]
  run := fun args objs => match args, objs with
    | [.agg [.lit (.int .i64 v1), .lit (.int .i64 v2), .lit (.int .i64 v3), .lit (.string v4)], .agg [.lit (.int .i64 v5), .lit (.int .i64 v6), .lit (.int .i64 v7), .lit (.string v8)]], [] => laws_eqRecord k (⟨v1, v2, v3, v4⟩ : DRecord) (⟨v5, v6, v7, v8⟩ : DRecord)
    | _, _ => none
  ret := fun r => (.lit (.bool r), [])
  quiet := true
noncomputable def D_laws_eqRecord (v : V) (os : Objs K TyK) : Option (Bool) :=
  match v, os with
  | .lit (.bool v1), [] => some v1
  | _, _ => none
noncomputable abbrev G_laws_eqRecord (k : Nat) : FuncId → Option (Summ K TyK) := lookT []
noncomputable abbrev L_laws_eqRecord : List (Nat × Cut K TyK (Bool)) := []
theorem e_laws_eqRecord (k : Nat) (a0 : DRecord) (a1 : DRecord) : run cod T (G_laws_eqRecord k) (lam L_laws_eqRecord k) (cutsOf L_laws_eqRecord) 0 (finish cod T false 0 [.tmp 4] D_laws_eqRecord) 4000 false [.code (bodyOf Try.f128)] (envOf [0, 1] [.agg [.lit (.int .i64 a0.From), .lit (.int .i64 a0.A), .lit (.int .i64 a0.B), .lit (.string a0.Text)], .agg [.lit (.int .i64 a1.From), .lit (.int .i64 a1.A), .lit (.int .i64 a1.B), .lit (.string a1.Text)]]) [] = laws_eqRecord k a0 a1 := by kernel_rfl
theorem ok_laws_eqRecord (k : Nat) : SummOk Try.prog cod 128 (S_laws_eqRecord k) := by
  refine summ_of (T := T) Try.f128 (G_laws_eqRecord) L_laws_eqRecord false [.tmp 4] 0 D_laws_eqRecord mixed (fun k => Known.of tok eok codOk ?_) (fun k => QuietOk.of ?_) Try.func128 (by kernel_rfl) (by kernel_rfl) (by kernel_rfl) (by kernel_rfl) (by kernel_rfl) ?_ ?_ [] ?_
  · exact all_nil
  · exact all_nil
  · intro v os r h
    unfold D_laws_eqRecord at h
    split at h <;> first | (cases h; rfl) | cases h
  · refine all_nil
  · intro args os r h
    change (S_laws_eqRecord k).run args os = some r at h
    unfold S_laws_eqRecord at h; dsimp only at h
    split at h
    · exact ⟨Nat.le_of_ble_eq_true (by kernel_rfl), rfl, rfl, k, 4000, (e_laws_eqRecord k ⟨_, _, _, _⟩ ⟨_, _, _, _⟩).trans h⟩
    · cases h
noncomputable def S_laws_eqRecordS (k : Nat) : Summ K TyK where
  R := Bool
  modes := [.bo, .bo]
  run := fun args objs => match args, objs with
    | [.inl true .record v1, .inl true .record v2], [] => laws_eqRecordS k v1 v2
    | _, _ => none
  ret := fun r => (.lit (.bool r), [])
  quiet := true
noncomputable def D_laws_eqRecordS (v : V) (os : Objs K TyK) : Option (Bool) :=
  match v, os with
  | .lit (.bool v1), [] => some v1
  | _, _ => none
noncomputable def C_laws_eqRecordS_4 : Cut K TyK (Bool) where
  slots := [0, 1, 5]
  fn := fun k vs os => match vs, os with
    | [.inl true .record x0, .inl true .record x1, .lit (.int .i64 x2)], [] => laws_eqRecordS_l4 k x0 x1 x2
    | _, _ => none
noncomputable abbrev G_laws_eqRecordS (k : Nat) : FuncId → Option (Summ K TyK) := lookT [(128, S_laws_eqRecord k)]
noncomputable abbrev L_laws_eqRecordS : List (Nat × Cut K TyK (Bool)) := [(4, C_laws_eqRecordS_4)]
theorem c_laws_eqRecordS_4 (k : Nat) (x0 : List DRecord) (x1 : List DRecord) (x2 : Int) : run cod T (G_laws_eqRecordS k) (lam L_laws_eqRecordS k) (cutsOf L_laws_eqRecordS) 0 (finish cod T false 0 [.tmp 4] D_laws_eqRecordS) 4000 true (todoAt 4 (bodyOf Try.f91)) (envOf [0, 1, 5] [.inl true .record x0, .inl true .record x1, .lit (.int .i64 x2)]) [] = laws_eqRecordS_l4 (k + 1) x0 x1 x2 := by kernel_rfl
theorem e_laws_eqRecordS (k : Nat) (a0 : List DRecord) (a1 : List DRecord) : run cod T (G_laws_eqRecordS k) (lam L_laws_eqRecordS k) (cutsOf L_laws_eqRecordS) 0 (finish cod T false 0 [.tmp 4] D_laws_eqRecordS) 4000 false [.code (bodyOf Try.f91)] (envOf [0, 1] [.inl true .record a0, .inl true .record a1]) [] = laws_eqRecordS k a0 a1 := by kernel_rfl
theorem ok_laws_eqRecordS (k : Nat) : SummOk Try.prog cod 91 (S_laws_eqRecordS k) := by
  refine summ_of (T := T) Try.f91 (G_laws_eqRecordS) L_laws_eqRecordS false [.tmp 4] 0 D_laws_eqRecordS mixed (fun k => Known.of tok eok codOk ?_) (fun k => QuietOk.of ?_) Try.func91 (by kernel_rfl) (by kernel_rfl) (by kernel_rfl) (by kernel_rfl) (by kernel_rfl) ?_ ?_ [] ?_
  · exact all_cons (ok_laws_eqRecord k) (all_nil)
  · exact all_cons (fun h r => ⟨rfl, rfl⟩) (all_nil)
  · intro v os r h
    unfold D_laws_eqRecordS at h
    split at h <;> first | (cases h; rfl) | cases h
  · refine all_cons ?_ (all_nil)
    · refine ⟨fun vs os => ?_, by kernel_rfl, fun k vs os r h => ?_⟩
      · show C_laws_eqRecordS_4.fn 0 vs os = none
        unfold C_laws_eqRecordS_4; dsimp only; split <;> rfl
      · change C_laws_eqRecordS_4.fn (k + 1) vs os = some r at h
        unfold C_laws_eqRecordS_4 at h; dsimp only at h
        split at h
        · exact ⟨4000, (c_laws_eqRecordS_4 k _ _ _).trans h⟩
        · cases h
  · intro args os r h
    change (S_laws_eqRecordS k).run args os = some r at h
    unfold S_laws_eqRecordS at h; dsimp only at h
    split at h
    · exact ⟨Nat.le_of_ble_eq_true (by kernel_rfl), rfl, rfl, k, 4000, (e_laws_eqRecordS k _ _).trans h⟩
    · cases h
noncomputable def S_laws_eqWorld (k : Nat) : Summ K TyK where
  R := Bool
  modes := [.bo, .bo]
  run := fun args objs => match args, objs with
    | [.agg [.lit (.string v1), .lit (.int .i64 v2), .inl true .end v3, .inl true .parcel v4, .lit (.string v5), .inl true .record v6, .inl true .record v7], .agg [.lit (.string v8), .lit (.int .i64 v9), .inl true .end v10, .inl true .parcel v11, .lit (.string v12), .inl true .record v13, .inl true .record v14]], [] => laws_eqWorld k (⟨v1, v2, v3, v4, v5, v6, v7⟩ : DWorld) (⟨v8, v9, v10, v11, v12, v13, v14⟩ : DWorld)
    | _, _ => none
  ret := fun r => (.lit (.bool r), [])
  quiet := true
noncomputable def D_laws_eqWorld (v : V) (os : Objs K TyK) : Option (Bool) :=
  match v, os with
  | .lit (.bool v1), [] => some v1
  | _, _ => none
noncomputable abbrev G_laws_eqWorld (k : Nat) : FuncId → Option (Summ K TyK) := lookT [(89, S_laws_eqEndS k), (90, S_laws_eqParcelS k), (91, S_laws_eqRecordS k)]
noncomputable abbrev L_laws_eqWorld : List (Nat × Cut K TyK (Bool)) := []
theorem e_laws_eqWorld (k : Nat) (a0 : DWorld) (a1 : DWorld) : run cod T (G_laws_eqWorld k) (lam L_laws_eqWorld k) (cutsOf L_laws_eqWorld) 0 (finish cod T false 0 [.tmp 4] D_laws_eqWorld) 4000 false [.code (bodyOf Try.f33)] (envOf [0, 1] [.agg [.lit (.string a0.Key), .lit (.int .i64 a0.Width), .inl true .end a0.Ends, .inl true .parcel a0.Flight, .lit (.string a0.Forged), .inl true .record a0.Given, .inl true .record a0.Taken], .agg [.lit (.string a1.Key), .lit (.int .i64 a1.Width), .inl true .end a1.Ends, .inl true .parcel a1.Flight, .lit (.string a1.Forged), .inl true .record a1.Given, .inl true .record a1.Taken]]) [] = laws_eqWorld k a0 a1 := by kernel_rfl
theorem ok_laws_eqWorld (k : Nat) : SummOk Try.prog cod 33 (S_laws_eqWorld k) := by
  refine summ_of (T := T) Try.f33 (G_laws_eqWorld) L_laws_eqWorld false [.tmp 4] 0 D_laws_eqWorld mixed (fun k => Known.of tok eok codOk ?_) (fun k => QuietOk.of ?_) Try.func33 (by kernel_rfl) (by kernel_rfl) (by kernel_rfl) (by kernel_rfl) (by kernel_rfl) ?_ ?_ [] ?_
  · exact all_cons (ok_laws_eqEndS k) (all_cons (ok_laws_eqParcelS k) (all_cons (ok_laws_eqRecordS k) (all_nil)))
  · exact all_cons (fun h r => ⟨rfl, rfl⟩) (all_cons (fun h r => ⟨rfl, rfl⟩) (all_cons (fun h r => ⟨rfl, rfl⟩) (all_nil)))
  · intro v os r h
    unfold D_laws_eqWorld at h
    split at h <;> first | (cases h; rfl) | cases h
  · refine all_nil
  · intro args os r h
    change (S_laws_eqWorld k).run args os = some r at h
    unfold S_laws_eqWorld at h; dsimp only at h
    split at h
    · exact ⟨Nat.le_of_ble_eq_true (by kernel_rfl), rfl, rfl, k, 4000, (e_laws_eqWorld k ⟨_, _, _, _, _, _, _⟩ ⟨_, _, _, _, _, _, _⟩).trans h⟩
    · cases h
noncomputable def S_laws_szEndS (k : Nat) : Summ K TyK where
  R := Int
  modes := [.bo, .bo]
  run := fun args objs => match args, objs with
    | [.inl true .end v1, .lit (.int .i64 v2)], [] => laws_szEndS k v1 v2
    | _, _ => none
  ret := fun r => (.lit (.int .i64 r), [])
  quiet := true
noncomputable def D_laws_szEndS (v : V) (os : Objs K TyK) : Option (Int) :=
  match v, os with
  | .lit (.int .i64 v1), [] => some v1
  | _, _ => none
noncomputable def C_laws_szEndS_5 : Cut K TyK (Int) where
  slots := [0, 1, 5]
  fn := fun k vs os => match vs, os with
    | [.inl true .end x0, .lit (.int .i64 x1), .lit (.int .i64 x2)], [] => laws_szEndS_l5 k x0 x1 x2
    | _, _ => none
noncomputable abbrev G_laws_szEndS (k : Nat) : FuncId → Option (Summ K TyK) := lookT [(26, S_laws_szEnd k)]
noncomputable abbrev L_laws_szEndS : List (Nat × Cut K TyK (Int)) := [(5, C_laws_szEndS_5)]
theorem c_laws_szEndS_5 (k : Nat) (x0 : List DEnd) (x1 : Int) (x2 : Int) : run cod T (G_laws_szEndS k) (lam L_laws_szEndS k) (cutsOf L_laws_szEndS) 0 (finish cod T false 0 [.tmp 4] D_laws_szEndS) 4000 true (todoAt 5 (bodyOf Try.f102)) (envOf [0, 1, 5] [.inl true .end x0, .lit (.int .i64 x1), .lit (.int .i64 x2)]) [] = laws_szEndS_l5 (k + 1) x0 x1 x2 := by kernel_rfl
theorem e_laws_szEndS (k : Nat) (a0 : List DEnd) (a1 : Int) : run cod T (G_laws_szEndS k) (lam L_laws_szEndS k) (cutsOf L_laws_szEndS) 0 (finish cod T false 0 [.tmp 4] D_laws_szEndS) 4000 false [.code (bodyOf Try.f102)] (envOf [0, 1] [.inl true .end a0, .lit (.int .i64 a1)]) [] = laws_szEndS k a0 a1 := by kernel_rfl
theorem ok_laws_szEndS (k : Nat) : SummOk Try.prog cod 102 (S_laws_szEndS k) := by
  refine summ_of (T := T) Try.f102 (G_laws_szEndS) L_laws_szEndS false [.tmp 4] 0 D_laws_szEndS mixed (fun k => Known.of tok eok codOk ?_) (fun k => QuietOk.of ?_) Try.func102 (by kernel_rfl) (by kernel_rfl) (by kernel_rfl) (by kernel_rfl) (by kernel_rfl) ?_ ?_ [] ?_
  · exact all_cons (ok_laws_szEnd k) (all_nil)
  · exact all_cons (fun h r => ⟨rfl, rfl⟩) (all_nil)
  · intro v os r h
    unfold D_laws_szEndS at h
    split at h <;> first | (cases h; rfl) | cases h
  · refine all_cons ?_ (all_nil)
    · refine ⟨fun vs os => ?_, by kernel_rfl, fun k vs os r h => ?_⟩
      · show C_laws_szEndS_5.fn 0 vs os = none
        unfold C_laws_szEndS_5; dsimp only; split <;> rfl
      · change C_laws_szEndS_5.fn (k + 1) vs os = some r at h
        unfold C_laws_szEndS_5 at h; dsimp only at h
        split at h
        · exact ⟨4000, (c_laws_szEndS_5 k _ _ _).trans h⟩
        · cases h
  · intro args os r h
    change (S_laws_szEndS k).run args os = some r at h
    unfold S_laws_szEndS at h; dsimp only at h
    split at h
    · exact ⟨Nat.le_of_ble_eq_true (by kernel_rfl), rfl, rfl, k, 4000, (e_laws_szEndS k _ _).trans h⟩
    · cases h
noncomputable def S_laws_szParcel (k : Nat) : Summ K TyK where
  R := Int
  modes := [.bo, .bo]
  run := fun args objs => match args, objs with
    | [.agg [.lit (.int .i64 v1), .lit (.string v2), .lit (.string v3)], .lit (.int .i64 v4)], [] => laws_szParcel k (⟨v1, v2, v3⟩ : DParcel) v4
    | _, _ => none
  ret := fun r => (.lit (.int .i64 r), [])
  quiet := true
noncomputable def D_laws_szParcel (v : V) (os : Objs K TyK) : Option (Int) :=
  match v, os with
  | .lit (.int .i64 v1), [] => some v1
  | _, _ => none
noncomputable abbrev G_laws_szParcel (k : Nat) : FuncId → Option (Summ K TyK) := lookT []
noncomputable abbrev L_laws_szParcel : List (Nat × Cut K TyK (Int)) := []
theorem e_laws_szParcel (k : Nat) (a0 : DParcel) (a1 : Int) : run cod T (G_laws_szParcel k) (lam L_laws_szParcel k) (cutsOf L_laws_szParcel) 0 (finish cod T false 0 [.tmp 4] D_laws_szParcel) 4000 false [.code (bodyOf Try.f133)] (envOf [0, 1] [.agg [.lit (.int .i64 a0.To), .lit (.string a0.Sent), .lit (.string a0.Bytes)], .lit (.int .i64 a1)]) [] = laws_szParcel k a0 a1 := by kernel_rfl
theorem ok_laws_szParcel (k : Nat) : SummOk Try.prog cod 133 (S_laws_szParcel k) := by
  refine summ_of (T := T) Try.f133 (G_laws_szParcel) L_laws_szParcel false [.tmp 4] 0 D_laws_szParcel mixed (fun k => Known.of tok eok codOk ?_) (fun k => QuietOk.of ?_) Try.func133 (by kernel_rfl) (by kernel_rfl) (by kernel_rfl) (by kernel_rfl) (by kernel_rfl) ?_ ?_ [] ?_
  · exact all_nil
  · exact all_nil
  · intro v os r h
    unfold D_laws_szParcel at h
    split at h <;> first | (cases h; rfl) | cases h
  · refine all_nil
  · intro args os r h
    change (S_laws_szParcel k).run args os = some r at h
    unfold S_laws_szParcel at h; dsimp only at h
    split at h
    · exact ⟨Nat.le_of_ble_eq_true (by kernel_rfl), rfl, rfl, k, 4000, (e_laws_szParcel k ⟨_, _, _⟩ _).trans h⟩
    · cases h
noncomputable def S_laws_szParcelS (k : Nat) : Summ K TyK where
  R := Int
  modes := [.bo, .bo]
  run := fun args objs => match args, objs with
    | [.inl true .parcel v1, .lit (.int .i64 v2)], [] => laws_szParcelS k v1 v2
    | _, _ => none
  ret := fun r => (.lit (.int .i64 r), [])
  quiet := true
noncomputable def D_laws_szParcelS (v : V) (os : Objs K TyK) : Option (Int) :=
  match v, os with
  | .lit (.int .i64 v1), [] => some v1
  | _, _ => none
noncomputable def C_laws_szParcelS_5 : Cut K TyK (Int) where
  slots := [0, 1, 5]
  fn := fun k vs os => match vs, os with
    | [.inl true .parcel x0, .lit (.int .i64 x1), .lit (.int .i64 x2)], [] => laws_szParcelS_l5 k x0 x1 x2
    | _, _ => none
noncomputable abbrev G_laws_szParcelS (k : Nat) : FuncId → Option (Summ K TyK) := lookT [(133, S_laws_szParcel k)]
noncomputable abbrev L_laws_szParcelS : List (Nat × Cut K TyK (Int)) := [(5, C_laws_szParcelS_5)]
theorem c_laws_szParcelS_5 (k : Nat) (x0 : List DParcel) (x1 : Int) (x2 : Int) : run cod T (G_laws_szParcelS k) (lam L_laws_szParcelS k) (cutsOf L_laws_szParcelS) 0 (finish cod T false 0 [.tmp 4] D_laws_szParcelS) 4000 true (todoAt 5 (bodyOf Try.f103)) (envOf [0, 1, 5] [.inl true .parcel x0, .lit (.int .i64 x1), .lit (.int .i64 x2)]) [] = laws_szParcelS_l5 (k + 1) x0 x1 x2 := by kernel_rfl
theorem e_laws_szParcelS (k : Nat) (a0 : List DParcel) (a1 : Int) : run cod T (G_laws_szParcelS k) (lam L_laws_szParcelS k) (cutsOf L_laws_szParcelS) 0 (finish cod T false 0 [.tmp 4] D_laws_szParcelS) 4000 false [.code (bodyOf Try.f103)] (envOf [0, 1] [.inl true .parcel a0, .lit (.int .i64 a1)]) [] = laws_szParcelS k a0 a1 := by kernel_rfl
theorem ok_laws_szParcelS (k : Nat) : SummOk Try.prog cod 103 (S_laws_szParcelS k) := by
  refine summ_of (T := T) Try.f103 (G_laws_szParcelS) L_laws_szParcelS false [.tmp 4] 0 D_laws_szParcelS mixed (fun k => Known.of tok eok codOk ?_) (fun k => QuietOk.of ?_) Try.func103 (by kernel_rfl) (by kernel_rfl) (by kernel_rfl) (by kernel_rfl) (by kernel_rfl) ?_ ?_ [] ?_
  · exact all_cons (ok_laws_szParcel k) (all_nil)
  · exact all_cons (fun h r => ⟨rfl, rfl⟩) (all_nil)
  · intro v os r h
    unfold D_laws_szParcelS at h
    split at h <;> first | (cases h; rfl) | cases h
  · refine all_cons ?_ (all_nil)
    · refine ⟨fun vs os => ?_, by kernel_rfl, fun k vs os r h => ?_⟩
      · show C_laws_szParcelS_5.fn 0 vs os = none
        unfold C_laws_szParcelS_5; dsimp only; split <;> rfl
      · change C_laws_szParcelS_5.fn (k + 1) vs os = some r at h
        unfold C_laws_szParcelS_5 at h; dsimp only at h
        split at h
        · exact ⟨4000, (c_laws_szParcelS_5 k _ _ _).trans h⟩
        · cases h
  · intro args os r h
    change (S_laws_szParcelS k).run args os = some r at h
    unfold S_laws_szParcelS at h; dsimp only at h
    split at h
    · exact ⟨Nat.le_of_ble_eq_true (by kernel_rfl), rfl, rfl, k, 4000, (e_laws_szParcelS k _ _).trans h⟩
    · cases h
noncomputable def S_laws_szRecord (k : Nat) : Summ K TyK where
  R := Int
  modes := [.bo, .bo]
  run := fun args objs => match args, objs with
    | [.agg [.lit (.int .i64 v1), .lit (.int .i64 v2), .lit (.int .i64 v3), .lit (.string v4)], .lit (.int .i64 v5)], [] => laws_szRecord k (⟨v1, v2, v3, v4⟩ : DRecord) v5
    | _, _ => none
  ret := fun r => (.lit (.int .i64 r), [])
  quiet := true
noncomputable def D_laws_szRecord (v : V) (os : Objs K TyK) : Option (Int) :=
  match v, os with
  | .lit (.int .i64 v1), [] => some v1
  | _, _ => none
noncomputable abbrev G_laws_szRecord (k : Nat) : FuncId → Option (Summ K TyK) := lookT []
noncomputable abbrev L_laws_szRecord : List (Nat × Cut K TyK (Int)) := []
theorem e_laws_szRecord (k : Nat) (a0 : DRecord) (a1 : Int) : run cod T (G_laws_szRecord k) (lam L_laws_szRecord k) (cutsOf L_laws_szRecord) 0 (finish cod T false 0 [.tmp 4] D_laws_szRecord) 4000 false [.code (bodyOf Try.f134)] (envOf [0, 1] [.agg [.lit (.int .i64 a0.From), .lit (.int .i64 a0.A), .lit (.int .i64 a0.B), .lit (.string a0.Text)], .lit (.int .i64 a1)]) [] = laws_szRecord k a0 a1 := by kernel_rfl
theorem ok_laws_szRecord (k : Nat) : SummOk Try.prog cod 134 (S_laws_szRecord k) := by
  refine summ_of (T := T) Try.f134 (G_laws_szRecord) L_laws_szRecord false [.tmp 4] 0 D_laws_szRecord mixed (fun k => Known.of tok eok codOk ?_) (fun k => QuietOk.of ?_) Try.func134 (by kernel_rfl) (by kernel_rfl) (by kernel_rfl) (by kernel_rfl) (by kernel_rfl) ?_ ?_ [] ?_
  · exact all_nil
  · exact all_nil
  · intro v os r h
    unfold D_laws_szRecord at h
    split at h <;> first | (cases h; rfl) | cases h
  · refine all_nil
  · intro args os r h
    change (S_laws_szRecord k).run args os = some r at h
    unfold S_laws_szRecord at h; dsimp only at h
    split at h
    · exact ⟨Nat.le_of_ble_eq_true (by kernel_rfl), rfl, rfl, k, 4000, (e_laws_szRecord k ⟨_, _, _, _⟩ _).trans h⟩
    · cases h
noncomputable def S_laws_szRecordS (k : Nat) : Summ K TyK where
  R := Int
  modes := [.bo, .bo]
  run := fun args objs => match args, objs with
    | [.inl true .record v1, .lit (.int .i64 v2)], [] => laws_szRecordS k v1 v2
    | _, _ => none
  ret := fun r => (.lit (.int .i64 r), [])
  quiet := true
noncomputable def D_laws_szRecordS (v : V) (os : Objs K TyK) : Option (Int) :=
  match v, os with
  | .lit (.int .i64 v1), [] => some v1
  | _, _ => none
noncomputable def C_laws_szRecordS_5 : Cut K TyK (Int) where
  slots := [0, 1, 5]
  fn := fun k vs os => match vs, os with
    | [.inl true .record x0, .lit (.int .i64 x1), .lit (.int .i64 x2)], [] => laws_szRecordS_l5 k x0 x1 x2
    | _, _ => none
noncomputable abbrev G_laws_szRecordS (k : Nat) : FuncId → Option (Summ K TyK) := lookT [(134, S_laws_szRecord k)]
noncomputable abbrev L_laws_szRecordS : List (Nat × Cut K TyK (Int)) := [(5, C_laws_szRecordS_5)]
theorem c_laws_szRecordS_5 (k : Nat) (x0 : List DRecord) (x1 : Int) (x2 : Int) : run cod T (G_laws_szRecordS k) (lam L_laws_szRecordS k) (cutsOf L_laws_szRecordS) 0 (finish cod T false 0 [.tmp 4] D_laws_szRecordS) 4000 true (todoAt 5 (bodyOf Try.f104)) (envOf [0, 1, 5] [.inl true .record x0, .lit (.int .i64 x1), .lit (.int .i64 x2)]) [] = laws_szRecordS_l5 (k + 1) x0 x1 x2 := by kernel_rfl
theorem e_laws_szRecordS (k : Nat) (a0 : List DRecord) (a1 : Int) : run cod T (G_laws_szRecordS k) (lam L_laws_szRecordS k) (cutsOf L_laws_szRecordS) 0 (finish cod T false 0 [.tmp 4] D_laws_szRecordS) 4000 false [.code (bodyOf Try.f104)] (envOf [0, 1] [.inl true .record a0, .lit (.int .i64 a1)]) [] = laws_szRecordS k a0 a1 := by kernel_rfl
theorem ok_laws_szRecordS (k : Nat) : SummOk Try.prog cod 104 (S_laws_szRecordS k) := by
  refine summ_of (T := T) Try.f104 (G_laws_szRecordS) L_laws_szRecordS false [.tmp 4] 0 D_laws_szRecordS mixed (fun k => Known.of tok eok codOk ?_) (fun k => QuietOk.of ?_) Try.func104 (by kernel_rfl) (by kernel_rfl) (by kernel_rfl) (by kernel_rfl) (by kernel_rfl) ?_ ?_ [] ?_
  · exact all_cons (ok_laws_szRecord k) (all_nil)
  · exact all_cons (fun h r => ⟨rfl, rfl⟩) (all_nil)
  · intro v os r h
    unfold D_laws_szRecordS at h
    split at h <;> first | (cases h; rfl) | cases h
  · refine all_cons ?_ (all_nil)
    · refine ⟨fun vs os => ?_, by kernel_rfl, fun k vs os r h => ?_⟩
      · show C_laws_szRecordS_5.fn 0 vs os = none
        unfold C_laws_szRecordS_5; dsimp only; split <;> rfl
      · change C_laws_szRecordS_5.fn (k + 1) vs os = some r at h
        unfold C_laws_szRecordS_5 at h; dsimp only at h
        split at h
        · exact ⟨4000, (c_laws_szRecordS_5 k _ _ _).trans h⟩
        · cases h
  · intro args os r h
    change (S_laws_szRecordS k).run args os = some r at h
    unfold S_laws_szRecordS at h; dsimp only at h
    split at h
    · exact ⟨Nat.le_of_ble_eq_true (by kernel_rfl), rfl, rfl, k, 4000, (e_laws_szRecordS k _ _).trans h⟩
    · cases h
noncomputable def S_laws_szWorld (k : Nat) : Summ K TyK where
  R := Int
  modes := [.bo, .bo]
  run := fun args objs => match args, objs with
    | [.agg [.lit (.string v1), .lit (.int .i64 v2), .inl true .end v3, .inl true .parcel v4, .lit (.string v5), .inl true .record v6, .inl true .record v7], .lit (.int .i64 v8)], [] => laws_szWorld k (⟨v1, v2, v3, v4, v5, v6, v7⟩ : DWorld) v8
    | _, _ => none
  ret := fun r => (.lit (.int .i64 r), [])
  quiet := true
noncomputable def D_laws_szWorld (v : V) (os : Objs K TyK) : Option (Int) :=
  match v, os with
  | .lit (.int .i64 v1), [] => some v1
  | _, _ => none
noncomputable abbrev G_laws_szWorld (k : Nat) : FuncId → Option (Summ K TyK) := lookT [(102, S_laws_szEndS k), (103, S_laws_szParcelS k), (104, S_laws_szRecordS k)]
noncomputable abbrev L_laws_szWorld : List (Nat × Cut K TyK (Int)) := []
theorem e_laws_szWorld (k : Nat) (a0 : DWorld) (a1 : Int) : run cod T (G_laws_szWorld k) (lam L_laws_szWorld k) (cutsOf L_laws_szWorld) 0 (finish cod T false 0 [.tmp 4] D_laws_szWorld) 4000 false [.code (bodyOf Try.f42)] (envOf [0, 1] [.agg [.lit (.string a0.Key), .lit (.int .i64 a0.Width), .inl true .end a0.Ends, .inl true .parcel a0.Flight, .lit (.string a0.Forged), .inl true .record a0.Given, .inl true .record a0.Taken], .lit (.int .i64 a1)]) [] = laws_szWorld k a0 a1 := by kernel_rfl
theorem ok_laws_szWorld (k : Nat) : SummOk Try.prog cod 42 (S_laws_szWorld k) := by
  refine summ_of (T := T) Try.f42 (G_laws_szWorld) L_laws_szWorld false [.tmp 4] 0 D_laws_szWorld mixed (fun k => Known.of tok eok codOk ?_) (fun k => QuietOk.of ?_) Try.func42 (by kernel_rfl) (by kernel_rfl) (by kernel_rfl) (by kernel_rfl) (by kernel_rfl) ?_ ?_ [] ?_
  · exact all_cons (ok_laws_szEndS k) (all_cons (ok_laws_szParcelS k) (all_cons (ok_laws_szRecordS k) (all_nil)))
  · exact all_cons (fun h r => ⟨rfl, rfl⟩) (all_cons (fun h r => ⟨rfl, rfl⟩) (all_cons (fun h r => ⟨rfl, rfl⟩) (all_nil)))
  · intro v os r h
    unfold D_laws_szWorld at h
    split at h <;> first | (cases h; rfl) | cases h
  · refine all_nil
  · intro args os r h
    change (S_laws_szWorld k).run args os = some r at h
    unfold S_laws_szWorld at h; dsimp only at h
    split at h
    · exact ⟨Nat.le_of_ble_eq_true (by kernel_rfl), rfl, rfl, k, 4000, (e_laws_szWorld k ⟨_, _, _, _, _, _, _⟩ _).trans h⟩
    · cases h
noncomputable def S_laws_toEndS (k : Nat) : Summ K TyK where
  R := List DEnd
  modes := [.bo]
  run := fun args objs => match args, objs with
    | [.inl true .end v1], [] => laws_toEndS k v1
    | _, _ => none
  ret := fun r => (.own 0, [.sl .end r])
  quiet := false
noncomputable def D_laws_toEndS (v : V) (os : Objs K TyK) : Option (List DEnd) :=
  match v, os with
  | .own 0, [.sl .end v1] => some v1
  | _, _ => none
noncomputable def C_laws_toEndS_3 : Cut K TyK (List DEnd) where
  slots := [0, 3, 4]
  fn := fun k vs os => match vs, os with
    | [.inl true .end x0, .own 0, .lit (.int .i64 x1)], [.sl .end x2] => laws_toEndS_l3 k x0 x1 x2
    | _, _ => none
noncomputable abbrev G_laws_toEndS (k : Nat) : FuncId → Option (Summ K TyK) := lookT [(28, S_laws_toEnd k)]
noncomputable abbrev L_laws_toEndS : List (Nat × Cut K TyK (List DEnd)) := [(3, C_laws_toEndS_3)]
theorem c_laws_toEndS_3 (k : Nat) (x0 : List DEnd) (x1 : Int) (x2 : List DEnd) : run cod T (G_laws_toEndS k) (lam L_laws_toEndS k) (cutsOf L_laws_toEndS) 0 (finish cod T false 0 [.tmp 2] D_laws_toEndS) 4000 true (todoAt 3 (bodyOf Try.f106)) (envOf [0, 3, 4] [.inl true .end x0, .own 0, .lit (.int .i64 x1)]) [.sl .end x2] = laws_toEndS_l3 (k + 1) x0 x1 x2 := by kernel_rfl
theorem e_laws_toEndS (k : Nat) (a0 : List DEnd) : run cod T (G_laws_toEndS k) (lam L_laws_toEndS k) (cutsOf L_laws_toEndS) 0 (finish cod T false 0 [.tmp 2] D_laws_toEndS) 4000 false [.code (bodyOf Try.f106)] (envOf [0] [.inl true .end a0]) [] = laws_toEndS k a0 := by kernel_rfl
theorem ok_laws_toEndS (k : Nat) : SummOk Try.prog cod 106 (S_laws_toEndS k) := by
  refine summ_of (T := T) Try.f106 (G_laws_toEndS) L_laws_toEndS false [.tmp 2] 0 D_laws_toEndS mixed (fun k => Known.of tok eok codOk ?_) (fun k => QuietOk.of ?_) Try.func106 (by kernel_rfl) (by kernel_rfl) (by kernel_rfl) (by kernel_rfl) (by kernel_rfl) ?_ ?_ [] ?_
  · exact all_cons (ok_laws_toEnd k) (all_nil)
  · exact all_cons (fun h r => by cases h) (all_nil)
  · intro v os r h
    unfold D_laws_toEndS at h
    split at h <;> first | (cases h; rfl) | cases h
  · refine all_cons ?_ (all_nil)
    · refine ⟨fun vs os => ?_, by kernel_rfl, fun k vs os r h => ?_⟩
      · show C_laws_toEndS_3.fn 0 vs os = none
        unfold C_laws_toEndS_3; dsimp only; split <;> rfl
      · change C_laws_toEndS_3.fn (k + 1) vs os = some r at h
        unfold C_laws_toEndS_3 at h; dsimp only at h
        split at h
        · exact ⟨4000, (c_laws_toEndS_3 k _ _ _).trans h⟩
        · cases h
  · intro args os r h
    change (S_laws_toEndS k).run args os = some r at h
    unfold S_laws_toEndS at h; dsimp only at h
    split at h
    · exact ⟨Nat.le_of_ble_eq_true (by kernel_rfl), rfl, rfl, k, 4000, (e_laws_toEndS k _).trans h⟩
    · cases h
noncomputable def S_laws_toParcel (k : Nat) : Summ K TyK where
  R := DParcel
  modes := [.bo]
  run := fun args objs => match args, objs with
    | [.agg [.lit (.int .i64 v1), .lit (.string v2), .lit (.string v3)]], [] => laws_toParcel k (⟨v1, v2, v3⟩ : DParcel)
    | _, _ => none
  ret := fun r => (.agg [.lit (.int .i64 r.To), .lit (.string r.Sent), .lit (.string r.Bytes)], [])
  quiet := true
noncomputable def D_laws_toParcel (v : V) (os : Objs K TyK) : Option (DParcel) :=
  match v, os with
  | .agg [.lit (.int .i64 v1), .lit (.string v2), .lit (.string v3)], [] => some (⟨v1, v2, v3⟩ : DParcel)
  | _, _ => none
noncomputable abbrev G_laws_toParcel (k : Nat) : FuncId → Option (Summ K TyK) := lookT []
noncomputable abbrev L_laws_toParcel : List (Nat × Cut K TyK (DParcel)) := []
theorem e_laws_toParcel (k : Nat) (a0 : DParcel) : run cod T (G_laws_toParcel k) (lam L_laws_toParcel k) (cutsOf L_laws_toParcel) 0 (finish cod T false 0 [.cell 2 115] D_laws_toParcel) 4000 false [.code (bodyOf Try.f135)] (envOf [0] [.agg [.lit (.int .i64 a0.To), .lit (.string a0.Sent), .lit (.string a0.Bytes)]]) [] = laws_toParcel k a0 := by kernel_rfl
theorem ok_laws_toParcel (k : Nat) : SummOk Try.prog cod 135 (S_laws_toParcel k) := by
  refine summ_of (T := T) Try.f135 (G_laws_toParcel) L_laws_toParcel false [.cell 2 115] 0 D_laws_toParcel mixed (fun k => Known.of tok eok codOk ?_) (fun k => QuietOk.of ?_) Try.func135 (by kernel_rfl) (by kernel_rfl) (by kernel_rfl) (by kernel_rfl) (by kernel_rfl) ?_ ?_ [] ?_
  · exact all_nil
  · exact all_nil
  · intro v os r h
    unfold D_laws_toParcel at h
    split at h <;> first | (cases h; rfl) | cases h
  · refine all_nil
  · intro args os r h
    change (S_laws_toParcel k).run args os = some r at h
    unfold S_laws_toParcel at h; dsimp only at h
    split at h
    · exact ⟨Nat.le_of_ble_eq_true (by kernel_rfl), rfl, rfl, k, 4000, (e_laws_toParcel k ⟨_, _, _⟩).trans h⟩
    · cases h
noncomputable def S_laws_toParcelS (k : Nat) : Summ K TyK where
  R := List DParcel
  modes := [.bo]
  run := fun args objs => match args, objs with
    | [.inl true .parcel v1], [] => laws_toParcelS k v1
    | _, _ => none
  ret := fun r => (.own 0, [.sl .parcel r])
  quiet := false
noncomputable def D_laws_toParcelS (v : V) (os : Objs K TyK) : Option (List DParcel) :=
  match v, os with
  | .own 0, [.sl .parcel v1] => some v1
  | _, _ => none
noncomputable def C_laws_toParcelS_3 : Cut K TyK (List DParcel) where
  slots := [0, 3, 4]
  fn := fun k vs os => match vs, os with
    | [.inl true .parcel x0, .own 0, .lit (.int .i64 x1)], [.sl .parcel x2] => laws_toParcelS_l3 k x0 x1 x2
    | _, _ => none
noncomputable abbrev G_laws_toParcelS (k : Nat) : FuncId → Option (Summ K TyK) := lookT [(135, S_laws_toParcel k)]
noncomputable abbrev L_laws_toParcelS : List (Nat × Cut K TyK (List DParcel)) := [(3, C_laws_toParcelS_3)]
theorem c_laws_toParcelS_3 (k : Nat) (x0 : List DParcel) (x1 : Int) (x2 : List DParcel) : run cod T (G_laws_toParcelS k) (lam L_laws_toParcelS k) (cutsOf L_laws_toParcelS) 0 (finish cod T false 0 [.tmp 2] D_laws_toParcelS) 4000 true (todoAt 3 (bodyOf Try.f107)) (envOf [0, 3, 4] [.inl true .parcel x0, .own 0, .lit (.int .i64 x1)]) [.sl .parcel x2] = laws_toParcelS_l3 (k + 1) x0 x1 x2 := by kernel_rfl
theorem e_laws_toParcelS (k : Nat) (a0 : List DParcel) : run cod T (G_laws_toParcelS k) (lam L_laws_toParcelS k) (cutsOf L_laws_toParcelS) 0 (finish cod T false 0 [.tmp 2] D_laws_toParcelS) 4000 false [.code (bodyOf Try.f107)] (envOf [0] [.inl true .parcel a0]) [] = laws_toParcelS k a0 := by kernel_rfl
theorem ok_laws_toParcelS (k : Nat) : SummOk Try.prog cod 107 (S_laws_toParcelS k) := by
  refine summ_of (T := T) Try.f107 (G_laws_toParcelS) L_laws_toParcelS false [.tmp 2] 0 D_laws_toParcelS mixed (fun k => Known.of tok eok codOk ?_) (fun k => QuietOk.of ?_) Try.func107 (by kernel_rfl) (by kernel_rfl) (by kernel_rfl) (by kernel_rfl) (by kernel_rfl) ?_ ?_ [] ?_
  · exact all_cons (ok_laws_toParcel k) (all_nil)
  · exact all_cons (fun h r => ⟨rfl, rfl⟩) (all_nil)
  · intro v os r h
    unfold D_laws_toParcelS at h
    split at h <;> first | (cases h; rfl) | cases h
  · refine all_cons ?_ (all_nil)
    · refine ⟨fun vs os => ?_, by kernel_rfl, fun k vs os r h => ?_⟩
      · show C_laws_toParcelS_3.fn 0 vs os = none
        unfold C_laws_toParcelS_3; dsimp only; split <;> rfl
      · change C_laws_toParcelS_3.fn (k + 1) vs os = some r at h
        unfold C_laws_toParcelS_3 at h; dsimp only at h
        split at h
        · exact ⟨4000, (c_laws_toParcelS_3 k _ _ _).trans h⟩
        · cases h
  · intro args os r h
    change (S_laws_toParcelS k).run args os = some r at h
    unfold S_laws_toParcelS at h; dsimp only at h
    split at h
    · exact ⟨Nat.le_of_ble_eq_true (by kernel_rfl), rfl, rfl, k, 4000, (e_laws_toParcelS k _).trans h⟩
    · cases h
noncomputable def S_laws_toRecord (k : Nat) : Summ K TyK where
  R := DRecord
  modes := [.bo]
  run := fun args objs => match args, objs with
    | [.agg [.lit (.int .i64 v1), .lit (.int .i64 v2), .lit (.int .i64 v3), .lit (.string v4)]], [] => laws_toRecord k (⟨v1, v2, v3, v4⟩ : DRecord)
    | _, _ => none
  ret := fun r => (.agg [.lit (.int .i64 r.From), .lit (.int .i64 r.A), .lit (.int .i64 r.B), .lit (.string r.Text)], [])
  quiet := true
noncomputable def D_laws_toRecord (v : V) (os : Objs K TyK) : Option (DRecord) :=
  match v, os with
  | .agg [.lit (.int .i64 v1), .lit (.int .i64 v2), .lit (.int .i64 v3), .lit (.string v4)], [] => some (⟨v1, v2, v3, v4⟩ : DRecord)
  | _, _ => none
noncomputable abbrev G_laws_toRecord (k : Nat) : FuncId → Option (Summ K TyK) := lookT []
noncomputable abbrev L_laws_toRecord : List (Nat × Cut K TyK (DRecord)) := []
theorem e_laws_toRecord (k : Nat) (a0 : DRecord) : run cod T (G_laws_toRecord k) (lam L_laws_toRecord k) (cutsOf L_laws_toRecord) 0 (finish cod T false 0 [.cell 2 122] D_laws_toRecord) 4000 false [.code (bodyOf Try.f136)] (envOf [0] [.agg [.lit (.int .i64 a0.From), .lit (.int .i64 a0.A), .lit (.int .i64 a0.B), .lit (.string a0.Text)]]) [] = laws_toRecord k a0 := by kernel_rfl
theorem ok_laws_toRecord (k : Nat) : SummOk Try.prog cod 136 (S_laws_toRecord k) := by
  refine summ_of (T := T) Try.f136 (G_laws_toRecord) L_laws_toRecord false [.cell 2 122] 0 D_laws_toRecord mixed (fun k => Known.of tok eok codOk ?_) (fun k => QuietOk.of ?_) Try.func136 (by kernel_rfl) (by kernel_rfl) (by kernel_rfl) (by kernel_rfl) (by kernel_rfl) ?_ ?_ [] ?_
  · exact all_nil
  · exact all_nil
  · intro v os r h
    unfold D_laws_toRecord at h
    split at h <;> first | (cases h; rfl) | cases h
  · refine all_nil
  · intro args os r h
    change (S_laws_toRecord k).run args os = some r at h
    unfold S_laws_toRecord at h; dsimp only at h
    split at h
    · exact ⟨Nat.le_of_ble_eq_true (by kernel_rfl), rfl, rfl, k, 4000, (e_laws_toRecord k ⟨_, _, _, _⟩).trans h⟩
    · cases h
noncomputable def S_laws_toRecordS (k : Nat) : Summ K TyK where
  R := List DRecord
  modes := [.bo]
  run := fun args objs => match args, objs with
    | [.inl true .record v1], [] => laws_toRecordS k v1
    | _, _ => none
  ret := fun r => (.own 0, [.sl .record r])
  quiet := false
noncomputable def D_laws_toRecordS (v : V) (os : Objs K TyK) : Option (List DRecord) :=
  match v, os with
  | .own 0, [.sl .record v1] => some v1
  | _, _ => none
noncomputable def C_laws_toRecordS_3 : Cut K TyK (List DRecord) where
  slots := [0, 3, 4]
  fn := fun k vs os => match vs, os with
    | [.inl true .record x0, .own 0, .lit (.int .i64 x1)], [.sl .record x2] => laws_toRecordS_l3 k x0 x1 x2
    | _, _ => none
noncomputable abbrev G_laws_toRecordS (k : Nat) : FuncId → Option (Summ K TyK) := lookT [(136, S_laws_toRecord k)]
noncomputable abbrev L_laws_toRecordS : List (Nat × Cut K TyK (List DRecord)) := [(3, C_laws_toRecordS_3)]
theorem c_laws_toRecordS_3 (k : Nat) (x0 : List DRecord) (x1 : Int) (x2 : List DRecord) : run cod T (G_laws_toRecordS k) (lam L_laws_toRecordS k) (cutsOf L_laws_toRecordS) 0 (finish cod T false 0 [.tmp 2] D_laws_toRecordS) 4000 true (todoAt 3 (bodyOf Try.f108)) (envOf [0, 3, 4] [.inl true .record x0, .own 0, .lit (.int .i64 x1)]) [.sl .record x2] = laws_toRecordS_l3 (k + 1) x0 x1 x2 := by kernel_rfl
theorem e_laws_toRecordS (k : Nat) (a0 : List DRecord) : run cod T (G_laws_toRecordS k) (lam L_laws_toRecordS k) (cutsOf L_laws_toRecordS) 0 (finish cod T false 0 [.tmp 2] D_laws_toRecordS) 4000 false [.code (bodyOf Try.f108)] (envOf [0] [.inl true .record a0]) [] = laws_toRecordS k a0 := by kernel_rfl
theorem ok_laws_toRecordS (k : Nat) : SummOk Try.prog cod 108 (S_laws_toRecordS k) := by
  refine summ_of (T := T) Try.f108 (G_laws_toRecordS) L_laws_toRecordS false [.tmp 2] 0 D_laws_toRecordS mixed (fun k => Known.of tok eok codOk ?_) (fun k => QuietOk.of ?_) Try.func108 (by kernel_rfl) (by kernel_rfl) (by kernel_rfl) (by kernel_rfl) (by kernel_rfl) ?_ ?_ [] ?_
  · exact all_cons (ok_laws_toRecord k) (all_nil)
  · exact all_cons (fun h r => ⟨rfl, rfl⟩) (all_nil)
  · intro v os r h
    unfold D_laws_toRecordS at h
    split at h <;> first | (cases h; rfl) | cases h
  · refine all_cons ?_ (all_nil)
    · refine ⟨fun vs os => ?_, by kernel_rfl, fun k vs os r h => ?_⟩
      · show C_laws_toRecordS_3.fn 0 vs os = none
        unfold C_laws_toRecordS_3; dsimp only; split <;> rfl
      · change C_laws_toRecordS_3.fn (k + 1) vs os = some r at h
        unfold C_laws_toRecordS_3 at h; dsimp only at h
        split at h
        · exact ⟨4000, (c_laws_toRecordS_3 k _ _ _).trans h⟩
        · cases h
  · intro args os r h
    change (S_laws_toRecordS k).run args os = some r at h
    unfold S_laws_toRecordS at h; dsimp only at h
    split at h
    · exact ⟨Nat.le_of_ble_eq_true (by kernel_rfl), rfl, rfl, k, 4000, (e_laws_toRecordS k _).trans h⟩
    · cases h
noncomputable def S_laws_toWorld (k : Nat) : Summ K TyK where
  R := DWorld
  modes := [.bo]
  run := fun args objs => match args, objs with
    | [.agg [.lit (.string v1), .lit (.int .i64 v2), .inl true .end v3, .inl true .parcel v4, .lit (.string v5), .inl true .record v6, .inl true .record v7]], [] => laws_toWorld k (⟨v1, v2, v3, v4, v5, v6, v7⟩ : DWorld)
    | _, _ => none
  ret := fun r => (.agg [.lit (.string r.Key), .lit (.int .i64 r.Width), .own 0, .own 1, .lit (.string r.Forged), .own 2, .own 3], [.sl .end r.Ends, .sl .parcel r.Flight, .sl .record r.Given, .sl .record r.Taken])
  quiet := false
noncomputable def D_laws_toWorld (v : V) (os : Objs K TyK) : Option (DWorld) :=
  match v, os with
  | .agg [.lit (.string v1), .lit (.int .i64 v2), .own 0, .own 1, .lit (.string v3), .own 2, .own 3], [.sl .end v4, .sl .parcel v5, .sl .record v6, .sl .record v7] => some (⟨v1, v2, v4, v5, v3, v6, v7⟩ : DWorld)
  | _, _ => none
noncomputable abbrev G_laws_toWorld (k : Nat) : FuncId → Option (Summ K TyK) := lookT [(106, S_laws_toEndS k), (107, S_laws_toParcelS k), (108, S_laws_toRecordS k)]
noncomputable abbrev L_laws_toWorld : List (Nat × Cut K TyK (DWorld)) := []
theorem e_laws_toWorld (k : Nat) (a0 : DWorld) : run cod T (G_laws_toWorld k) (lam L_laws_toWorld k) (cutsOf L_laws_toWorld) 0 (finish cod T false 0 [.cell 2 62] D_laws_toWorld) 4000 false [.code (bodyOf Try.f44)] (envOf [0] [.agg [.lit (.string a0.Key), .lit (.int .i64 a0.Width), .inl true .end a0.Ends, .inl true .parcel a0.Flight, .lit (.string a0.Forged), .inl true .record a0.Given, .inl true .record a0.Taken]]) [] = laws_toWorld k a0 := by kernel_rfl
theorem ok_laws_toWorld (k : Nat) : SummOk Try.prog cod 44 (S_laws_toWorld k) := by
  refine summ_of (T := T) Try.f44 (G_laws_toWorld) L_laws_toWorld false [.cell 2 62] 0 D_laws_toWorld mixed (fun k => Known.of tok eok codOk ?_) (fun k => QuietOk.of ?_) Try.func44 (by kernel_rfl) (by kernel_rfl) (by kernel_rfl) (by kernel_rfl) (by kernel_rfl) ?_ ?_ [] ?_
  · exact all_cons (ok_laws_toEndS k) (all_cons (ok_laws_toParcelS k) (all_cons (ok_laws_toRecordS k) (all_nil)))
  · exact all_cons (fun h r => by cases h) (all_cons (fun h r => by cases h) (all_cons (fun h r => by cases h) (all_nil)))
  · intro v os r h
    unfold D_laws_toWorld at h
    split at h <;> first | (cases h; rfl) | cases h
  · refine all_nil
  · intro args os r h
    change (S_laws_toWorld k).run args os = some r at h
    unfold S_laws_toWorld at h; dsimp only at h
    split at h
    · exact ⟨Nat.le_of_ble_eq_true (by kernel_rfl), rfl, rfl, k, 4000, (e_laws_toWorld k ⟨_, _, _, _, _, _, _⟩).trans h⟩
    · cases h
noncomputable def S_spec_l7RecordsOk (k : Nat) : Summ K TyK where
  R := Bool
  modes := [.bo]
  run := fun args objs => match args, objs with
    | [.inl true .record v1], [] => spec_l7RecordsOk k v1
    | _, _ => none
  ret := fun r => (.lit (.bool r), [])
  quiet := true
noncomputable def D_spec_l7RecordsOk (v : V) (os : Objs K TyK) : Option (Bool) :=
  match v, os with
  | .lit (.bool v1), [] => some v1
  | _, _ => none
noncomputable def C_spec_l7RecordsOk_2 : Cut K TyK (Bool) where
  slots := [0, 3]
  fn := fun k vs os => match vs, os with
    | [.inl true .record x0, .lit (.int .i64 x1)], [] => spec_l7RecordsOk_l2 k x0 x1
    | _, _ => none
noncomputable abbrev G_spec_l7RecordsOk (k : Nat) : FuncId → Option (Summ K TyK) := lookT [(78, S_spec_l1In k)]
noncomputable abbrev L_spec_l7RecordsOk : List (Nat × Cut K TyK (Bool)) := [(2, C_spec_l7RecordsOk_2)]
theorem c_spec_l7RecordsOk_2 (k : Nat) (x0 : List DRecord) (x1 : Int) : run cod T (G_spec_l7RecordsOk k) (lam L_spec_l7RecordsOk k) (cutsOf L_spec_l7RecordsOk) 0 (finish cod T false 0 [.tmp 2] D_spec_l7RecordsOk) 4000 true (todoAt 2 (bodyOf Try.f105)) (envOf [0, 3] [.inl true .record x0, .lit (.int .i64 x1)]) [] = spec_l7RecordsOk_l2 (k + 1) x0 x1 := by kernel_rfl
theorem e_spec_l7RecordsOk (k : Nat) (a0 : List DRecord) : run cod T (G_spec_l7RecordsOk k) (lam L_spec_l7RecordsOk k) (cutsOf L_spec_l7RecordsOk) 0 (finish cod T false 0 [.tmp 2] D_spec_l7RecordsOk) 4000 false [.code (bodyOf Try.f105)] (envOf [0] [.inl true .record a0]) [] = spec_l7RecordsOk k a0 := by kernel_rfl
theorem ok_spec_l7RecordsOk (k : Nat) : SummOk Try.prog cod 105 (S_spec_l7RecordsOk k) := by
  refine summ_of (T := T) Try.f105 (G_spec_l7RecordsOk) L_spec_l7RecordsOk false [.tmp 2] 0 D_spec_l7RecordsOk mixed (fun k => Known.of tok eok codOk ?_) (fun k => QuietOk.of ?_) Try.func105 (by kernel_rfl) (by kernel_rfl) (by kernel_rfl) (by kernel_rfl) (by kernel_rfl) ?_ ?_ [] ?_
  · exact all_cons (ok_spec_l1In k) (all_nil)
  · exact all_cons (fun h r => ⟨rfl, rfl⟩) (all_nil)
  · intro v os r h
    unfold D_spec_l7RecordsOk at h
    split at h <;> first | (cases h; rfl) | cases h
  · refine all_cons ?_ (all_nil)
    · refine ⟨fun vs os => ?_, by kernel_rfl, fun k vs os r h => ?_⟩
      · show C_spec_l7RecordsOk_2.fn 0 vs os = none
        unfold C_spec_l7RecordsOk_2; dsimp only; split <;> rfl
      · change C_spec_l7RecordsOk_2.fn (k + 1) vs os = some r at h
        unfold C_spec_l7RecordsOk_2 at h; dsimp only at h
        split at h
        · exact ⟨4000, (c_spec_l7RecordsOk_2 k _ _).trans h⟩
        · cases h
  · intro args os r h
    change (S_spec_l7RecordsOk k).run args os = some r at h
    unfold S_spec_l7RecordsOk at h; dsimp only at h
    split at h
    · exact ⟨Nat.le_of_ble_eq_true (by kernel_rfl), rfl, rfl, k, 4000, (e_spec_l7RecordsOk k _).trans h⟩
    · cases h
noncomputable def S_spec_ValidWorld (k : Nat) : Summ K TyK where
  R := Bool
  modes := [.bo]
  run := fun args objs => match args, objs with
    | [.agg [.lit (.string v1), .lit (.int .i64 v2), .inl true .end v3, .inl true .parcel v4, .lit (.string v5), .inl true .record v6, .inl true .record v7]], [] => spec_ValidWorld k (⟨v1, v2, v3, v4, v5, v6, v7⟩ : DWorld)
    | _, _ => none
  ret := fun r => (.lit (.bool r), [])
  quiet := true
noncomputable def D_spec_ValidWorld (v : V) (os : Objs K TyK) : Option (Bool) :=
  match v, os with
  | .lit (.bool v1), [] => some v1
  | _, _ => none
noncomputable def C_spec_ValidWorld_4 : Cut K TyK (Bool) where
  slots := [1, 3]
  fn := fun k vs os => match vs, os with
    | [.ref 0 0, .lit (.int .i64 x0)], [.box [.lit (.string x1), .lit (.int .i64 x2), .inl true .end x3, .inl true .parcel x4, .lit (.string x5), .inl true .record x6, .inl true .record x7]] => spec_ValidWorld_l4 k x0 x1 x2 x3 x4 x5 x6 x7
    | _, _ => none
noncomputable def C_spec_ValidWorld_9 : Cut K TyK (Bool) where
  slots := [1, 4]
  fn := fun k vs os => match vs, os with
    | [.ref 0 0, .lit (.int .i64 x0)], [.box [.lit (.string x1), .lit (.int .i64 x2), .inl true .end x3, .inl true .parcel x4, .lit (.string x5), .inl true .record x6, .inl true .record x7]] => spec_ValidWorld_l9 k x0 x1 x2 x3 x4 x5 x6 x7
    | _, _ => none
noncomputable abbrev G_spec_ValidWorld (k : Nat) : FuncId → Option (Summ K TyK) := lookT [(78, S_spec_l1In k), (27, S_spec_ValidEnd k), (105, S_spec_l7RecordsOk k)]
noncomputable abbrev L_spec_ValidWorld : List (Nat × Cut K TyK (Bool)) := [(4, C_spec_ValidWorld_4), (9, C_spec_ValidWorld_9)]
theorem c_spec_ValidWorld_4 (k : Nat) (x0 : Int) (x1 : ByteArray) (x2 : Int) (x3 : List DEnd) (x4 : List DParcel) (x5 : ByteArray) (x6 : List DRecord) (x7 : List DRecord) : run cod T (G_spec_ValidWorld k) (lam L_spec_ValidWorld k) (cutsOf L_spec_ValidWorld) 0 (finish cod T false 0 [.tmp 2] D_spec_ValidWorld) 4000 true (todoAt 4 (bodyOf Try.f43)) (envOf [1, 3] [.ref 0 0, .lit (.int .i64 x0)]) [.box [.lit (.string x1), .lit (.int .i64 x2), .inl true .end x3, .inl true .parcel x4, .lit (.string x5), .inl true .record x6, .inl true .record x7]] = spec_ValidWorld_l4 (k + 1) x0 x1 x2 x3 x4 x5 x6 x7 := by kernel_rfl
theorem c_spec_ValidWorld_9 (k : Nat) (x0 : Int) (x1 : ByteArray) (x2 : Int) (x3 : List DEnd) (x4 : List DParcel) (x5 : ByteArray) (x6 : List DRecord) (x7 : List DRecord) : run cod T (G_spec_ValidWorld k) (lam L_spec_ValidWorld k) (cutsOf L_spec_ValidWorld) 0 (finish cod T false 0 [.tmp 2] D_spec_ValidWorld) 4000 true (todoAt 9 (bodyOf Try.f43)) (envOf [1, 4] [.ref 0 0, .lit (.int .i64 x0)]) [.box [.lit (.string x1), .lit (.int .i64 x2), .inl true .end x3, .inl true .parcel x4, .lit (.string x5), .inl true .record x6, .inl true .record x7]] = spec_ValidWorld_l9 (k + 1) x0 x1 x2 x3 x4 x5 x6 x7 := by kernel_rfl
theorem e_spec_ValidWorld (k : Nat) (a0 : DWorld) : run cod T (G_spec_ValidWorld k) (lam L_spec_ValidWorld k) (cutsOf L_spec_ValidWorld) 0 (finish cod T false 0 [.tmp 2] D_spec_ValidWorld) 4000 false [.code (bodyOf Try.f43)] (envOf [0] [.agg [.lit (.string a0.Key), .lit (.int .i64 a0.Width), .inl true .end a0.Ends, .inl true .parcel a0.Flight, .lit (.string a0.Forged), .inl true .record a0.Given, .inl true .record a0.Taken]]) [] = spec_ValidWorld k a0 := by kernel_rfl
theorem ok_spec_ValidWorld (k : Nat) : SummOk Try.prog cod 43 (S_spec_ValidWorld k) := by
  refine summ_of (T := T) Try.f43 (G_spec_ValidWorld) L_spec_ValidWorld false [.tmp 2] 0 D_spec_ValidWorld mixed (fun k => Known.of tok eok codOk ?_) (fun k => QuietOk.of ?_) Try.func43 (by kernel_rfl) (by kernel_rfl) (by kernel_rfl) (by kernel_rfl) (by kernel_rfl) ?_ ?_ [] ?_
  · exact all_cons (ok_spec_l1In k) (all_cons (ok_spec_ValidEnd k) (all_cons (ok_spec_l7RecordsOk k) (all_nil)))
  · exact all_cons (fun h r => ⟨rfl, rfl⟩) (all_cons (fun h r => ⟨rfl, rfl⟩) (all_cons (fun h r => ⟨rfl, rfl⟩) (all_nil)))
  · intro v os r h
    unfold D_spec_ValidWorld at h
    split at h <;> first | (cases h; rfl) | cases h
  · refine all_cons ?_ (all_cons ?_ (all_nil))
    · refine ⟨fun vs os => ?_, by kernel_rfl, fun k vs os r h => ?_⟩
      · show C_spec_ValidWorld_4.fn 0 vs os = none
        unfold C_spec_ValidWorld_4; dsimp only; split <;> rfl
      · change C_spec_ValidWorld_4.fn (k + 1) vs os = some r at h
        unfold C_spec_ValidWorld_4 at h; dsimp only at h
        split at h
        · exact ⟨4000, (c_spec_ValidWorld_4 k _ _ _ _ _ _ _ _).trans h⟩
        · cases h
    · refine ⟨fun vs os => ?_, by kernel_rfl, fun k vs os r h => ?_⟩
      · show C_spec_ValidWorld_9.fn 0 vs os = none
        unfold C_spec_ValidWorld_9; dsimp only; split <;> rfl
      · change C_spec_ValidWorld_9.fn (k + 1) vs os = some r at h
        unfold C_spec_ValidWorld_9 at h; dsimp only at h
        split at h
        · exact ⟨4000, (c_spec_ValidWorld_9 k _ _ _ _ _ _ _ _).trans h⟩
        · cases h
  · intro args os r h
    change (S_spec_ValidWorld k).run args os = some r at h
    unfold S_spec_ValidWorld at h; dsimp only at h
    split at h
    · exact ⟨Nat.le_of_ble_eq_true (by kernel_rfl), rfl, rfl, k, 4000, (e_spec_ValidWorld k ⟨_, _, _, _, _, _, _⟩).trans h⟩
    · cases h
noncomputable def S_impl_ValidWorld (k : Nat) : Summ K TyK where
  R := Bool
  modes := [.bo]
  run := fun args objs => match args, objs with
    | [.agg [.lit (.string v1), .lit (.int .i64 v2), .inl true .end v3, .inl true .parcel v4, .lit (.string v5), .inl true .record v6, .inl true .record v7]], [] => impl_ValidWorld k (⟨v1, v2, v3, v4, v5, v6, v7⟩ : DWorld)
    | _, _ => none
  ret := fun r => (.lit (.bool r), [])
  quiet := true
noncomputable def D_impl_ValidWorld (v : V) (os : Objs K TyK) : Option (Bool) :=
  match v, os with
  | .lit (.bool v1), [] => some v1
  | _, _ => none
noncomputable def C_impl_ValidWorld_4 : Cut K TyK (Bool) where
  slots := [1, 48, 49, 50]
  fn := fun k vs os => match vs, os with
    | [.ref 0 0, .inl true .end x0, .lit (.int .i64 x1), .lit (.int .i64 x2)], [.box [.lit (.string x3), .lit (.int .i64 x4), .inl true .end x5, .inl true .parcel x6, .lit (.string x7), .inl true .record x8, .inl true .record x9]] => impl_ValidWorld_l4 k x0 x1 x2 x3 x4 x5 x6 x7 x8 x9
    | _, _ => none
noncomputable def C_impl_ValidWorld_10 : Cut K TyK (Bool) where
  slots := [1, 67, 68, 69]
  fn := fun k vs os => match vs, os with
    | [.ref 0 0, .inl true .parcel x0, .lit (.int .i64 x1), .lit (.int .i64 x2)], [.box [.lit (.string x3), .lit (.int .i64 x4), .inl true .end x5, .inl true .parcel x6, .lit (.string x7), .inl true .record x8, .inl true .record x9]] => impl_ValidWorld_l10 k x0 x1 x2 x3 x4 x5 x6 x7 x8 x9
    | _, _ => none
noncomputable def C_impl_ValidWorld_16 : Cut K TyK (Bool) where
  slots := [98, 99, 100]
  fn := fun k vs os => match vs, os with
    | [.own 0, .lit (.int .i64 x0), .lit (.int .i64 x1)], [.sl .lrecord x2] => impl_ValidWorld_l16 k x0 x1 x2
    | _, _ => none
noncomputable def C_impl_ValidWorld_19 : Cut K TyK (Bool) where
  slots := [98, 99, 100, 104, 105, 106]
  fn := fun k vs os => match vs, os with
    | [.own 0, .lit (.int .i64 x0), .lit (.int .i64 x1), .inl true .record x2, .lit (.int .i64 x3), .lit (.int .i64 x4)], [.sl .lrecord x5] => impl_ValidWorld_l19 k x0 x1 x2 x3 x4 x5
    | _, _ => none
noncomputable abbrev G_impl_ValidWorld (k : Nat) : FuncId → Option (Summ K TyK) := lookT [(29, S_impl_ValidEnd k), (76, S_impl_in k)]
noncomputable abbrev L_impl_ValidWorld : List (Nat × Cut K TyK (Bool)) := [(4, C_impl_ValidWorld_4), (10, C_impl_ValidWorld_10), (16, C_impl_ValidWorld_16), (19, C_impl_ValidWorld_19)]
theorem c_impl_ValidWorld_4 (k : Nat) (x0 : List DEnd) (x1 : Int) (x2 : Int) (x3 : ByteArray) (x4 : Int) (x5 : List DEnd) (x6 : List DParcel) (x7 : ByteArray) (x8 : List DRecord) (x9 : List DRecord) : run cod T (G_impl_ValidWorld k) (lam L_impl_ValidWorld k) (cutsOf L_impl_ValidWorld) 0 (finish cod T false 0 [.tmp 2] D_impl_ValidWorld) 4000 true (todoAt 4 (bodyOf Try.f45)) (envOf [1, 48, 49, 50] [.ref 0 0, .inl true .end x0, .lit (.int .i64 x1), .lit (.int .i64 x2)]) [.box [.lit (.string x3), .lit (.int .i64 x4), .inl true .end x5, .inl true .parcel x6, .lit (.string x7), .inl true .record x8, .inl true .record x9]] = impl_ValidWorld_l4 (k + 1) x0 x1 x2 x3 x4 x5 x6 x7 x8 x9 := by kernel_rfl
theorem c_impl_ValidWorld_10 (k : Nat) (x0 : List DParcel) (x1 : Int) (x2 : Int) (x3 : ByteArray) (x4 : Int) (x5 : List DEnd) (x6 : List DParcel) (x7 : ByteArray) (x8 : List DRecord) (x9 : List DRecord) : run cod T (G_impl_ValidWorld k) (lam L_impl_ValidWorld k) (cutsOf L_impl_ValidWorld) 0 (finish cod T false 0 [.tmp 2] D_impl_ValidWorld) 4000 true (todoAt 10 (bodyOf Try.f45)) (envOf [1, 67, 68, 69] [.ref 0 0, .inl true .parcel x0, .lit (.int .i64 x1), .lit (.int .i64 x2)]) [.box [.lit (.string x3), .lit (.int .i64 x4), .inl true .end x5, .inl true .parcel x6, .lit (.string x7), .inl true .record x8, .inl true .record x9]] = impl_ValidWorld_l10 (k + 1) x0 x1 x2 x3 x4 x5 x6 x7 x8 x9 := by kernel_rfl
theorem c_impl_ValidWorld_16 (k : Nat) (x0 : Int) (x1 : Int) (x2 : List (List DRecord)) : run cod T (G_impl_ValidWorld k) (lam L_impl_ValidWorld k) (cutsOf L_impl_ValidWorld) 0 (finish cod T false 0 [.tmp 2] D_impl_ValidWorld) 4000 true (todoAt 16 (bodyOf Try.f45)) (envOf [98, 99, 100] [.own 0, .lit (.int .i64 x0), .lit (.int .i64 x1)]) [.sl .lrecord x2] = impl_ValidWorld_l16 (k + 1) x0 x1 x2 := by kernel_rfl
theorem c_impl_ValidWorld_19 (k : Nat) (x0 : Int) (x1 : Int) (x2 : List DRecord) (x3 : Int) (x4 : Int) (x5 : List (List DRecord)) : run cod T (G_impl_ValidWorld k) (lam L_impl_ValidWorld k) (cutsOf L_impl_ValidWorld) 0 (finish cod T false 0 [.tmp 2] D_impl_ValidWorld) 4000 true (todoAt 19 (bodyOf Try.f45)) (envOf [98, 99, 100, 104, 105, 106] [.own 0, .lit (.int .i64 x0), .lit (.int .i64 x1), .inl true .record x2, .lit (.int .i64 x3), .lit (.int .i64 x4)]) [.sl .lrecord x5] = impl_ValidWorld_l19 (k + 1) x0 x1 x2 x3 x4 x5 := by kernel_rfl
theorem e_impl_ValidWorld (k : Nat) (a0 : DWorld) : run cod T (G_impl_ValidWorld k) (lam L_impl_ValidWorld k) (cutsOf L_impl_ValidWorld) 0 (finish cod T false 0 [.tmp 2] D_impl_ValidWorld) 4000 false [.code (bodyOf Try.f45)] (envOf [0] [.agg [.lit (.string a0.Key), .lit (.int .i64 a0.Width), .inl true .end a0.Ends, .inl true .parcel a0.Flight, .lit (.string a0.Forged), .inl true .record a0.Given, .inl true .record a0.Taken]]) [] = impl_ValidWorld k a0 := by kernel_rfl
theorem ok_impl_ValidWorld (k : Nat) : SummOk Try.prog cod 45 (S_impl_ValidWorld k) := by
  refine summ_of (T := T) Try.f45 (G_impl_ValidWorld) L_impl_ValidWorld false [.tmp 2] 0 D_impl_ValidWorld mixed (fun k => Known.of tok eok codOk ?_) (fun k => QuietOk.of ?_) Try.func45 (by kernel_rfl) (by kernel_rfl) (by kernel_rfl) (by kernel_rfl) (by kernel_rfl) ?_ ?_ [] ?_
  · exact all_cons (ok_impl_ValidEnd k) (all_cons (ok_impl_in k) (all_nil))
  · exact all_cons (fun h r => ⟨rfl, rfl⟩) (all_cons (fun h r => ⟨rfl, rfl⟩) (all_nil))
  · intro v os r h
    unfold D_impl_ValidWorld at h
    split at h <;> first | (cases h; rfl) | cases h
  · refine all_cons ?_ (all_cons ?_ (all_cons ?_ (all_cons ?_ (all_nil))))
    · refine ⟨fun vs os => ?_, by kernel_rfl, fun k vs os r h => ?_⟩
      · show C_impl_ValidWorld_4.fn 0 vs os = none
        unfold C_impl_ValidWorld_4; dsimp only; split <;> rfl
      · change C_impl_ValidWorld_4.fn (k + 1) vs os = some r at h
        unfold C_impl_ValidWorld_4 at h; dsimp only at h
        split at h
        · exact ⟨4000, (c_impl_ValidWorld_4 k _ _ _ _ _ _ _ _ _ _).trans h⟩
        · cases h
    · refine ⟨fun vs os => ?_, by kernel_rfl, fun k vs os r h => ?_⟩
      · show C_impl_ValidWorld_10.fn 0 vs os = none
        unfold C_impl_ValidWorld_10; dsimp only; split <;> rfl
      · change C_impl_ValidWorld_10.fn (k + 1) vs os = some r at h
        unfold C_impl_ValidWorld_10 at h; dsimp only at h
        split at h
        · exact ⟨4000, (c_impl_ValidWorld_10 k _ _ _ _ _ _ _ _ _ _).trans h⟩
        · cases h
    · refine ⟨fun vs os => ?_, by kernel_rfl, fun k vs os r h => ?_⟩
      · show C_impl_ValidWorld_16.fn 0 vs os = none
        unfold C_impl_ValidWorld_16; dsimp only; split <;> rfl
      · change C_impl_ValidWorld_16.fn (k + 1) vs os = some r at h
        unfold C_impl_ValidWorld_16 at h; dsimp only at h
        split at h
        · exact ⟨4000, (c_impl_ValidWorld_16 k _ _ _).trans h⟩
        · cases h
    · refine ⟨fun vs os => ?_, by kernel_rfl, fun k vs os r h => ?_⟩
      · show C_impl_ValidWorld_19.fn 0 vs os = none
        unfold C_impl_ValidWorld_19; dsimp only; split <;> rfl
      · change C_impl_ValidWorld_19.fn (k + 1) vs os = some r at h
        unfold C_impl_ValidWorld_19 at h; dsimp only at h
        split at h
        · exact ⟨4000, (c_impl_ValidWorld_19 k _ _ _ _ _ _).trans h⟩
        · cases h
  · intro args os r h
    change (S_impl_ValidWorld k).run args os = some r at h
    unfold S_impl_ValidWorld at h; dsimp only at h
    split at h
    · exact ⟨Nat.le_of_ble_eq_true (by kernel_rfl), rfl, rfl, k, 4000, (e_impl_ValidWorld k ⟨_, _, _, _, _, _, _⟩).trans h⟩
    · cases h
noncomputable def S_spec_Idle (k : Nat) : Summ K TyK where
  R := Bool
  modes := [.bo]
  run := fun args objs => match args, objs with
    | [.agg [.lit (.string v1), .lit (.int .i64 v2), .inl true .end v3, .inl true .parcel v4, .lit (.string v5), .inl true .record v6, .inl true .record v7]], [] => spec_Idle k (⟨v1, v2, v3, v4, v5, v6, v7⟩ : DWorld)
    | _, _ => none
  ret := fun r => (.lit (.bool r), [])
  quiet := true
noncomputable def D_spec_Idle (v : V) (os : Objs K TyK) : Option (Bool) :=
  match v, os with
  | .lit (.bool v1), [] => some v1
  | _, _ => none
noncomputable def C_spec_Idle_4 : Cut K TyK (Bool) where
  slots := [1, 3]
  fn := fun k vs os => match vs, os with
    | [.ref 0 0, .lit (.int .i64 x0)], [.box [.lit (.string x1), .lit (.int .i64 x2), .inl true .end x3, .inl true .parcel x4, .lit (.string x5), .inl true .record x6, .inl true .record x7]] => spec_Idle_l4 k x0 x1 x2 x3 x4 x5 x6 x7
    | _, _ => none
noncomputable abbrev G_spec_Idle (k : Nat) : FuncId → Option (Summ K TyK) := lookT [(43, S_spec_ValidWorld k)]
noncomputable abbrev L_spec_Idle : List (Nat × Cut K TyK (Bool)) := [(4, C_spec_Idle_4)]
theorem c_spec_Idle_4 (k : Nat) (x0 : Int) (x1 : ByteArray) (x2 : Int) (x3 : List DEnd) (x4 : List DParcel) (x5 : ByteArray) (x6 : List DRecord) (x7 : List DRecord) : run cod T (G_spec_Idle k) (lam L_spec_Idle k) (cutsOf L_spec_Idle) 0 (finish cod T false 0 [.tmp 2] D_spec_Idle) 4000 true (todoAt 4 (bodyOf Try.f46)) (envOf [1, 3] [.ref 0 0, .lit (.int .i64 x0)]) [.box [.lit (.string x1), .lit (.int .i64 x2), .inl true .end x3, .inl true .parcel x4, .lit (.string x5), .inl true .record x6, .inl true .record x7]] = spec_Idle_l4 (k + 1) x0 x1 x2 x3 x4 x5 x6 x7 := by kernel_rfl
theorem e_spec_Idle (k : Nat) (a0 : DWorld) : run cod T (G_spec_Idle k) (lam L_spec_Idle k) (cutsOf L_spec_Idle) 0 (finish cod T false 0 [.tmp 2] D_spec_Idle) 4000 false [.code (bodyOf Try.f46)] (envOf [0] [.agg [.lit (.string a0.Key), .lit (.int .i64 a0.Width), .inl true .end a0.Ends, .inl true .parcel a0.Flight, .lit (.string a0.Forged), .inl true .record a0.Given, .inl true .record a0.Taken]]) [] = spec_Idle k a0 := by kernel_rfl
theorem ok_spec_Idle (k : Nat) : SummOk Try.prog cod 46 (S_spec_Idle k) := by
  refine summ_of (T := T) Try.f46 (G_spec_Idle) L_spec_Idle false [.tmp 2] 0 D_spec_Idle mixed (fun k => Known.of tok eok codOk ?_) (fun k => QuietOk.of ?_) Try.func46 (by kernel_rfl) (by kernel_rfl) (by kernel_rfl) (by kernel_rfl) (by kernel_rfl) ?_ ?_ [] ?_
  · exact all_cons (ok_spec_ValidWorld k) (all_nil)
  · exact all_cons (fun h r => ⟨rfl, rfl⟩) (all_nil)
  · intro v os r h
    unfold D_spec_Idle at h
    split at h <;> first | (cases h; rfl) | cases h
  · refine all_cons ?_ (all_nil)
    · refine ⟨fun vs os => ?_, by kernel_rfl, fun k vs os r h => ?_⟩
      · show C_spec_Idle_4.fn 0 vs os = none
        unfold C_spec_Idle_4; dsimp only; split <;> rfl
      · change C_spec_Idle_4.fn (k + 1) vs os = some r at h
        unfold C_spec_Idle_4 at h; dsimp only at h
        split at h
        · exact ⟨4000, (c_spec_Idle_4 k _ _ _ _ _ _ _ _).trans h⟩
        · cases h
  · intro args os r h
    change (S_spec_Idle k).run args os = some r at h
    unfold S_spec_Idle at h; dsimp only at h
    split at h
    · exact ⟨Nat.le_of_ble_eq_true (by kernel_rfl), rfl, rfl, k, 4000, (e_spec_Idle k ⟨_, _, _, _, _, _, _⟩).trans h⟩
    · cases h
noncomputable def S_impl_Idle (k : Nat) : Summ K TyK where
  R := Bool
  modes := [.bo]
  run := fun args objs => match args, objs with
    | [.agg [.lit (.string v1), .lit (.int .i64 v2), .inl true .end v3, .inl true .parcel v4, .lit (.string v5), .inl true .record v6, .inl true .record v7]], [] => impl_Idle k (⟨v1, v2, v3, v4, v5, v6, v7⟩ : DWorld)
    | _, _ => none
  ret := fun r => (.lit (.bool r), [])
  quiet := true
noncomputable def D_impl_Idle (v : V) (os : Objs K TyK) : Option (Bool) :=
  match v, os with
  | .lit (.bool v1), [] => some v1
  | _, _ => none
noncomputable def C_impl_Idle_4 : Cut K TyK (Bool) where
  slots := [1, 9, 10, 11]
  fn := fun k vs os => match vs, os with
    | [.ref 0 0, .inl true .end x0, .lit (.int .i64 x1), .lit (.int .i64 x2)], [.box [.lit (.string x3), .lit (.int .i64 x4), .inl true .end x5, .inl true .parcel x6, .lit (.string x7), .inl true .record x8, .inl true .record x9]] => impl_Idle_l4 k x0 x1 x2 x3 x4 x5 x6 x7 x8 x9
    | _, _ => none
noncomputable abbrev G_impl_Idle (k : Nat) : FuncId → Option (Summ K TyK) := lookT [(45, S_impl_ValidWorld k)]
noncomputable abbrev L_impl_Idle : List (Nat × Cut K TyK (Bool)) := [(4, C_impl_Idle_4)]
theorem c_impl_Idle_4 (k : Nat) (x0 : List DEnd) (x1 : Int) (x2 : Int) (x3 : ByteArray) (x4 : Int) (x5 : List DEnd) (x6 : List DParcel) (x7 : ByteArray) (x8 : List DRecord) (x9 : List DRecord) : run cod T (G_impl_Idle k) (lam L_impl_Idle k) (cutsOf L_impl_Idle) 0 (finish cod T false 0 [.tmp 2] D_impl_Idle) 4000 true (todoAt 4 (bodyOf Try.f47)) (envOf [1, 9, 10, 11] [.ref 0 0, .inl true .end x0, .lit (.int .i64 x1), .lit (.int .i64 x2)]) [.box [.lit (.string x3), .lit (.int .i64 x4), .inl true .end x5, .inl true .parcel x6, .lit (.string x7), .inl true .record x8, .inl true .record x9]] = impl_Idle_l4 (k + 1) x0 x1 x2 x3 x4 x5 x6 x7 x8 x9 := by kernel_rfl
theorem e_impl_Idle (k : Nat) (a0 : DWorld) : run cod T (G_impl_Idle k) (lam L_impl_Idle k) (cutsOf L_impl_Idle) 0 (finish cod T false 0 [.tmp 2] D_impl_Idle) 4000 false [.code (bodyOf Try.f47)] (envOf [0] [.agg [.lit (.string a0.Key), .lit (.int .i64 a0.Width), .inl true .end a0.Ends, .inl true .parcel a0.Flight, .lit (.string a0.Forged), .inl true .record a0.Given, .inl true .record a0.Taken]]) [] = impl_Idle k a0 := by kernel_rfl
theorem ok_impl_Idle (k : Nat) : SummOk Try.prog cod 47 (S_impl_Idle k) := by
  refine summ_of (T := T) Try.f47 (G_impl_Idle) L_impl_Idle false [.tmp 2] 0 D_impl_Idle mixed (fun k => Known.of tok eok codOk ?_) (fun k => QuietOk.of ?_) Try.func47 (by kernel_rfl) (by kernel_rfl) (by kernel_rfl) (by kernel_rfl) (by kernel_rfl) ?_ ?_ [] ?_
  · exact all_cons (ok_impl_ValidWorld k) (all_nil)
  · exact all_cons (fun h r => ⟨rfl, rfl⟩) (all_nil)
  · intro v os r h
    unfold D_impl_Idle at h
    split at h <;> first | (cases h; rfl) | cases h
  · refine all_cons ?_ (all_nil)
    · refine ⟨fun vs os => ?_, by kernel_rfl, fun k vs os r h => ?_⟩
      · show C_impl_Idle_4.fn 0 vs os = none
        unfold C_impl_Idle_4; dsimp only; split <;> rfl
      · change C_impl_Idle_4.fn (k + 1) vs os = some r at h
        unfold C_impl_Idle_4 at h; dsimp only at h
        split at h
        · exact ⟨4000, (c_impl_Idle_4 k _ _ _ _ _ _ _ _ _ _).trans h⟩
        · cases h
  · intro args os r h
    change (S_impl_Idle k).run args os = some r at h
    unfold S_impl_Idle at h; dsimp only at h
    split at h
    · exact ⟨Nat.le_of_ble_eq_true (by kernel_rfl), rfl, rfl, k, 4000, (e_impl_Idle k ⟨_, _, _, _, _, _, _⟩).trans h⟩
    · cases h
noncomputable def S_laws_FnExactIdle (k : Nat) : Summ K TyK where
  R := Bool
  modes := [.pe]
  run := fun args objs => match args, objs with
    | [.agg [.lit (.string v1), .lit (.int .i64 v2), .inl false .end v3, .inl false .parcel v4, .lit (.string v5), .inl false .record v6, .inl false .record v7]], [] => laws_FnExactIdle k (⟨v1, v2, v3, v4, v5, v6, v7⟩ : DWorld)
    | _, _ => none
  ret := fun r => (.lit (.bool r), [])
  quiet := true
noncomputable def D_laws_FnExactIdle (v : V) (os : Objs K TyK) : Option (Bool) :=
  match v, os with
  | .lit (.bool v1), [] => some v1
  | _, _ => none
noncomputable abbrev G_laws_FnExactIdle (k : Nat) : FuncId → Option (Summ K TyK) := lookT [(42, S_laws_szWorld k), (44, S_laws_toWorld k), (46, S_spec_Idle k), (47, S_impl_Idle k), (33, S_laws_eqWorld k)]
noncomputable abbrev L_laws_FnExactIdle : List (Nat × Cut K TyK (Bool)) := []
theorem e_laws_FnExactIdle (k : Nat) (a0 : DWorld) : run cod T (G_laws_FnExactIdle k) (lam L_laws_FnExactIdle k) (cutsOf L_laws_FnExactIdle) 0 (finish cod T false 0 [.tmp 2] D_laws_FnExactIdle) 4000 false [.code (bodyOf Try.f10)] (envOf [0] [.agg [.lit (.string a0.Key), .lit (.int .i64 a0.Width), .inl false .end a0.Ends, .inl false .parcel a0.Flight, .lit (.string a0.Forged), .inl false .record a0.Given, .inl false .record a0.Taken]]) [] = laws_FnExactIdle k a0 := by kernel_rfl
theorem ok_laws_FnExactIdle (k : Nat) : SummOk Try.prog cod 10 (S_laws_FnExactIdle k) := by
  refine summ_of (T := T) Try.f10 (G_laws_FnExactIdle) L_laws_FnExactIdle false [.tmp 2] 0 D_laws_FnExactIdle mixed (fun k => Known.of tok eok codOk ?_) (fun k => QuietOk.of ?_) Try.func10 (by kernel_rfl) (by kernel_rfl) (by kernel_rfl) (by kernel_rfl) (by kernel_rfl) ?_ ?_ [] ?_
  · exact all_cons (ok_laws_szWorld k) (all_cons (ok_laws_toWorld k) (all_cons (ok_spec_Idle k) (all_cons (ok_impl_Idle k) (all_cons (ok_laws_eqWorld k) (all_nil)))))
  · exact all_cons (fun h r => ⟨rfl, rfl⟩) (all_cons (fun h r => by cases h) (all_cons (fun h r => ⟨rfl, rfl⟩) (all_cons (fun h r => ⟨rfl, rfl⟩) (all_cons (fun h r => ⟨rfl, rfl⟩) (all_nil)))))
  · intro v os r h
    unfold D_laws_FnExactIdle at h
    split at h <;> first | (cases h; rfl) | cases h
  · refine all_nil
  · intro args os r h
    change (S_laws_FnExactIdle k).run args os = some r at h
    unfold S_laws_FnExactIdle at h; dsimp only at h
    split at h
    · exact ⟨Nat.le_of_ble_eq_true (by kernel_rfl), rfl, rfl, k, 4000, (e_laws_FnExactIdle k ⟨_, _, _, _, _, _, _⟩).trans h⟩
    · cases h
end Km.X
