/- A part of the proof of FnExactTakePart: each function does what its reading says. There is no condition. -/
import Derived.Test.YthafpbpfnkncmaaKmSeat
import Derived.Test.YthafpbpfnkncmaaKxDef
namespace Km.X
open Go Km Go.Proofs
set_option linter.unusedVariables false
set_option maxRecDepth 100000
set_option maxHeartbeats 4000000
noncomputable def S_laws_szPart (k : Nat) : Summ K TyK where
  R := Int
  modes := [.bo, .bo]
  run := fun args objs => match args, objs with
    | [.agg [.lit (.string v1), .lit (.bool v2)], .lit (.int .i64 v3)], [] => laws_szPart k (⟨v1, v2⟩ : DPart) v3
    | _, _ => none
  ret := fun r => (.lit (.int .i64 r), [])
  quiet := true
noncomputable def D_laws_szPart (v : V) (os : Objs K TyK) : Option (Int) :=
  match v, os with
  | .lit (.int .i64 v1), [] => some v1
  | _, _ => none
noncomputable abbrev G_laws_szPart (k : Nat) : FuncId → Option (Summ K TyK) := lookT []
noncomputable abbrev L_laws_szPart : List (Nat × Cut K TyK (Int)) := []
theorem e_laws_szPart (k : Nat) (a0 : DPart) (a1 : Int) : run cod T (G_laws_szPart k) (lam L_laws_szPart k) (cutsOf L_laws_szPart) 0 (finish cod T false 0 [.tmp 4] D_laws_szPart) 4000 false [.code (bodyOf Try.f22)] (envOf [0, 1] [.agg [.lit (.string a0.Text), .lit (.bool a0.Last)], .lit (.int .i64 a1)]) [] = laws_szPart k a0 a1 := by kernel_rfl
theorem ok_laws_szPart (k : Nat) : SummOk Try.prog cod 22 (S_laws_szPart k) := by
  refine summ_of (T := T) Try.f22 (G_laws_szPart) L_laws_szPart false [.tmp 4] 0 D_laws_szPart mixed (fun k => Known.of tok eok codOk ?_) (fun k => QuietOk.of ?_) Try.func22 (by kernel_rfl) (by kernel_rfl) (by kernel_rfl) (by kernel_rfl) (by kernel_rfl) ?_ ?_ [] ?_
  · exact all_nil
  · exact all_nil
  · intro v os r h
    unfold D_laws_szPart at h
    split at h <;> first | (cases h; rfl) | cases h
  · refine all_nil
  · intro args os r h
    change (S_laws_szPart k).run args os = some r at h
    unfold S_laws_szPart at h; dsimp only at h
    split at h
    · exact ⟨Nat.le_of_ble_eq_true (by kernel_rfl), rfl, rfl, k, 4000, (e_laws_szPart k ⟨_, _⟩ _).trans h⟩
    · cases h
noncomputable def S_laws_szHeld (k : Nat) : Summ K TyK where
  R := Int
  modes := [.bo, .bo]
  run := fun args objs => match args, objs with
    | [.agg [.lit (.int .i64 v1), .lit (.string v2), .lit (.bool v3)], .lit (.int .i64 v4)], [] => laws_szHeld k (⟨v1, (⟨v2, v3⟩ : DPart)⟩ : DHeld) v4
    | _, _ => none
  ret := fun r => (.lit (.int .i64 r), [])
  quiet := true
noncomputable def D_laws_szHeld (v : V) (os : Objs K TyK) : Option (Int) :=
  match v, os with
  | .lit (.int .i64 v1), [] => some v1
  | _, _ => none
noncomputable abbrev G_laws_szHeld (k : Nat) : FuncId → Option (Summ K TyK) := lookT [(22, S_laws_szPart k)]
noncomputable abbrev L_laws_szHeld : List (Nat × Cut K TyK (Int)) := []
theorem e_laws_szHeld (k : Nat) (a0 : DHeld) (a1 : Int) : run cod T (G_laws_szHeld k) (lam L_laws_szHeld k) (cutsOf L_laws_szHeld) 0 (finish cod T false 0 [.tmp 4] D_laws_szHeld) 4000 false [.code (bodyOf Try.f118)] (envOf [0, 1] [.agg [.lit (.int .i64 a0.Seq), .lit (.string a0.Part.Text), .lit (.bool a0.Part.Last)], .lit (.int .i64 a1)]) [] = laws_szHeld k a0 a1 := by kernel_rfl
theorem ok_laws_szHeld (k : Nat) : SummOk Try.prog cod 118 (S_laws_szHeld k) := by
  refine summ_of (T := T) Try.f118 (G_laws_szHeld) L_laws_szHeld false [.tmp 4] 0 D_laws_szHeld mixed (fun k => Known.of tok eok codOk ?_) (fun k => QuietOk.of ?_) Try.func118 (by kernel_rfl) (by kernel_rfl) (by kernel_rfl) (by kernel_rfl) (by kernel_rfl) ?_ ?_ [] ?_
  · exact all_cons (ok_laws_szPart k) (all_nil)
  · exact all_cons (fun h r => ⟨rfl, rfl⟩) (all_nil)
  · intro v os r h
    unfold D_laws_szHeld at h
    split at h <;> first | (cases h; rfl) | cases h
  · refine all_nil
  · intro args os r h
    change (S_laws_szHeld k).run args os = some r at h
    unfold S_laws_szHeld at h; dsimp only at h
    split at h
    · exact ⟨Nat.le_of_ble_eq_true (by kernel_rfl), rfl, rfl, k, 4000, (e_laws_szHeld k ⟨_, ⟨_, _⟩⟩ _).trans h⟩
    · cases h
noncomputable def S_laws_szHeldS (k : Nat) : Summ K TyK where
  R := Int
  modes := [.bo, .bo]
  run := fun args objs => match args, objs with
    | [.inl true .held v1, .lit (.int .i64 v2)], [] => laws_szHeldS k v1 v2
    | _, _ => none
  ret := fun r => (.lit (.int .i64 r), [])
  quiet := true
noncomputable def D_laws_szHeldS (v : V) (os : Objs K TyK) : Option (Int) :=
  match v, os with
  | .lit (.int .i64 v1), [] => some v1
  | _, _ => none
noncomputable def C_laws_szHeldS_5 : Cut K TyK (Int) where
  slots := [0, 1, 5]
  fn := fun k vs os => match vs, os with
    | [.inl true .held x0, .lit (.int .i64 x1), .lit (.int .i64 x2)], [] => laws_szHeldS_l5 k x0 x1 x2
    | _, _ => none
noncomputable abbrev G_laws_szHeldS (k : Nat) : FuncId → Option (Summ K TyK) := lookT [(118, S_laws_szHeld k)]
noncomputable abbrev L_laws_szHeldS : List (Nat × Cut K TyK (Int)) := [(5, C_laws_szHeldS_5)]
theorem c_laws_szHeldS_5 (k : Nat) (x0 : List DHeld) (x1 : Int) (x2 : Int) : run cod T (G_laws_szHeldS k) (lam L_laws_szHeldS k) (cutsOf L_laws_szHeldS) 0 (finish cod T false 0 [.tmp 4] D_laws_szHeldS) 4000 true (todoAt 5 (bodyOf Try.f59)) (envOf [0, 1, 5] [.inl true .held x0, .lit (.int .i64 x1), .lit (.int .i64 x2)]) [] = laws_szHeldS_l5 (k + 1) x0 x1 x2 := by kernel_rfl
theorem e_laws_szHeldS (k : Nat) (a0 : List DHeld) (a1 : Int) : run cod T (G_laws_szHeldS k) (lam L_laws_szHeldS k) (cutsOf L_laws_szHeldS) 0 (finish cod T false 0 [.tmp 4] D_laws_szHeldS) 4000 false [.code (bodyOf Try.f59)] (envOf [0, 1] [.inl true .held a0, .lit (.int .i64 a1)]) [] = laws_szHeldS k a0 a1 := by kernel_rfl
theorem ok_laws_szHeldS (k : Nat) : SummOk Try.prog cod 59 (S_laws_szHeldS k) := by
  refine summ_of (T := T) Try.f59 (G_laws_szHeldS) L_laws_szHeldS false [.tmp 4] 0 D_laws_szHeldS mixed (fun k => Known.of tok eok codOk ?_) (fun k => QuietOk.of ?_) Try.func59 (by kernel_rfl) (by kernel_rfl) (by kernel_rfl) (by kernel_rfl) (by kernel_rfl) ?_ ?_ [] ?_
  · exact all_cons (ok_laws_szHeld k) (all_nil)
  · exact all_cons (fun h r => ⟨rfl, rfl⟩) (all_nil)
  · intro v os r h
    unfold D_laws_szHeldS at h
    split at h <;> first | (cases h; rfl) | cases h
  · refine all_cons ?_ (all_nil)
    · refine ⟨fun vs os => ?_, by kernel_rfl, fun k vs os r h => ?_⟩
      · show C_laws_szHeldS_5.fn 0 vs os = none
        unfold C_laws_szHeldS_5; dsimp only; split <;> rfl
      · change C_laws_szHeldS_5.fn (k + 1) vs os = some r at h
        unfold C_laws_szHeldS_5 at h; dsimp only at h
        split at h
        · exact ⟨4000, (c_laws_szHeldS_5 k _ _ _).trans h⟩
        · cases h
  · intro args os r h
    change (S_laws_szHeldS k).run args os = some r at h
    unfold S_laws_szHeldS at h; dsimp only at h
    split at h
    · exact ⟨Nat.le_of_ble_eq_true (by kernel_rfl), rfl, rfl, k, 4000, (e_laws_szHeldS k _ _).trans h⟩
    · cases h
noncomputable def S_laws_szStringS (k : Nat) : Summ K TyK where
  R := Int
  modes := [.bo, .bo]
  run := fun args objs => match args, objs with
    | [.inl true .str v1, .lit (.int .i64 v2)], [] => laws_szStringS k v1 v2
    | _, _ => none
  ret := fun r => (.lit (.int .i64 r), [])
  quiet := true
noncomputable def D_laws_szStringS (v : V) (os : Objs K TyK) : Option (Int) :=
  match v, os with
  | .lit (.int .i64 v1), [] => some v1
  | _, _ => none
noncomputable def C_laws_szStringS_5 : Cut K TyK (Int) where
  slots := [0, 1, 5]
  fn := fun k vs os => match vs, os with
    | [.inl true .str x0, .lit (.int .i64 x1), .lit (.int .i64 x2)], [] => laws_szStringS_l5 k x0 x1 x2
    | _, _ => none
noncomputable abbrev G_laws_szStringS (k : Nat) : FuncId → Option (Summ K TyK) := lookT []
noncomputable abbrev L_laws_szStringS : List (Nat × Cut K TyK (Int)) := [(5, C_laws_szStringS_5)]
theorem c_laws_szStringS_5 (k : Nat) (x0 : List ByteArray) (x1 : Int) (x2 : Int) : run cod T (G_laws_szStringS k) (lam L_laws_szStringS k) (cutsOf L_laws_szStringS) 0 (finish cod T false 0 [.tmp 4] D_laws_szStringS) 4000 true (todoAt 5 (bodyOf Try.f60)) (envOf [0, 1, 5] [.inl true .str x0, .lit (.int .i64 x1), .lit (.int .i64 x2)]) [] = laws_szStringS_l5 (k + 1) x0 x1 x2 := by kernel_rfl
theorem e_laws_szStringS (k : Nat) (a0 : List ByteArray) (a1 : Int) : run cod T (G_laws_szStringS k) (lam L_laws_szStringS k) (cutsOf L_laws_szStringS) 0 (finish cod T false 0 [.tmp 4] D_laws_szStringS) 4000 false [.code (bodyOf Try.f60)] (envOf [0, 1] [.inl true .str a0, .lit (.int .i64 a1)]) [] = laws_szStringS k a0 a1 := by kernel_rfl
theorem ok_laws_szStringS (k : Nat) : SummOk Try.prog cod 60 (S_laws_szStringS k) := by
  refine summ_of (T := T) Try.f60 (G_laws_szStringS) L_laws_szStringS false [.tmp 4] 0 D_laws_szStringS mixed (fun k => Known.of tok eok codOk ?_) (fun k => QuietOk.of ?_) Try.func60 (by kernel_rfl) (by kernel_rfl) (by kernel_rfl) (by kernel_rfl) (by kernel_rfl) ?_ ?_ [] ?_
  · exact all_nil
  · exact all_nil
  · intro v os r h
    unfold D_laws_szStringS at h
    split at h <;> first | (cases h; rfl) | cases h
  · refine all_cons ?_ (all_nil)
    · refine ⟨fun vs os => ?_, by kernel_rfl, fun k vs os r h => ?_⟩
      · show C_laws_szStringS_5.fn 0 vs os = none
        unfold C_laws_szStringS_5; dsimp only; split <;> rfl
      · change C_laws_szStringS_5.fn (k + 1) vs os = some r at h
        unfold C_laws_szStringS_5 at h; dsimp only at h
        split at h
        · exact ⟨4000, (c_laws_szStringS_5 k _ _ _).trans h⟩
        · cases h
  · intro args os r h
    change (S_laws_szStringS k).run args os = some r at h
    unfold S_laws_szStringS at h; dsimp only at h
    split at h
    · exact ⟨Nat.le_of_ble_eq_true (by kernel_rfl), rfl, rfl, k, 4000, (e_laws_szStringS k _ _).trans h⟩
    · cases h
noncomputable def S_laws_szTake (k : Nat) : Summ K TyK where
  R := Int
  modes := [.bo, .bo]
  run := fun args objs => match args, objs with
    | [.agg [.lit (.int .i64 v1), .inl true .held v2, .lit (.string v3), .inl true .str v4], .lit (.int .i64 v5)], [] => laws_szTake k (⟨v1, v2, v3, v4⟩ : DTake) v5
    | _, _ => none
  ret := fun r => (.lit (.int .i64 r), [])
  quiet := true
noncomputable def D_laws_szTake (v : V) (os : Objs K TyK) : Option (Int) :=
  match v, os with
  | .lit (.int .i64 v1), [] => some v1
  | _, _ => none
noncomputable abbrev G_laws_szTake (k : Nat) : FuncId → Option (Summ K TyK) := lookT [(59, S_laws_szHeldS k), (60, S_laws_szStringS k)]
noncomputable abbrev L_laws_szTake : List (Nat × Cut K TyK (Int)) := []
theorem e_laws_szTake (k : Nat) (a0 : DTake) (a1 : Int) : run cod T (G_laws_szTake k) (lam L_laws_szTake k) (cutsOf L_laws_szTake) 0 (finish cod T false 0 [.tmp 4] D_laws_szTake) 4000 false [.code (bodyOf Try.f15)] (envOf [0, 1] [.agg [.lit (.int .i64 a0.Next), .inl true .held a0.Held, .lit (.string a0.Open), .inl true .str a0.Ready], .lit (.int .i64 a1)]) [] = laws_szTake k a0 a1 := by kernel_rfl
theorem ok_laws_szTake (k : Nat) : SummOk Try.prog cod 15 (S_laws_szTake k) := by
  refine summ_of (T := T) Try.f15 (G_laws_szTake) L_laws_szTake false [.tmp 4] 0 D_laws_szTake mixed (fun k => Known.of tok eok codOk ?_) (fun k => QuietOk.of ?_) Try.func15 (by kernel_rfl) (by kernel_rfl) (by kernel_rfl) (by kernel_rfl) (by kernel_rfl) ?_ ?_ [] ?_
  · exact all_cons (ok_laws_szHeldS k) (all_cons (ok_laws_szStringS k) (all_nil))
  · exact all_cons (fun h r => ⟨rfl, rfl⟩) (all_cons (fun h r => ⟨rfl, rfl⟩) (all_nil))
  · intro v os r h
    unfold D_laws_szTake at h
    split at h <;> first | (cases h; rfl) | cases h
  · refine all_nil
  · intro args os r h
    change (S_laws_szTake k).run args os = some r at h
    unfold S_laws_szTake at h; dsimp only at h
    split at h
    · exact ⟨Nat.le_of_ble_eq_true (by kernel_rfl), rfl, rfl, k, 4000, (e_laws_szTake k ⟨_, _, _, _⟩ _).trans h⟩
    · cases h
noncomputable def S_laws_toPart (k : Nat) : Summ K TyK where
  R := DPart
  modes := [.bo]
  run := fun args objs => match args, objs with
    | [.agg [.lit (.string v1), .lit (.bool v2)]], [] => laws_toPart k (⟨v1, v2⟩ : DPart)
    | _, _ => none
  ret := fun r => (.agg [.lit (.string r.Text), .lit (.bool r.Last)], [])
  quiet := true
noncomputable def D_laws_toPart (v : V) (os : Objs K TyK) : Option (DPart) :=
  match v, os with
  | .agg [.lit (.string v1), .lit (.bool v2)], [] => some (⟨v1, v2⟩ : DPart)
  | _, _ => none
noncomputable abbrev G_laws_toPart (k : Nat) : FuncId → Option (Summ K TyK) := lookT []
noncomputable abbrev L_laws_toPart : List (Nat × Cut K TyK (DPart)) := []
theorem e_laws_toPart (k : Nat) (a0 : DPart) : run cod T (G_laws_toPart k) (lam L_laws_toPart k) (cutsOf L_laws_toPart) 0 (finish cod T false 0 [.cell 2 40] D_laws_toPart) 4000 false [.code (bodyOf Try.f24)] (envOf [0] [.agg [.lit (.string a0.Text), .lit (.bool a0.Last)]]) [] = laws_toPart k a0 := by kernel_rfl
theorem ok_laws_toPart (k : Nat) : SummOk Try.prog cod 24 (S_laws_toPart k) := by
  refine summ_of (T := T) Try.f24 (G_laws_toPart) L_laws_toPart false [.cell 2 40] 0 D_laws_toPart mixed (fun k => Known.of tok eok codOk ?_) (fun k => QuietOk.of ?_) Try.func24 (by kernel_rfl) (by kernel_rfl) (by kernel_rfl) (by kernel_rfl) (by kernel_rfl) ?_ ?_ [] ?_
  · exact all_nil
  · exact all_nil
  · intro v os r h
    unfold D_laws_toPart at h
    split at h <;> first | (cases h; rfl) | cases h
  · refine all_nil
  · intro args os r h
    change (S_laws_toPart k).run args os = some r at h
    unfold S_laws_toPart at h; dsimp only at h
    split at h
    · exact ⟨Nat.le_of_ble_eq_true (by kernel_rfl), rfl, rfl, k, 4000, (e_laws_toPart k ⟨_, _⟩).trans h⟩
    · cases h
noncomputable def S_laws_toHeld (k : Nat) : Summ K TyK where
  R := DHeld
  modes := [.bo]
  run := fun args objs => match args, objs with
    | [.agg [.lit (.int .i64 v1), .lit (.string v2), .lit (.bool v3)]], [] => laws_toHeld k (⟨v1, (⟨v2, v3⟩ : DPart)⟩ : DHeld)
    | _, _ => none
  ret := fun r => (.agg [.lit (.int .i64 r.Seq), .lit (.string r.Part.Text), .lit (.bool r.Part.Last)], [])
  quiet := true
noncomputable def D_laws_toHeld (v : V) (os : Objs K TyK) : Option (DHeld) :=
  match v, os with
  | .agg [.lit (.int .i64 v1), .lit (.string v2), .lit (.bool v3)], [] => some (⟨v1, (⟨v2, v3⟩ : DPart)⟩ : DHeld)
  | _, _ => none
noncomputable abbrev G_laws_toHeld (k : Nat) : FuncId → Option (Summ K TyK) := lookT [(24, S_laws_toPart k)]
noncomputable abbrev L_laws_toHeld : List (Nat × Cut K TyK (DHeld)) := []
theorem e_laws_toHeld (k : Nat) (a0 : DHeld) : run cod T (G_laws_toHeld k) (lam L_laws_toHeld k) (cutsOf L_laws_toHeld) 0 (finish cod T false 0 [.cell 2 97] D_laws_toHeld) 4000 false [.code (bodyOf Try.f120)] (envOf [0] [.agg [.lit (.int .i64 a0.Seq), .lit (.string a0.Part.Text), .lit (.bool a0.Part.Last)]]) [] = laws_toHeld k a0 := by kernel_rfl
theorem ok_laws_toHeld (k : Nat) : SummOk Try.prog cod 120 (S_laws_toHeld k) := by
  refine summ_of (T := T) Try.f120 (G_laws_toHeld) L_laws_toHeld false [.cell 2 97] 0 D_laws_toHeld mixed (fun k => Known.of tok eok codOk ?_) (fun k => QuietOk.of ?_) Try.func120 (by kernel_rfl) (by kernel_rfl) (by kernel_rfl) (by kernel_rfl) (by kernel_rfl) ?_ ?_ [] ?_
  · exact all_cons (ok_laws_toPart k) (all_nil)
  · exact all_cons (fun h r => ⟨rfl, rfl⟩) (all_nil)
  · intro v os r h
    unfold D_laws_toHeld at h
    split at h <;> first | (cases h; rfl) | cases h
  · refine all_nil
  · intro args os r h
    change (S_laws_toHeld k).run args os = some r at h
    unfold S_laws_toHeld at h; dsimp only at h
    split at h
    · exact ⟨Nat.le_of_ble_eq_true (by kernel_rfl), rfl, rfl, k, 4000, (e_laws_toHeld k ⟨_, ⟨_, _⟩⟩).trans h⟩
    · cases h
noncomputable def S_laws_toHeldS (k : Nat) : Summ K TyK where
  R := List DHeld
  modes := [.bo]
  run := fun args objs => match args, objs with
    | [.inl true .held v1], [] => laws_toHeldS k v1
    | _, _ => none
  ret := fun r => (.own 0, [.sl .held r])
  quiet := false
noncomputable def D_laws_toHeldS (v : V) (os : Objs K TyK) : Option (List DHeld) :=
  match v, os with
  | .own 0, [.sl .held v1] => some v1
  | _, _ => none
noncomputable def C_laws_toHeldS_3 : Cut K TyK (List DHeld) where
  slots := [0, 3, 4]
  fn := fun k vs os => match vs, os with
    | [.inl true .held x0, .own 0, .lit (.int .i64 x1)], [.sl .held x2] => laws_toHeldS_l3 k x0 x1 x2
    | _, _ => none
noncomputable abbrev G_laws_toHeldS (k : Nat) : FuncId → Option (Summ K TyK) := lookT [(120, S_laws_toHeld k)]
noncomputable abbrev L_laws_toHeldS : List (Nat × Cut K TyK (List DHeld)) := [(3, C_laws_toHeldS_3)]
theorem c_laws_toHeldS_3 (k : Nat) (x0 : List DHeld) (x1 : Int) (x2 : List DHeld) : run cod T (G_laws_toHeldS k) (lam L_laws_toHeldS k) (cutsOf L_laws_toHeldS) 0 (finish cod T false 0 [.tmp 2] D_laws_toHeldS) 4000 true (todoAt 3 (bodyOf Try.f64)) (envOf [0, 3, 4] [.inl true .held x0, .own 0, .lit (.int .i64 x1)]) [.sl .held x2] = laws_toHeldS_l3 (k + 1) x0 x1 x2 := by kernel_rfl
theorem e_laws_toHeldS (k : Nat) (a0 : List DHeld) : run cod T (G_laws_toHeldS k) (lam L_laws_toHeldS k) (cutsOf L_laws_toHeldS) 0 (finish cod T false 0 [.tmp 2] D_laws_toHeldS) 4000 false [.code (bodyOf Try.f64)] (envOf [0] [.inl true .held a0]) [] = laws_toHeldS k a0 := by kernel_rfl
theorem ok_laws_toHeldS (k : Nat) : SummOk Try.prog cod 64 (S_laws_toHeldS k) := by
  refine summ_of (T := T) Try.f64 (G_laws_toHeldS) L_laws_toHeldS false [.tmp 2] 0 D_laws_toHeldS mixed (fun k => Known.of tok eok codOk ?_) (fun k => QuietOk.of ?_) Try.func64 (by kernel_rfl) (by kernel_rfl) (by kernel_rfl) (by kernel_rfl) (by kernel_rfl) ?_ ?_ [] ?_
  · exact all_cons (ok_laws_toHeld k) (all_nil)
  · exact all_cons (fun h r => ⟨rfl, rfl⟩) (all_nil)
  · intro v os r h
    unfold D_laws_toHeldS at h
    split at h <;> first | (cases h; rfl) | cases h
  · refine all_cons ?_ (all_nil)
    · refine ⟨fun vs os => ?_, by kernel_rfl, fun k vs os r h => ?_⟩
      · show C_laws_toHeldS_3.fn 0 vs os = none
        unfold C_laws_toHeldS_3; dsimp only; split <;> rfl
      · change C_laws_toHeldS_3.fn (k + 1) vs os = some r at h
        unfold C_laws_toHeldS_3 at h; dsimp only at h
        split at h
        · exact ⟨4000, (c_laws_toHeldS_3 k _ _ _).trans h⟩
        · cases h
  · intro args os r h
    change (S_laws_toHeldS k).run args os = some r at h
    unfold S_laws_toHeldS at h; dsimp only at h
    split at h
    · exact ⟨Nat.le_of_ble_eq_true (by kernel_rfl), rfl, rfl, k, 4000, (e_laws_toHeldS k _).trans h⟩
    · cases h
noncomputable def S_laws_toStringS (k : Nat) : Summ K TyK where
  R := List ByteArray
  modes := [.bo]
  run := fun args objs => match args, objs with
    | [.inl true .str v1], [] => laws_toStringS k v1
    | _, _ => none
  ret := fun r => (.own 0, [.sl .str r])
  quiet := false
noncomputable def D_laws_toStringS (v : V) (os : Objs K TyK) : Option (List ByteArray) :=
  match v, os with
  | .own 0, [.sl .str v1] => some v1
  | _, _ => none
noncomputable def C_laws_toStringS_3 : Cut K TyK (List ByteArray) where
  slots := [0, 3, 4]
  fn := fun k vs os => match vs, os with
    | [.inl true .str x0, .own 0, .lit (.int .i64 x1)], [.sl .str x2] => laws_toStringS_l3 k x0 x1 x2
    | _, _ => none
noncomputable abbrev G_laws_toStringS (k : Nat) : FuncId → Option (Summ K TyK) := lookT []
noncomputable abbrev L_laws_toStringS : List (Nat × Cut K TyK (List ByteArray)) := [(3, C_laws_toStringS_3)]
theorem c_laws_toStringS_3 (k : Nat) (x0 : List ByteArray) (x1 : Int) (x2 : List ByteArray) : run cod T (G_laws_toStringS k) (lam L_laws_toStringS k) (cutsOf L_laws_toStringS) 0 (finish cod T false 0 [.tmp 2] D_laws_toStringS) 4000 true (todoAt 3 (bodyOf Try.f65)) (envOf [0, 3, 4] [.inl true .str x0, .own 0, .lit (.int .i64 x1)]) [.sl .str x2] = laws_toStringS_l3 (k + 1) x0 x1 x2 := by kernel_rfl
theorem e_laws_toStringS (k : Nat) (a0 : List ByteArray) : run cod T (G_laws_toStringS k) (lam L_laws_toStringS k) (cutsOf L_laws_toStringS) 0 (finish cod T false 0 [.tmp 2] D_laws_toStringS) 4000 false [.code (bodyOf Try.f65)] (envOf [0] [.inl true .str a0]) [] = laws_toStringS k a0 := by kernel_rfl
theorem ok_laws_toStringS (k : Nat) : SummOk Try.prog cod 65 (S_laws_toStringS k) := by
  refine summ_of (T := T) Try.f65 (G_laws_toStringS) L_laws_toStringS false [.tmp 2] 0 D_laws_toStringS mixed (fun k => Known.of tok eok codOk ?_) (fun k => QuietOk.of ?_) Try.func65 (by kernel_rfl) (by kernel_rfl) (by kernel_rfl) (by kernel_rfl) (by kernel_rfl) ?_ ?_ [] ?_
  · exact all_nil
  · exact all_nil
  · intro v os r h
    unfold D_laws_toStringS at h
    split at h <;> first | (cases h; rfl) | cases h
  · refine all_cons ?_ (all_nil)
    · refine ⟨fun vs os => ?_, by kernel_rfl, fun k vs os r h => ?_⟩
      · show C_laws_toStringS_3.fn 0 vs os = none
        unfold C_laws_toStringS_3; dsimp only; split <;> rfl
      · change C_laws_toStringS_3.fn (k + 1) vs os = some r at h
        unfold C_laws_toStringS_3 at h; dsimp only at h
        split at h
        · exact ⟨4000, (c_laws_toStringS_3 k _ _ _).trans h⟩
        · cases h
  · intro args os r h
    change (S_laws_toStringS k).run args os = some r at h
    unfold S_laws_toStringS at h; dsimp only at h
    split at h
    · exact ⟨Nat.le_of_ble_eq_true (by kernel_rfl), rfl, rfl, k, 4000, (e_laws_toStringS k _).trans h⟩
    · cases h
noncomputable def S_laws_toTake (k : Nat) : Summ K TyK where
  R := DTake
  modes := [.bo]
  run := fun args objs => match args, objs with
    | [.agg [.lit (.int .i64 v1), .inl true .held v2, .lit (.string v3), .inl true .str v4]], [] => laws_toTake k (⟨v1, v2, v3, v4⟩ : DTake)
    | _, _ => none
  ret := fun r => (.agg [.lit (.int .i64 r.Next), .own 0, .lit (.string r.Open), .own 1], [.sl .held r.Held, .sl .str r.Ready])
  quiet := false
noncomputable def D_laws_toTake (v : V) (os : Objs K TyK) : Option (DTake) :=
  match v, os with
  | .agg [.lit (.int .i64 v1), .own 0, .lit (.string v2), .own 1], [.sl .held v3, .sl .str v4] => some (⟨v1, v3, v2, v4⟩ : DTake)
  | _, _ => none
noncomputable abbrev G_laws_toTake (k : Nat) : FuncId → Option (Summ K TyK) := lookT [(64, S_laws_toHeldS k), (65, S_laws_toStringS k)]
noncomputable abbrev L_laws_toTake : List (Nat × Cut K TyK (DTake)) := []
theorem e_laws_toTake (k : Nat) (a0 : DTake) : run cod T (G_laws_toTake k) (lam L_laws_toTake k) (cutsOf L_laws_toTake) 0 (finish cod T false 0 [.cell 2 29] D_laws_toTake) 4000 false [.code (bodyOf Try.f17)] (envOf [0] [.agg [.lit (.int .i64 a0.Next), .inl true .held a0.Held, .lit (.string a0.Open), .inl true .str a0.Ready]]) [] = laws_toTake k a0 := by kernel_rfl
theorem ok_laws_toTake (k : Nat) : SummOk Try.prog cod 17 (S_laws_toTake k) := by
  refine summ_of (T := T) Try.f17 (G_laws_toTake) L_laws_toTake false [.cell 2 29] 0 D_laws_toTake mixed (fun k => Known.of tok eok codOk ?_) (fun k => QuietOk.of ?_) Try.func17 (by kernel_rfl) (by kernel_rfl) (by kernel_rfl) (by kernel_rfl) (by kernel_rfl) ?_ ?_ [] ?_
  · exact all_cons (ok_laws_toHeldS k) (all_cons (ok_laws_toStringS k) (all_nil))
  · exact all_cons (fun h r => by cases h) (all_cons (fun h r => by cases h) (all_nil))
  · intro v os r h
    unfold D_laws_toTake at h
    split at h <;> first | (cases h; rfl) | cases h
  · refine all_nil
  · intro args os r h
    change (S_laws_toTake k).run args os = some r at h
    unfold S_laws_toTake at h; dsimp only at h
    split at h
    · exact ⟨Nat.le_of_ble_eq_true (by kernel_rfl), rfl, rfl, k, 4000, (e_laws_toTake k ⟨_, _, _, _⟩).trans h⟩
    · cases h
noncomputable def S_spec_l1In (k : Nat) : Summ K TyK where
  R := Bool
  modes := [.bo, .bo, .bo]
  run := fun args objs => match args, objs with
    | [.lit (.int .i64 v1), .lit (.int .i64 v2), .lit (.int .i64 v3)], [] => spec_l1In k v1 v2 v3
    | _, _ => none
  ret := fun r => (.lit (.bool r), [])
  quiet := true
noncomputable def D_spec_l1In (v : V) (os : Objs K TyK) : Option (Bool) :=
  match v, os with
  | .lit (.bool v1), [] => some v1
  | _, _ => none
noncomputable abbrev G_spec_l1In (k : Nat) : FuncId → Option (Summ K TyK) := lookT []
noncomputable abbrev L_spec_l1In : List (Nat × Cut K TyK (Bool)) := []
theorem e_spec_l1In (k : Nat) (a0 : Int) (a1 : Int) (a2 : Int) : run cod T (G_spec_l1In k) (lam L_spec_l1In k) (cutsOf L_spec_l1In) 0 (finish cod T false 0 [.tmp 6] D_spec_l1In) 4000 false [.code (bodyOf Try.f78)] (envOf [0, 1, 2] [.lit (.int .i64 a0), .lit (.int .i64 a1), .lit (.int .i64 a2)]) [] = spec_l1In k a0 a1 a2 := by kernel_rfl
theorem ok_spec_l1In (k : Nat) : SummOk Try.prog cod 78 (S_spec_l1In k) := by
  refine summ_of (T := T) Try.f78 (G_spec_l1In) L_spec_l1In false [.tmp 6] 0 D_spec_l1In mixed (fun k => Known.of tok eok codOk ?_) (fun k => QuietOk.of ?_) Try.func78 (by kernel_rfl) (by kernel_rfl) (by kernel_rfl) (by kernel_rfl) (by kernel_rfl) ?_ ?_ [] ?_
  · exact all_nil
  · exact all_nil
  · intro v os r h
    unfold D_spec_l1In at h
    split at h <;> first | (cases h; rfl) | cases h
  · refine all_nil
  · intro args os r h
    change (S_spec_l1In k).run args os = some r at h
    unfold S_spec_l1In at h; dsimp only at h
    split at h
    · exact ⟨Nat.le_of_ble_eq_true (by kernel_rfl), rfl, rfl, k, 4000, (e_spec_l1In k _ _ _).trans h⟩
    · cases h
noncomputable def S_spec_l5Near (k : Nat) : Summ K TyK where
  R := Bool
  modes := [.bo, .bo]
  run := fun args objs => match args, objs with
    | [.agg [.lit (.int .i64 v1), .inl true .held v2, .lit (.string v3), .inl true .str v4], .lit (.int .i64 v5)], [] => spec_l5Near k (⟨v1, v2, v3, v4⟩ : DTake) v5
    | _, _ => none
  ret := fun r => (.lit (.bool r), [])
  quiet := true
noncomputable def D_spec_l5Near (v : V) (os : Objs K TyK) : Option (Bool) :=
  match v, os with
  | .lit (.bool v1), [] => some v1
  | _, _ => none
noncomputable abbrev G_spec_l5Near (k : Nat) : FuncId → Option (Summ K TyK) := lookT [(78, S_spec_l1In k)]
noncomputable abbrev L_spec_l5Near : List (Nat × Cut K TyK (Bool)) := []
theorem e_spec_l5Near (k : Nat) (a0 : DTake) (a1 : Int) : run cod T (G_spec_l5Near k) (lam L_spec_l5Near k) (cutsOf L_spec_l5Near) 0 (finish cod T false 0 [.tmp 4] D_spec_l5Near) 4000 false [.code (bodyOf Try.f75)] (envOf [0, 1] [.agg [.lit (.int .i64 a0.Next), .inl true .held a0.Held, .lit (.string a0.Open), .inl true .str a0.Ready], .lit (.int .i64 a1)]) [] = spec_l5Near k a0 a1 := by kernel_rfl
theorem ok_spec_l5Near (k : Nat) : SummOk Try.prog cod 75 (S_spec_l5Near k) := by
  refine summ_of (T := T) Try.f75 (G_spec_l5Near) L_spec_l5Near false [.tmp 4] 0 D_spec_l5Near mixed (fun k => Known.of tok eok codOk ?_) (fun k => QuietOk.of ?_) Try.func75 (by kernel_rfl) (by kernel_rfl) (by kernel_rfl) (by kernel_rfl) (by kernel_rfl) ?_ ?_ [] ?_
  · exact all_cons (ok_spec_l1In k) (all_nil)
  · exact all_cons (fun h r => ⟨rfl, rfl⟩) (all_nil)
  · intro v os r h
    unfold D_spec_l5Near at h
    split at h <;> first | (cases h; rfl) | cases h
  · refine all_nil
  · intro args os r h
    change (S_spec_l5Near k).run args os = some r at h
    unfold S_spec_l5Near at h; dsimp only at h
    split at h
    · exact ⟨Nat.le_of_ble_eq_true (by kernel_rfl), rfl, rfl, k, 4000, (e_spec_l5Near k ⟨_, _, _, _⟩ _).trans h⟩
    · cases h
noncomputable def S_spec_l5Can (k : Nat) : Summ K TyK where
  R := Bool
  modes := [.bo, .bo]
  run := fun args objs => match args, objs with
    | [.agg [.lit (.int .i64 v1), .inl true .held v2, .lit (.string v3), .inl true .str v4], .agg [.lit (.string v5), .lit (.bool v6)]], [] => spec_l5Can k (⟨v1, v2, v3, v4⟩ : DTake) (⟨v5, v6⟩ : DPart)
    | _, _ => none
  ret := fun r => (.lit (.bool r), [])
  quiet := true
noncomputable def D_spec_l5Can (v : V) (os : Objs K TyK) : Option (Bool) :=
  match v, os with
  | .lit (.bool v1), [] => some v1
  | _, _ => none
noncomputable abbrev G_spec_l5Can (k : Nat) : FuncId → Option (Summ K TyK) := lookT []
noncomputable abbrev L_spec_l5Can : List (Nat × Cut K TyK (Bool)) := []
theorem e_spec_l5Can (k : Nat) (a0 : DTake) (a1 : DPart) : run cod T (G_spec_l5Can k) (lam L_spec_l5Can k) (cutsOf L_spec_l5Can) 0 (finish cod T false 0 [.tmp 4] D_spec_l5Can) 4000 false [.code (bodyOf Try.f119)] (envOf [0, 1] [.agg [.lit (.int .i64 a0.Next), .inl true .held a0.Held, .lit (.string a0.Open), .inl true .str a0.Ready], .agg [.lit (.string a1.Text), .lit (.bool a1.Last)]]) [] = spec_l5Can k a0 a1 := by kernel_rfl
theorem ok_spec_l5Can (k : Nat) : SummOk Try.prog cod 119 (S_spec_l5Can k) := by
  refine summ_of (T := T) Try.f119 (G_spec_l5Can) L_spec_l5Can false [.tmp 4] 0 D_spec_l5Can mixed (fun k => Known.of tok eok codOk ?_) (fun k => QuietOk.of ?_) Try.func119 (by kernel_rfl) (by kernel_rfl) (by kernel_rfl) (by kernel_rfl) (by kernel_rfl) ?_ ?_ [] ?_
  · exact all_nil
  · exact all_nil
  · intro v os r h
    unfold D_spec_l5Can at h
    split at h <;> first | (cases h; rfl) | cases h
  · refine all_nil
  · intro args os r h
    change (S_spec_l5Can k).run args os = some r at h
    unfold S_spec_l5Can at h; dsimp only at h
    split at h
    · exact ⟨Nat.le_of_ble_eq_true (by kernel_rfl), rfl, rfl, k, 4000, (e_spec_l5Can k ⟨_, _, _, _⟩ ⟨_, _⟩).trans h⟩
    · cases h
noncomputable def S_spec_ValidTake (k : Nat) : Summ K TyK where
  R := Bool
  modes := [.bo]
  run := fun args objs => match args, objs with
    | [.agg [.lit (.int .i64 v1), .inl true .held v2, .lit (.string v3), .inl true .str v4]], [] => spec_ValidTake k (⟨v1, v2, v3, v4⟩ : DTake)
    | _, _ => none
  ret := fun r => (.lit (.bool r), [])
  quiet := true
noncomputable def D_spec_ValidTake (v : V) (os : Objs K TyK) : Option (Bool) :=
  match v, os with
  | .lit (.bool v1), [] => some v1
  | _, _ => none
noncomputable def C_spec_ValidTake_4 : Cut K TyK (Bool) where
  slots := [1, 3]
  fn := fun k vs os => match vs, os with
    | [.ref 0 0, .lit (.int .i64 x0)], [.box [.lit (.int .i64 x1), .inl true .held x2, .lit (.string x3), .inl true .str x4]] => spec_ValidTake_l4 k x0 x1 x2 x3 x4
    | _, _ => none
noncomputable def C_spec_ValidTake_9 : Cut K TyK (Bool) where
  slots := [1, 4]
  fn := fun k vs os => match vs, os with
    | [.ref 0 0, .lit (.int .i64 x0)], [.box [.lit (.int .i64 x1), .inl true .held x2, .lit (.string x3), .inl true .str x4]] => spec_ValidTake_l9 k x0 x1 x2 x3 x4
    | _, _ => none
noncomputable abbrev G_spec_ValidTake (k : Nat) : FuncId → Option (Summ K TyK) := lookT [(78, S_spec_l1In k), (75, S_spec_l5Near k), (119, S_spec_l5Can k)]
noncomputable abbrev L_spec_ValidTake : List (Nat × Cut K TyK (Bool)) := [(4, C_spec_ValidTake_4), (9, C_spec_ValidTake_9)]
theorem c_spec_ValidTake_4 (k : Nat) (x0 : Int) (x1 : Int) (x2 : List DHeld) (x3 : ByteArray) (x4 : List ByteArray) : run cod T (G_spec_ValidTake k) (lam L_spec_ValidTake k) (cutsOf L_spec_ValidTake) 0 (finish cod T false 0 [.tmp 2] D_spec_ValidTake) 4000 true (todoAt 4 (bodyOf Try.f61)) (envOf [1, 3] [.ref 0 0, .lit (.int .i64 x0)]) [.box [.lit (.int .i64 x1), .inl true .held x2, .lit (.string x3), .inl true .str x4]] = spec_ValidTake_l4 (k + 1) x0 x1 x2 x3 x4 := by kernel_rfl
theorem c_spec_ValidTake_9 (k : Nat) (x0 : Int) (x1 : Int) (x2 : List DHeld) (x3 : ByteArray) (x4 : List ByteArray) : run cod T (G_spec_ValidTake k) (lam L_spec_ValidTake k) (cutsOf L_spec_ValidTake) 0 (finish cod T false 0 [.tmp 2] D_spec_ValidTake) 4000 true (todoAt 9 (bodyOf Try.f61)) (envOf [1, 4] [.ref 0 0, .lit (.int .i64 x0)]) [.box [.lit (.int .i64 x1), .inl true .held x2, .lit (.string x3), .inl true .str x4]] = spec_ValidTake_l9 (k + 1) x0 x1 x2 x3 x4 := by kernel_rfl
theorem e_spec_ValidTake (k : Nat) (a0 : DTake) : run cod T (G_spec_ValidTake k) (lam L_spec_ValidTake k) (cutsOf L_spec_ValidTake) 0 (finish cod T false 0 [.tmp 2] D_spec_ValidTake) 4000 false [.code (bodyOf Try.f61)] (envOf [0] [.agg [.lit (.int .i64 a0.Next), .inl true .held a0.Held, .lit (.string a0.Open), .inl true .str a0.Ready]]) [] = spec_ValidTake k a0 := by kernel_rfl
theorem ok_spec_ValidTake (k : Nat) : SummOk Try.prog cod 61 (S_spec_ValidTake k) := by
  refine summ_of (T := T) Try.f61 (G_spec_ValidTake) L_spec_ValidTake false [.tmp 2] 0 D_spec_ValidTake mixed (fun k => Known.of tok eok codOk ?_) (fun k => QuietOk.of ?_) Try.func61 (by kernel_rfl) (by kernel_rfl) (by kernel_rfl) (by kernel_rfl) (by kernel_rfl) ?_ ?_ [] ?_
  · exact all_cons (ok_spec_l1In k) (all_cons (ok_spec_l5Near k) (all_cons (ok_spec_l5Can k) (all_nil)))
  · exact all_cons (fun h r => ⟨rfl, rfl⟩) (all_cons (fun h r => ⟨rfl, rfl⟩) (all_cons (fun h r => ⟨rfl, rfl⟩) (all_nil)))
  · intro v os r h
    unfold D_spec_ValidTake at h
    split at h <;> first | (cases h; rfl) | cases h
  · refine all_cons ?_ (all_cons ?_ (all_nil))
    · refine ⟨fun vs os => ?_, by kernel_rfl, fun k vs os r h => ?_⟩
      · show C_spec_ValidTake_4.fn 0 vs os = none
        unfold C_spec_ValidTake_4; dsimp only; split <;> rfl
      · change C_spec_ValidTake_4.fn (k + 1) vs os = some r at h
        unfold C_spec_ValidTake_4 at h; dsimp only at h
        split at h
        · exact ⟨4000, (c_spec_ValidTake_4 k _ _ _ _ _).trans h⟩
        · cases h
    · refine ⟨fun vs os => ?_, by kernel_rfl, fun k vs os r h => ?_⟩
      · show C_spec_ValidTake_9.fn 0 vs os = none
        unfold C_spec_ValidTake_9; dsimp only; split <;> rfl
      · change C_spec_ValidTake_9.fn (k + 1) vs os = some r at h
        unfold C_spec_ValidTake_9 at h; dsimp only at h
        split at h
        · exact ⟨4000, (c_spec_ValidTake_9 k _ _ _ _ _).trans h⟩
        · cases h
  · intro args os r h
    change (S_spec_ValidTake k).run args os = some r at h
    unfold S_spec_ValidTake at h; dsimp only at h
    split at h
    · exact ⟨Nat.le_of_ble_eq_true (by kernel_rfl), rfl, rfl, k, 4000, (e_spec_ValidTake k ⟨_, _, _, _⟩).trans h⟩
    · cases h
noncomputable def S_spec_l5Copy (k : Nat) : Summ K TyK where
  R := DTake
  modes := [.bo]
  run := fun args objs => match args, objs with
    | [.agg [.lit (.int .i64 v1), .inl true .held v2, .lit (.string v3), .inl true .str v4]], [] => spec_l5Copy k (⟨v1, v2, v3, v4⟩ : DTake)
    | _, _ => none
  ret := fun r => (.agg [.lit (.int .i64 r.Next), .own 0, .lit (.string r.Open), .own 1], [.sl .held r.Held, .sl .str r.Ready])
  quiet := false
noncomputable def D_spec_l5Copy (v : V) (os : Objs K TyK) : Option (DTake) :=
  match v, os with
  | .agg [.lit (.int .i64 v1), .own 0, .lit (.string v2), .own 1], [.sl .held v3, .sl .str v4] => some (⟨v1, v3, v2, v4⟩ : DTake)
  | _, _ => none
noncomputable abbrev G_spec_l5Copy (k : Nat) : FuncId → Option (Summ K TyK) := lookT []
noncomputable abbrev L_spec_l5Copy : List (Nat × Cut K TyK (DTake)) := []
theorem e_spec_l5Copy (k : Nat) (a0 : DTake) : run cod T (G_spec_l5Copy k) (lam L_spec_l5Copy k) (cutsOf L_spec_l5Copy) 0 (finish cod T false 0 [.cell 2 29] D_spec_l5Copy) 4000 false [.code (bodyOf Try.f62)] (envOf [0] [.agg [.lit (.int .i64 a0.Next), .inl true .held a0.Held, .lit (.string a0.Open), .inl true .str a0.Ready]]) [] = spec_l5Copy k a0 := by kernel_rfl
theorem ok_spec_l5Copy (k : Nat) : SummOk Try.prog cod 62 (S_spec_l5Copy k) := by
  refine summ_of (T := T) Try.f62 (G_spec_l5Copy) L_spec_l5Copy false [.cell 2 29] 0 D_spec_l5Copy mixed (fun k => Known.of tok eok codOk ?_) (fun k => QuietOk.of ?_) Try.func62 (by kernel_rfl) (by kernel_rfl) (by kernel_rfl) (by kernel_rfl) (by kernel_rfl) ?_ ?_ [] ?_
  · exact all_nil
  · exact all_nil
  · intro v os r h
    unfold D_spec_l5Copy at h
    split at h <;> first | (cases h; rfl) | cases h
  · refine all_nil
  · intro args os r h
    change (S_spec_l5Copy k).run args os = some r at h
    unfold S_spec_l5Copy at h; dsimp only at h
    split at h
    · exact ⟨Nat.le_of_ble_eq_true (by kernel_rfl), rfl, rfl, k, 4000, (e_spec_l5Copy k ⟨_, _, _, _⟩).trans h⟩
    · cases h
noncomputable def S_spec_l5In (k : Nat) : Summ K TyK where
  R := DTake
  modes := [.mv]
  run := fun args objs => match args, objs with
    | [.agg [.lit (.int .i64 v1), .own 0, .lit (.string v2), .own 1]], [.sl .held v3, .sl .str v4] => spec_l5In k (⟨v1, v3, v2, v4⟩ : DTake)
    | _, _ => none
  ret := fun r => (.agg [.lit (.int .i64 r.Next), .own 2, .lit (.string r.Open), .own 3], [.dead, .dead, .sl .held r.Held, .sl .str r.Ready])
  quiet := false
noncomputable def D_spec_l5In (v : V) (os : Objs K TyK) : Option (DTake) :=
  match v, os with
  | .agg [.lit (.int .i64 v1), .own 2, .lit (.string v2), .own 3], [.dead, .dead, .sl .held v3, .sl .str v4] => some (⟨v1, v3, v2, v4⟩ : DTake)
  | _, _ => none
noncomputable def C_spec_l5In_1 : Cut K TyK (DTake) where
  slots := [1, 2]
  fn := fun k vs os => match vs, os with
    | [.ref 2 0, .ref 3 0], [.dead, .dead, .box [.lit (.int .i64 x0), .own 4, .lit (.string x1), .own 5], .box [.lit (.int .i64 x2), .own 6, .lit (.string x3), .own 7], .sl .held x4, .sl .str x5, .sl .held x6, .sl .str x7] => spec_l5In_l1 k x0 x1 x2 x3 x4 x5 x6 x7
    | _, _ => none
noncomputable abbrev G_spec_l5In (k : Nat) : FuncId → Option (Summ K TyK) := lookT [(119, S_spec_l5Can k)]
noncomputable abbrev L_spec_l5In : List (Nat × Cut K TyK (DTake)) := [(1, C_spec_l5In_1)]
theorem c_spec_l5In_1 (k : Nat) (x0 : Int) (x1 : ByteArray) (x2 : Int) (x3 : ByteArray) (x4 : List DHeld) (x5 : List ByteArray) (x6 : List DHeld) (x7 : List ByteArray) : run cod T (G_spec_l5In k) (lam L_spec_l5In k) (cutsOf L_spec_l5In) 2 (finish cod T false 2 [.cell 2 29] D_spec_l5In) 4000 true (todoAt 1 (bodyOf Try.f63)) (envOf [1, 2] [.ref 2 0, .ref 3 0]) [.dead, .dead, .box [.lit (.int .i64 x0), .own 4, .lit (.string x1), .own 5], .box [.lit (.int .i64 x2), .own 6, .lit (.string x3), .own 7], .sl .held x4, .sl .str x5, .sl .held x6, .sl .str x7] = spec_l5In_l1 (k + 1) x0 x1 x2 x3 x4 x5 x6 x7 := by kernel_rfl
theorem e_spec_l5In (k : Nat) (a0 : DTake) : run cod T (G_spec_l5In k) (lam L_spec_l5In k) (cutsOf L_spec_l5In) 2 (finish cod T false 2 [.cell 2 29] D_spec_l5In) 4000 false [.code (bodyOf Try.f63)] (envOf [0] [.agg [.lit (.int .i64 a0.Next), .own 2, .lit (.string a0.Open), .own 3]]) [.dead, .dead, .sl .held a0.Held, .sl .str a0.Ready] = spec_l5In k a0 := by kernel_rfl
theorem ok_spec_l5In (k : Nat) : SummOk Try.prog cod 63 (S_spec_l5In k) := by
  refine summ_of (T := T) Try.f63 (G_spec_l5In) L_spec_l5In false [.cell 2 29] 2 D_spec_l5In mixed (fun k => Known.of tok eok codOk ?_) (fun k => QuietOk.of ?_) Try.func63 (by kernel_rfl) (by kernel_rfl) (by kernel_rfl) (by kernel_rfl) (by kernel_rfl) ?_ ?_ [true, true] ?_
  · exact all_cons (ok_spec_l5Can k) (all_nil)
  · exact all_cons (fun h r => ⟨rfl, rfl⟩) (all_nil)
  · intro v os r h
    unfold D_spec_l5In at h
    split at h <;> first | (cases h; rfl) | cases h
  · refine all_cons ?_ (all_nil)
    · refine ⟨fun vs os => ?_, by kernel_rfl, fun k vs os r h => ?_⟩
      · show C_spec_l5In_1.fn 0 vs os = none
        unfold C_spec_l5In_1; dsimp only; split <;> rfl
      · change C_spec_l5In_1.fn (k + 1) vs os = some r at h
        unfold C_spec_l5In_1 at h; dsimp only at h
        split at h
        · exact ⟨4000, (c_spec_l5In_1 k _ _ _ _ _ _ _ _).trans h⟩
        · cases h
  · intro args os r h
    change (S_spec_l5In k).run args os = some r at h
    unfold S_spec_l5In at h; dsimp only at h
    split at h
    · exact ⟨Nat.le_of_ble_eq_true (by kernel_rfl), rfl, rfl, k, 4000, (e_spec_l5In k ⟨_, _, _, _⟩).trans h⟩
    · cases h
noncomputable def S_impl_in (k : Nat) : Summ K TyK where
  R := Bool
  modes := [.bo, .bo, .bo]
  run := fun args objs => match args, objs with
    | [.lit (.int .i64 v1), .lit (.int .i64 v2), .lit (.int .i64 v3)], [] => impl_in k v1 v2 v3
    | _, _ => none
  ret := fun r => (.lit (.bool r), [])
  quiet := true
noncomputable def D_impl_in (v : V) (os : Objs K TyK) : Option (Bool) :=
  match v, os with
  | .lit (.bool v1), [] => some v1
  | _, _ => none
noncomputable abbrev G_impl_in (k : Nat) : FuncId → Option (Summ K TyK) := lookT []
noncomputable abbrev L_impl_in : List (Nat × Cut K TyK (Bool)) := []
theorem e_impl_in (k : Nat) (a0 : Int) (a1 : Int) (a2 : Int) : run cod T (G_impl_in k) (lam L_impl_in k) (cutsOf L_impl_in) 0 (finish cod T false 0 [.tmp 6] D_impl_in) 4000 false [.code (bodyOf Try.f76)] (envOf [0, 1, 2] [.lit (.int .i64 a0), .lit (.int .i64 a1), .lit (.int .i64 a2)]) [] = impl_in k a0 a1 a2 := by kernel_rfl
theorem ok_impl_in (k : Nat) : SummOk Try.prog cod 76 (S_impl_in k) := by
  refine summ_of (T := T) Try.f76 (G_impl_in) L_impl_in false [.tmp 6] 0 D_impl_in mixed (fun k => Known.of tok eok codOk ?_) (fun k => QuietOk.of ?_) Try.func76 (by kernel_rfl) (by kernel_rfl) (by kernel_rfl) (by kernel_rfl) (by kernel_rfl) ?_ ?_ [] ?_
  · exact all_nil
  · exact all_nil
  · intro v os r h
    unfold D_impl_in at h
    split at h <;> first | (cases h; rfl) | cases h
  · refine all_nil
  · intro args os r h
    change (S_impl_in k).run args os = some r at h
    unfold S_impl_in at h; dsimp only at h
    split at h
    · exact ⟨Nat.le_of_ble_eq_true (by kernel_rfl), rfl, rfl, k, 4000, (e_impl_in k _ _ _).trans h⟩
    · cases h
noncomputable def S_impl_goes (k : Nat) : Summ K TyK where
  R := Bool
  modes := [.bo, .bo]
  run := fun args objs => match args, objs with
    | [.agg [.lit (.int .i64 v1), .inl true .held v2, .lit (.string v3), .inl true .str v4], .agg [.lit (.string v5), .lit (.bool v6)]], [] => impl_goes k (⟨v1, v2, v3, v4⟩ : DTake) (⟨v5, v6⟩ : DPart)
    | _, _ => none
  ret := fun r => (.lit (.bool r), [])
  quiet := true
noncomputable def D_impl_goes (v : V) (os : Objs K TyK) : Option (Bool) :=
  match v, os with
  | .lit (.bool v1), [] => some v1
  | _, _ => none
noncomputable abbrev G_impl_goes (k : Nat) : FuncId → Option (Summ K TyK) := lookT []
noncomputable abbrev L_impl_goes : List (Nat × Cut K TyK (Bool)) := []
theorem e_impl_goes (k : Nat) (a0 : DTake) (a1 : DPart) : run cod T (G_impl_goes k) (lam L_impl_goes k) (cutsOf L_impl_goes) 0 (finish cod T false 0 [.tmp 4] D_impl_goes) 4000 false [.code (bodyOf Try.f121)] (envOf [0, 1] [.agg [.lit (.int .i64 a0.Next), .inl true .held a0.Held, .lit (.string a0.Open), .inl true .str a0.Ready], .agg [.lit (.string a1.Text), .lit (.bool a1.Last)]]) [] = impl_goes k a0 a1 := by kernel_rfl
theorem ok_impl_goes (k : Nat) : SummOk Try.prog cod 121 (S_impl_goes k) := by
  refine summ_of (T := T) Try.f121 (G_impl_goes) L_impl_goes false [.tmp 4] 0 D_impl_goes mixed (fun k => Known.of tok eok codOk ?_) (fun k => QuietOk.of ?_) Try.func121 (by kernel_rfl) (by kernel_rfl) (by kernel_rfl) (by kernel_rfl) (by kernel_rfl) ?_ ?_ [] ?_
  · exact all_nil
  · exact all_nil
  · intro v os r h
    unfold D_impl_goes at h
    split at h <;> first | (cases h; rfl) | cases h
  · refine all_nil
  · intro args os r h
    change (S_impl_goes k).run args os = some r at h
    unfold S_impl_goes at h; dsimp only at h
    split at h
    · exact ⟨Nat.le_of_ble_eq_true (by kernel_rfl), rfl, rfl, k, 4000, (e_impl_goes k ⟨_, _, _, _⟩ ⟨_, _⟩).trans h⟩
    · cases h
noncomputable def S_impl_ValidTake (k : Nat) : Summ K TyK where
  R := Bool
  modes := [.bo]
  run := fun args objs => match args, objs with
    | [.agg [.lit (.int .i64 v1), .inl true .held v2, .lit (.string v3), .inl true .str v4]], [] => impl_ValidTake k (⟨v1, v2, v3, v4⟩ : DTake)
    | _, _ => none
  ret := fun r => (.lit (.bool r), [])
  quiet := true
noncomputable def D_impl_ValidTake (v : V) (os : Objs K TyK) : Option (Bool) :=
  match v, os with
  | .lit (.bool v1), [] => some v1
  | _, _ => none
noncomputable def C_impl_ValidTake_4 : Cut K TyK (Bool) where
  slots := [1, 30, 31, 32]
  fn := fun k vs os => match vs, os with
    | [.ref 0 0, .inl true .held x0, .lit (.int .i64 x1), .lit (.int .i64 x2)], [.box [.lit (.int .i64 x3), .inl true .held x4, .lit (.string x5), .inl true .str x6]] => impl_ValidTake_l4 k x0 x1 x2 x3 x4 x5 x6
    | _, _ => none
noncomputable def C_impl_ValidTake_12 : Cut K TyK (Bool) where
  slots := [88, 89, 90]
  fn := fun k vs os => match vs, os with
    | [.inl true .str x0, .lit (.int .i64 x1), .lit (.int .i64 x2)], [] => impl_ValidTake_l12 k x0 x1 x2
    | _, _ => none
noncomputable abbrev G_impl_ValidTake (k : Nat) : FuncId → Option (Summ K TyK) := lookT [(76, S_impl_in k), (121, S_impl_goes k)]
noncomputable abbrev L_impl_ValidTake : List (Nat × Cut K TyK (Bool)) := [(4, C_impl_ValidTake_4), (12, C_impl_ValidTake_12)]
theorem c_impl_ValidTake_4 (k : Nat) (x0 : List DHeld) (x1 : Int) (x2 : Int) (x3 : Int) (x4 : List DHeld) (x5 : ByteArray) (x6 : List ByteArray) : run cod T (G_impl_ValidTake k) (lam L_impl_ValidTake k) (cutsOf L_impl_ValidTake) 0 (finish cod T false 0 [.tmp 2] D_impl_ValidTake) 4000 true (todoAt 4 (bodyOf Try.f66)) (envOf [1, 30, 31, 32] [.ref 0 0, .inl true .held x0, .lit (.int .i64 x1), .lit (.int .i64 x2)]) [.box [.lit (.int .i64 x3), .inl true .held x4, .lit (.string x5), .inl true .str x6]] = impl_ValidTake_l4 (k + 1) x0 x1 x2 x3 x4 x5 x6 := by kernel_rfl
theorem c_impl_ValidTake_12 (k : Nat) (x0 : List ByteArray) (x1 : Int) (x2 : Int) : run cod T (G_impl_ValidTake k) (lam L_impl_ValidTake k) (cutsOf L_impl_ValidTake) 0 (finish cod T false 0 [.tmp 2] D_impl_ValidTake) 4000 true (todoAt 12 (bodyOf Try.f66)) (envOf [88, 89, 90] [.inl true .str x0, .lit (.int .i64 x1), .lit (.int .i64 x2)]) [] = impl_ValidTake_l12 (k + 1) x0 x1 x2 := by kernel_rfl
theorem e_impl_ValidTake (k : Nat) (a0 : DTake) : run cod T (G_impl_ValidTake k) (lam L_impl_ValidTake k) (cutsOf L_impl_ValidTake) 0 (finish cod T false 0 [.tmp 2] D_impl_ValidTake) 4000 false [.code (bodyOf Try.f66)] (envOf [0] [.agg [.lit (.int .i64 a0.Next), .inl true .held a0.Held, .lit (.string a0.Open), .inl true .str a0.Ready]]) [] = impl_ValidTake k a0 := by kernel_rfl
theorem ok_impl_ValidTake (k : Nat) : SummOk Try.prog cod 66 (S_impl_ValidTake k) := by
  refine summ_of (T := T) Try.f66 (G_impl_ValidTake) L_impl_ValidTake false [.tmp 2] 0 D_impl_ValidTake mixed (fun k => Known.of tok eok codOk ?_) (fun k => QuietOk.of ?_) Try.func66 (by kernel_rfl) (by kernel_rfl) (by kernel_rfl) (by kernel_rfl) (by kernel_rfl) ?_ ?_ [] ?_
  · exact all_cons (ok_impl_in k) (all_cons (ok_impl_goes k) (all_nil))
  · exact all_cons (fun h r => ⟨rfl, rfl⟩) (all_cons (fun h r => ⟨rfl, rfl⟩) (all_nil))
  · intro v os r h
    unfold D_impl_ValidTake at h
    split at h <;> first | (cases h; rfl) | cases h
  · refine all_cons ?_ (all_cons ?_ (all_nil))
    · refine ⟨fun vs os => ?_, by kernel_rfl, fun k vs os r h => ?_⟩
      · show C_impl_ValidTake_4.fn 0 vs os = none
        unfold C_impl_ValidTake_4; dsimp only; split <;> rfl
      · change C_impl_ValidTake_4.fn (k + 1) vs os = some r at h
        unfold C_impl_ValidTake_4 at h; dsimp only at h
        split at h
        · exact ⟨4000, (c_impl_ValidTake_4 k _ _ _ _ _ _ _).trans h⟩
        · cases h
    · refine ⟨fun vs os => ?_, by kernel_rfl, fun k vs os r h => ?_⟩
      · show C_impl_ValidTake_12.fn 0 vs os = none
        unfold C_impl_ValidTake_12; dsimp only; split <;> rfl
      · change C_impl_ValidTake_12.fn (k + 1) vs os = some r at h
        unfold C_impl_ValidTake_12 at h; dsimp only at h
        split at h
        · exact ⟨4000, (c_impl_ValidTake_12 k _ _ _).trans h⟩
        · cases h
  · intro args os r h
    change (S_impl_ValidTake k).run args os = some r at h
    unfold S_impl_ValidTake at h; dsimp only at h
    split at h
    · exact ⟨Nat.le_of_ble_eq_true (by kernel_rfl), rfl, rfl, k, 4000, (e_impl_ValidTake k ⟨_, _, _, _⟩).trans h⟩
    · cases h
noncomputable def S_impl_copyTake (k : Nat) : Summ K TyK where
  R := DTake
  modes := [.bo]
  run := fun args objs => match args, objs with
    | [.agg [.lit (.int .i64 v1), .inl true .held v2, .lit (.string v3), .inl true .str v4]], [] => impl_copyTake k (⟨v1, v2, v3, v4⟩ : DTake)
    | _, _ => none
  ret := fun r => (.agg [.lit (.int .i64 r.Next), .own 0, .lit (.string r.Open), .own 1], [.sl .held r.Held, .sl .str r.Ready])
  quiet := false
noncomputable def D_impl_copyTake (v : V) (os : Objs K TyK) : Option (DTake) :=
  match v, os with
  | .agg [.lit (.int .i64 v1), .own 0, .lit (.string v2), .own 1], [.sl .held v3, .sl .str v4] => some (⟨v1, v3, v2, v4⟩ : DTake)
  | _, _ => none
noncomputable abbrev G_impl_copyTake (k : Nat) : FuncId → Option (Summ K TyK) := lookT []
noncomputable abbrev L_impl_copyTake : List (Nat × Cut K TyK (DTake)) := []
theorem e_impl_copyTake (k : Nat) (a0 : DTake) : run cod T (G_impl_copyTake k) (lam L_impl_copyTake k) (cutsOf L_impl_copyTake) 0 (finish cod T false 0 [.cell 2 29] D_impl_copyTake) 4000 false [.code (bodyOf Try.f67)] (envOf [0] [.agg [.lit (.int .i64 a0.Next), .inl true .held a0.Held, .lit (.string a0.Open), .inl true .str a0.Ready]]) [] = impl_copyTake k a0 := by kernel_rfl
theorem ok_impl_copyTake (k : Nat) : SummOk Try.prog cod 67 (S_impl_copyTake k) := by
  refine summ_of (T := T) Try.f67 (G_impl_copyTake) L_impl_copyTake false [.cell 2 29] 0 D_impl_copyTake mixed (fun k => Known.of tok eok codOk ?_) (fun k => QuietOk.of ?_) Try.func67 (by kernel_rfl) (by kernel_rfl) (by kernel_rfl) (by kernel_rfl) (by kernel_rfl) ?_ ?_ [] ?_
  · exact all_nil
  · exact all_nil
  · intro v os r h
    unfold D_impl_copyTake at h
    split at h <;> first | (cases h; rfl) | cases h
  · refine all_nil
  · intro args os r h
    change (S_impl_copyTake k).run args os = some r at h
    unfold S_impl_copyTake at h; dsimp only at h
    split at h
    · exact ⟨Nat.le_of_ble_eq_true (by kernel_rfl), rfl, rfl, k, 4000, (e_impl_copyTake k ⟨_, _, _, _⟩).trans h⟩
    · cases h
noncomputable def S_impl_flow (k : Nat) : Summ K TyK where
  R := DTake
  modes := [.mv]
  run := fun args objs => match args, objs with
    | [.agg [.lit (.int .i64 v1), .own 0, .lit (.string v2), .own 1]], [.sl .held v3, .sl .str v4] => impl_flow k (⟨v1, v3, v2, v4⟩ : DTake)
    | _, _ => none
  ret := fun r => (.agg [.lit (.int .i64 r.Next), .own 2, .lit (.string r.Open), .own 3], [.dead, .dead, .sl .held r.Held, .sl .str r.Ready])
  quiet := false
noncomputable def D_impl_flow (v : V) (os : Objs K TyK) : Option (DTake) :=
  match v, os with
  | .agg [.lit (.int .i64 v1), .own 2, .lit (.string v2), .own 3], [.dead, .dead, .sl .held v3, .sl .str v4] => some (⟨v1, v3, v2, v4⟩ : DTake)
  | _, _ => none
noncomputable def C_impl_flow_1 : Cut K TyK (DTake) where
  slots := [1, 2]
  fn := fun k vs os => match vs, os with
    | [.ref 2 0, .ref 3 0], [.dead, .dead, .box [.lit (.int .i64 x0), .own 4, .lit (.string x1), .own 5], .box [.lit (.int .i64 x2), .own 6, .lit (.string x3), .own 7], .sl .held x4, .sl .str x5, .sl .held x6, .sl .str x7] => impl_flow_l1 k x0 x1 x2 x3 x4 x5 x6 x7
    | _, _ => none
noncomputable abbrev G_impl_flow (k : Nat) : FuncId → Option (Summ K TyK) := lookT [(121, S_impl_goes k)]
noncomputable abbrev L_impl_flow : List (Nat × Cut K TyK (DTake)) := [(1, C_impl_flow_1)]
theorem c_impl_flow_1 (k : Nat) (x0 : Int) (x1 : ByteArray) (x2 : Int) (x3 : ByteArray) (x4 : List DHeld) (x5 : List ByteArray) (x6 : List DHeld) (x7 : List ByteArray) : run cod T (G_impl_flow k) (lam L_impl_flow k) (cutsOf L_impl_flow) 2 (finish cod T false 2 [.cell 2 29] D_impl_flow) 4000 true (todoAt 1 (bodyOf Try.f68)) (envOf [1, 2] [.ref 2 0, .ref 3 0]) [.dead, .dead, .box [.lit (.int .i64 x0), .own 4, .lit (.string x1), .own 5], .box [.lit (.int .i64 x2), .own 6, .lit (.string x3), .own 7], .sl .held x4, .sl .str x5, .sl .held x6, .sl .str x7] = impl_flow_l1 (k + 1) x0 x1 x2 x3 x4 x5 x6 x7 := by kernel_rfl
theorem e_impl_flow (k : Nat) (a0 : DTake) : run cod T (G_impl_flow k) (lam L_impl_flow k) (cutsOf L_impl_flow) 2 (finish cod T false 2 [.cell 2 29] D_impl_flow) 4000 false [.code (bodyOf Try.f68)] (envOf [0] [.agg [.lit (.int .i64 a0.Next), .own 2, .lit (.string a0.Open), .own 3]]) [.dead, .dead, .sl .held a0.Held, .sl .str a0.Ready] = impl_flow k a0 := by kernel_rfl
theorem ok_impl_flow (k : Nat) : SummOk Try.prog cod 68 (S_impl_flow k) := by
  refine summ_of (T := T) Try.f68 (G_impl_flow) L_impl_flow false [.cell 2 29] 2 D_impl_flow mixed (fun k => Known.of tok eok codOk ?_) (fun k => QuietOk.of ?_) Try.func68 (by kernel_rfl) (by kernel_rfl) (by kernel_rfl) (by kernel_rfl) (by kernel_rfl) ?_ ?_ [true, true] ?_
  · exact all_cons (ok_impl_goes k) (all_nil)
  · exact all_cons (fun h r => ⟨rfl, rfl⟩) (all_nil)
  · intro v os r h
    unfold D_impl_flow at h
    split at h <;> first | (cases h; rfl) | cases h
  · refine all_cons ?_ (all_nil)
    · refine ⟨fun vs os => ?_, by kernel_rfl, fun k vs os r h => ?_⟩
      · show C_impl_flow_1.fn 0 vs os = none
        unfold C_impl_flow_1; dsimp only; split <;> rfl
      · change C_impl_flow_1.fn (k + 1) vs os = some r at h
        unfold C_impl_flow_1 at h; dsimp only at h
        split at h
        · exact ⟨4000, (c_impl_flow_1 k _ _ _ _ _ _ _ _).trans h⟩
        · cases h
  · intro args os r h
    change (S_impl_flow k).run args os = some r at h
    unfold S_impl_flow at h; dsimp only at h
    split at h
    · exact ⟨Nat.le_of_ble_eq_true (by kernel_rfl), rfl, rfl, k, 4000, (e_impl_flow k ⟨_, _, _, _⟩).trans h⟩
    · cases h
noncomputable def S_laws_eqPart (k : Nat) : Summ K TyK where
  R := Bool
  modes := [.bo, .bo]
  run := fun args objs => match args, objs with
    | [.agg [.lit (.string v1), .lit (.bool v2)], .agg [.lit (.string v3), .lit (.bool v4)]], [] => laws_eqPart k (⟨v1, v2⟩ : DPart) (⟨v3, v4⟩ : DPart)
    | _, _ => none
  ret := fun r => (.lit (.bool r), [])
  quiet := true
noncomputable def D_laws_eqPart (v : V) (os : Objs K TyK) : Option (Bool) :=
  match v, os with
  | .lit (.bool v1), [] => some v1
  | _, _ => none
noncomputable abbrev G_laws_eqPart (k : Nat) : FuncId → Option (Summ K TyK) := lookT []
noncomputable abbrev L_laws_eqPart : List (Nat × Cut K TyK (Bool)) := []
theorem e_laws_eqPart (k : Nat) (a0 : DPart) (a1 : DPart) : run cod T (G_laws_eqPart k) (lam L_laws_eqPart k) (cutsOf L_laws_eqPart) 0 (finish cod T false 0 [.tmp 4] D_laws_eqPart) 4000 false [.code (bodyOf Try.f140)] (envOf [0, 1] [.agg [.lit (.string a0.Text), .lit (.bool a0.Last)], .agg [.lit (.string a1.Text), .lit (.bool a1.Last)]]) [] = laws_eqPart k a0 a1 := by kernel_rfl
theorem ok_laws_eqPart (k : Nat) : SummOk Try.prog cod 140 (S_laws_eqPart k) := by
  refine summ_of (T := T) Try.f140 (G_laws_eqPart) L_laws_eqPart false [.tmp 4] 0 D_laws_eqPart mixed (fun k => Known.of tok eok codOk ?_) (fun k => QuietOk.of ?_) Try.func140 (by kernel_rfl) (by kernel_rfl) (by kernel_rfl) (by kernel_rfl) (by kernel_rfl) ?_ ?_ [] ?_
  · exact all_nil
  · exact all_nil
  · intro v os r h
    unfold D_laws_eqPart at h
    split at h <;> first | (cases h; rfl) | cases h
  · refine all_nil
  · intro args os r h
    change (S_laws_eqPart k).run args os = some r at h
    unfold S_laws_eqPart at h; dsimp only at h
    split at h
    · exact ⟨Nat.le_of_ble_eq_true (by kernel_rfl), rfl, rfl, k, 4000, (e_laws_eqPart k ⟨_, _⟩ ⟨_, _⟩).trans h⟩
    · cases h
noncomputable def S_laws_eqHeld (k : Nat) : Summ K TyK where
  R := Bool
  modes := [.bo, .bo]
  run := fun args objs => match args, objs with
    | [.agg [.lit (.int .i64 v1), .lit (.string v2), .lit (.bool v3)], .agg [.lit (.int .i64 v4), .lit (.string v5), .lit (.bool v6)]], [] => laws_eqHeld k (⟨v1, (⟨v2, v3⟩ : DPart)⟩ : DHeld) (⟨v4, (⟨v5, v6⟩ : DPart)⟩ : DHeld)
    | _, _ => none
  ret := fun r => (.lit (.bool r), [])
  quiet := true
noncomputable def D_laws_eqHeld (v : V) (os : Objs K TyK) : Option (Bool) :=
  match v, os with
  | .lit (.bool v1), [] => some v1
  | _, _ => none
noncomputable abbrev G_laws_eqHeld (k : Nat) : FuncId → Option (Summ K TyK) := lookT [(140, S_laws_eqPart k)]
noncomputable abbrev L_laws_eqHeld : List (Nat × Cut K TyK (Bool)) := []
theorem e_laws_eqHeld (k : Nat) (a0 : DHeld) (a1 : DHeld) : run cod T (G_laws_eqHeld k) (lam L_laws_eqHeld k) (cutsOf L_laws_eqHeld) 0 (finish cod T false 0 [.tmp 4] D_laws_eqHeld) 4000 false [.code (bodyOf Try.f122)] (envOf [0, 1] [.agg [.lit (.int .i64 a0.Seq), .lit (.string a0.Part.Text), .lit (.bool a0.Part.Last)], .agg [.lit (.int .i64 a1.Seq), .lit (.string a1.Part.Text), .lit (.bool a1.Part.Last)]]) [] = laws_eqHeld k a0 a1 := by kernel_rfl
theorem ok_laws_eqHeld (k : Nat) : SummOk Try.prog cod 122 (S_laws_eqHeld k) := by
  refine summ_of (T := T) Try.f122 (G_laws_eqHeld) L_laws_eqHeld false [.tmp 4] 0 D_laws_eqHeld mixed (fun k => Known.of tok eok codOk ?_) (fun k => QuietOk.of ?_) Try.func122 (by kernel_rfl) (by kernel_rfl) (by kernel_rfl) (by kernel_rfl) (by kernel_rfl) ?_ ?_ [] ?_
  · exact all_cons (ok_laws_eqPart k) (all_nil)
  · exact all_cons (fun h r => ⟨rfl, rfl⟩) (all_nil)
  · intro v os r h
    unfold D_laws_eqHeld at h
    split at h <;> first | (cases h; rfl) | cases h
  · refine all_nil
  · intro args os r h
    change (S_laws_eqHeld k).run args os = some r at h
    unfold S_laws_eqHeld at h; dsimp only at h
    split at h
    · exact ⟨Nat.le_of_ble_eq_true (by kernel_rfl), rfl, rfl, k, 4000, (e_laws_eqHeld k ⟨_, ⟨_, _⟩⟩ ⟨_, ⟨_, _⟩⟩).trans h⟩
    · cases h
noncomputable def S_laws_eqHeldS (k : Nat) : Summ K TyK where
  R := Bool
  modes := [.bo, .bo]
  run := fun args objs => match args, objs with
    | [.inl true .held v1, .inl true .held v2], [] => laws_eqHeldS k v1 v2
    | _, _ => none
  ret := fun r => (.lit (.bool r), [])
  quiet := true
noncomputable def D_laws_eqHeldS (v : V) (os : Objs K TyK) : Option (Bool) :=
  match v, os with
  | .lit (.bool v1), [] => some v1
  | _, _ => none
noncomputable def C_laws_eqHeldS_4 : Cut K TyK (Bool) where
  slots := [0, 1, 5]
  fn := fun k vs os => match vs, os with
    | [.inl true .held x0, .inl true .held x1, .lit (.int .i64 x2)], [] => laws_eqHeldS_l4 k x0 x1 x2
    | _, _ => none
noncomputable abbrev G_laws_eqHeldS (k : Nat) : FuncId → Option (Summ K TyK) := lookT [(122, S_laws_eqHeld k)]
noncomputable abbrev L_laws_eqHeldS : List (Nat × Cut K TyK (Bool)) := [(4, C_laws_eqHeldS_4)]
theorem c_laws_eqHeldS_4 (k : Nat) (x0 : List DHeld) (x1 : List DHeld) (x2 : Int) : run cod T (G_laws_eqHeldS k) (lam L_laws_eqHeldS k) (cutsOf L_laws_eqHeldS) 0 (finish cod T false 0 [.tmp 4] D_laws_eqHeldS) 4000 true (todoAt 4 (bodyOf Try.f69)) (envOf [0, 1, 5] [.inl true .held x0, .inl true .held x1, .lit (.int .i64 x2)]) [] = laws_eqHeldS_l4 (k + 1) x0 x1 x2 := by kernel_rfl
theorem e_laws_eqHeldS (k : Nat) (a0 : List DHeld) (a1 : List DHeld) : run cod T (G_laws_eqHeldS k) (lam L_laws_eqHeldS k) (cutsOf L_laws_eqHeldS) 0 (finish cod T false 0 [.tmp 4] D_laws_eqHeldS) 4000 false [.code (bodyOf Try.f69)] (envOf [0, 1] [.inl true .held a0, .inl true .held a1]) [] = laws_eqHeldS k a0 a1 := by kernel_rfl
theorem ok_laws_eqHeldS (k : Nat) : SummOk Try.prog cod 69 (S_laws_eqHeldS k) := by
  refine summ_of (T := T) Try.f69 (G_laws_eqHeldS) L_laws_eqHeldS false [.tmp 4] 0 D_laws_eqHeldS mixed (fun k => Known.of tok eok codOk ?_) (fun k => QuietOk.of ?_) Try.func69 (by kernel_rfl) (by kernel_rfl) (by kernel_rfl) (by kernel_rfl) (by kernel_rfl) ?_ ?_ [] ?_
  · exact all_cons (ok_laws_eqHeld k) (all_nil)
  · exact all_cons (fun h r => ⟨rfl, rfl⟩) (all_nil)
  · intro v os r h
    unfold D_laws_eqHeldS at h
    split at h <;> first | (cases h; rfl) | cases h
  · refine all_cons ?_ (all_nil)
    · refine ⟨fun vs os => ?_, by kernel_rfl, fun k vs os r h => ?_⟩
      · show C_laws_eqHeldS_4.fn 0 vs os = none
        unfold C_laws_eqHeldS_4; dsimp only; split <;> rfl
      · change C_laws_eqHeldS_4.fn (k + 1) vs os = some r at h
        unfold C_laws_eqHeldS_4 at h; dsimp only at h
        split at h
        · exact ⟨4000, (c_laws_eqHeldS_4 k _ _ _).trans h⟩
        · cases h
  · intro args os r h
    change (S_laws_eqHeldS k).run args os = some r at h
    unfold S_laws_eqHeldS at h; dsimp only at h
    split at h
    · exact ⟨Nat.le_of_ble_eq_true (by kernel_rfl), rfl, rfl, k, 4000, (e_laws_eqHeldS k _ _).trans h⟩
    · cases h
noncomputable def S_laws_eqStringS (k : Nat) : Summ K TyK where
  R := Bool
  modes := [.bo, .bo]
  run := fun args objs => match args, objs with
    | [.inl true .str v1, .inl true .str v2], [] => laws_eqStringS k v1 v2
    | _, _ => none
  ret := fun r => (.lit (.bool r), [])
  quiet := true
noncomputable def D_laws_eqStringS (v : V) (os : Objs K TyK) : Option (Bool) :=
  match v, os with
  | .lit (.bool v1), [] => some v1
  | _, _ => none
noncomputable def C_laws_eqStringS_4 : Cut K TyK (Bool) where
  slots := [0, 1, 5]
  fn := fun k vs os => match vs, os with
    | [.inl true .str x0, .inl true .str x1, .lit (.int .i64 x2)], [] => laws_eqStringS_l4 k x0 x1 x2
    | _, _ => none
noncomputable abbrev G_laws_eqStringS (k : Nat) : FuncId → Option (Summ K TyK) := lookT []
noncomputable abbrev L_laws_eqStringS : List (Nat × Cut K TyK (Bool)) := [(4, C_laws_eqStringS_4)]
theorem c_laws_eqStringS_4 (k : Nat) (x0 : List ByteArray) (x1 : List ByteArray) (x2 : Int) : run cod T (G_laws_eqStringS k) (lam L_laws_eqStringS k) (cutsOf L_laws_eqStringS) 0 (finish cod T false 0 [.tmp 4] D_laws_eqStringS) 4000 true (todoAt 4 (bodyOf Try.f70)) (envOf [0, 1, 5] [.inl true .str x0, .inl true .str x1, .lit (.int .i64 x2)]) [] = laws_eqStringS_l4 (k + 1) x0 x1 x2 := by kernel_rfl
theorem e_laws_eqStringS (k : Nat) (a0 : List ByteArray) (a1 : List ByteArray) : run cod T (G_laws_eqStringS k) (lam L_laws_eqStringS k) (cutsOf L_laws_eqStringS) 0 (finish cod T false 0 [.tmp 4] D_laws_eqStringS) 4000 false [.code (bodyOf Try.f70)] (envOf [0, 1] [.inl true .str a0, .inl true .str a1]) [] = laws_eqStringS k a0 a1 := by kernel_rfl
theorem ok_laws_eqStringS (k : Nat) : SummOk Try.prog cod 70 (S_laws_eqStringS k) := by
  refine summ_of (T := T) Try.f70 (G_laws_eqStringS) L_laws_eqStringS false [.tmp 4] 0 D_laws_eqStringS mixed (fun k => Known.of tok eok codOk ?_) (fun k => QuietOk.of ?_) Try.func70 (by kernel_rfl) (by kernel_rfl) (by kernel_rfl) (by kernel_rfl) (by kernel_rfl) ?_ ?_ [] ?_
  · exact all_nil
  · exact all_nil
  · intro v os r h
    unfold D_laws_eqStringS at h
    split at h <;> first | (cases h; rfl) | cases h
  · refine all_cons ?_ (all_nil)
    · refine ⟨fun vs os => ?_, by kernel_rfl, fun k vs os r h => ?_⟩
      · show C_laws_eqStringS_4.fn 0 vs os = none
        unfold C_laws_eqStringS_4; dsimp only; split <;> rfl
      · change C_laws_eqStringS_4.fn (k + 1) vs os = some r at h
        unfold C_laws_eqStringS_4 at h; dsimp only at h
        split at h
        · exact ⟨4000, (c_laws_eqStringS_4 k _ _ _).trans h⟩
        · cases h
  · intro args os r h
    change (S_laws_eqStringS k).run args os = some r at h
    unfold S_laws_eqStringS at h; dsimp only at h
    split at h
    · exact ⟨Nat.le_of_ble_eq_true (by kernel_rfl), rfl, rfl, k, 4000, (e_laws_eqStringS k _ _).trans h⟩
    · cases h
noncomputable def S_laws_eqTake (k : Nat) : Summ K TyK where
  R := Bool
  modes := [.bo, .bo]
  run := fun args objs => match args, objs with
    | [.agg [.lit (.int .i64 v1), .inl true .held v2, .lit (.string v3), .inl true .str v4], .agg [.lit (.int .i64 v5), .inl true .held v6, .lit (.string v7), .inl true .str v8]], [] => laws_eqTake k (⟨v1, v2, v3, v4⟩ : DTake) (⟨v5, v6, v7, v8⟩ : DTake)
    | _, _ => none
  ret := fun r => (.lit (.bool r), [])
  quiet := true
noncomputable def D_laws_eqTake (v : V) (os : Objs K TyK) : Option (Bool) :=
  match v, os with
  | .lit (.bool v1), [] => some v1
  | _, _ => none
noncomputable abbrev G_laws_eqTake (k : Nat) : FuncId → Option (Summ K TyK) := lookT [(69, S_laws_eqHeldS k), (70, S_laws_eqStringS k)]
noncomputable abbrev L_laws_eqTake : List (Nat × Cut K TyK (Bool)) := []
theorem e_laws_eqTake (k : Nat) (a0 : DTake) (a1 : DTake) : run cod T (G_laws_eqTake k) (lam L_laws_eqTake k) (cutsOf L_laws_eqTake) 0 (finish cod T false 0 [.tmp 4] D_laws_eqTake) 4000 false [.code (bodyOf Try.f19)] (envOf [0, 1] [.agg [.lit (.int .i64 a0.Next), .inl true .held a0.Held, .lit (.string a0.Open), .inl true .str a0.Ready], .agg [.lit (.int .i64 a1.Next), .inl true .held a1.Held, .lit (.string a1.Open), .inl true .str a1.Ready]]) [] = laws_eqTake k a0 a1 := by kernel_rfl
theorem ok_laws_eqTake (k : Nat) : SummOk Try.prog cod 19 (S_laws_eqTake k) := by
  refine summ_of (T := T) Try.f19 (G_laws_eqTake) L_laws_eqTake false [.tmp 4] 0 D_laws_eqTake mixed (fun k => Known.of tok eok codOk ?_) (fun k => QuietOk.of ?_) Try.func19 (by kernel_rfl) (by kernel_rfl) (by kernel_rfl) (by kernel_rfl) (by kernel_rfl) ?_ ?_ [] ?_
  · exact all_cons (ok_laws_eqHeldS k) (all_cons (ok_laws_eqStringS k) (all_nil))
  · exact all_cons (fun h r => ⟨rfl, rfl⟩) (all_cons (fun h r => ⟨rfl, rfl⟩) (all_nil))
  · intro v os r h
    unfold D_laws_eqTake at h
    split at h <;> first | (cases h; rfl) | cases h
  · refine all_nil
  · intro args os r h
    change (S_laws_eqTake k).run args os = some r at h
    unfold S_laws_eqTake at h; dsimp only at h
    split at h
    · exact ⟨Nat.le_of_ble_eq_true (by kernel_rfl), rfl, rfl, k, 4000, (e_laws_eqTake k ⟨_, _, _, _⟩ ⟨_, _, _, _⟩).trans h⟩
    · cases h
noncomputable def S_laws_markText (k : Nat) : Summ K TyK where
  R := ByteArray
  modes := [.bo]
  run := fun args objs => match args, objs with
    | [.lit (.int .i64 v1)], [] => laws_markText k v1
    | _, _ => none
  ret := fun r => (.lit (.string r), [])
  quiet := true
noncomputable def D_laws_markText (v : V) (os : Objs K TyK) : Option (ByteArray) :=
  match v, os with
  | .lit (.string v1), [] => some v1
  | _, _ => none
noncomputable def C_laws_markText_4 : Cut K TyK (ByteArray) where
  slots := [0, 3]
  fn := fun k vs os => match vs, os with
    | [.lit (.int .i64 x0), .lit (.string x1)], [] => laws_markText_l4 k x0 x1
    | _, _ => none
noncomputable abbrev G_laws_markText (k : Nat) : FuncId → Option (Summ K TyK) := lookT []
noncomputable abbrev L_laws_markText : List (Nat × Cut K TyK (ByteArray)) := [(4, C_laws_markText_4)]
theorem c_laws_markText_4 (k : Nat) (x0 : Int) (x1 : ByteArray) : run cod T (G_laws_markText k) (lam L_laws_markText k) (cutsOf L_laws_markText) 0 (finish cod T false 0 [.tmp 2] D_laws_markText) 4000 true (todoAt 4 (bodyOf Try.f123)) (envOf [0, 3] [.lit (.int .i64 x0), .lit (.string x1)]) [] = laws_markText_l4 (k + 1) x0 x1 := by kernel_rfl
theorem e_laws_markText (k : Nat) (a0 : Int) : run cod T (G_laws_markText k) (lam L_laws_markText k) (cutsOf L_laws_markText) 0 (finish cod T false 0 [.tmp 2] D_laws_markText) 4000 false [.code (bodyOf Try.f123)] (envOf [0] [.lit (.int .i64 a0)]) [] = laws_markText k a0 := by kernel_rfl
theorem ok_laws_markText (k : Nat) : SummOk Try.prog cod 123 (S_laws_markText k) := by
  refine summ_of (T := T) Try.f123 (G_laws_markText) L_laws_markText false [.tmp 2] 0 D_laws_markText mixed (fun k => Known.of tok eok codOk ?_) (fun k => QuietOk.of ?_) Try.func123 (by kernel_rfl) (by kernel_rfl) (by kernel_rfl) (by kernel_rfl) (by kernel_rfl) ?_ ?_ [] ?_
  · exact all_nil
  · exact all_nil
  · intro v os r h
    unfold D_laws_markText at h
    split at h <;> first | (cases h; rfl) | cases h
  · refine all_cons ?_ (all_nil)
    · refine ⟨fun vs os => ?_, by kernel_rfl, fun k vs os r h => ?_⟩
      · show C_laws_markText_4.fn 0 vs os = none
        unfold C_laws_markText_4; dsimp only; split <;> rfl
      · change C_laws_markText_4.fn (k + 1) vs os = some r at h
        unfold C_laws_markText_4 at h; dsimp only at h
        split at h
        · exact ⟨4000, (c_laws_markText_4 k _ _).trans h⟩
        · cases h
  · intro args os r h
    change (S_laws_markText k).run args os = some r at h
    unfold S_laws_markText at h; dsimp only at h
    split at h
    · exact ⟨Nat.le_of_ble_eq_true (by kernel_rfl), rfl, rfl, k, 4000, (e_laws_markText k _).trans h⟩
    · cases h
noncomputable def S_laws_markHeldS (k : Nat) : Summ K TyK where
  R := Int × List DHeld
  modes := [.mv, .mv]
  run := fun args objs => match args, objs with
    | [.own 0, .lit (.int .i64 v1)], [.sl .held v2] => laws_markHeldS k v2 v1
    | _, _ => none
  ret := fun r => (.lit (.int .i64 r.1), [.sl .held r.2])
  quiet := false
noncomputable def D_laws_markHeldS (v : V) (os : Objs K TyK) : Option (Int × List DHeld) :=
  match v, os with
  | .lit (.int .i64 v1), [.sl .held v2] => some (v1, v2)
  | _, _ => none
noncomputable def C_laws_markHeldS_2 : Cut K TyK (Int × List DHeld) where
  slots := [0, 1, 5]
  fn := fun k vs os => match vs, os with
    | [.own 0, .lit (.int .i64 x0), .lit (.int .i64 x1)], [.sl .held x2] => laws_markHeldS_l2 k x0 x1 x2
    | _, _ => none
noncomputable abbrev G_laws_markHeldS (k : Nat) : FuncId → Option (Summ K TyK) := lookT [(123, S_laws_markText k)]
noncomputable abbrev L_laws_markHeldS : List (Nat × Cut K TyK (Int × List DHeld)) := [(2, C_laws_markHeldS_2)]
theorem c_laws_markHeldS_2 (k : Nat) (x0 : Int) (x1 : Int) (x2 : List DHeld) : run cod T (G_laws_markHeldS k) (lam L_laws_markHeldS k) (cutsOf L_laws_markHeldS) 1 (finish cod T false 1 [.tmp 4] D_laws_markHeldS) 4000 true (todoAt 2 (bodyOf Try.f71)) (envOf [0, 1, 5] [.own 0, .lit (.int .i64 x0), .lit (.int .i64 x1)]) [.sl .held x2] = laws_markHeldS_l2 (k + 1) x0 x1 x2 := by kernel_rfl
theorem e_laws_markHeldS (k : Nat) (a0 : List DHeld) (a1 : Int) : run cod T (G_laws_markHeldS k) (lam L_laws_markHeldS k) (cutsOf L_laws_markHeldS) 1 (finish cod T false 1 [.tmp 4] D_laws_markHeldS) 4000 false [.code (bodyOf Try.f71)] (envOf [0, 1] [.own 0, .lit (.int .i64 a1)]) [.sl .held a0] = laws_markHeldS k a0 a1 := by kernel_rfl
theorem ok_laws_markHeldS (k : Nat) : SummOk Try.prog cod 71 (S_laws_markHeldS k) := by
  refine summ_of (T := T) Try.f71 (G_laws_markHeldS) L_laws_markHeldS false [.tmp 4] 1 D_laws_markHeldS mixed (fun k => Known.of tok eok codOk ?_) (fun k => QuietOk.of ?_) Try.func71 (by kernel_rfl) (by kernel_rfl) (by kernel_rfl) (by kernel_rfl) (by kernel_rfl) ?_ ?_ [false] ?_
  · exact all_cons (ok_laws_markText k) (all_nil)
  · exact all_cons (fun h r => ⟨rfl, rfl⟩) (all_nil)
  · intro v os r h
    unfold D_laws_markHeldS at h
    split at h <;> first | (cases h; rfl) | cases h
  · refine all_cons ?_ (all_nil)
    · refine ⟨fun vs os => ?_, by kernel_rfl, fun k vs os r h => ?_⟩
      · show C_laws_markHeldS_2.fn 0 vs os = none
        unfold C_laws_markHeldS_2; dsimp only; split <;> rfl
      · change C_laws_markHeldS_2.fn (k + 1) vs os = some r at h
        unfold C_laws_markHeldS_2 at h; dsimp only at h
        split at h
        · exact ⟨4000, (c_laws_markHeldS_2 k _ _ _).trans h⟩
        · cases h
  · intro args os r h
    change (S_laws_markHeldS k).run args os = some r at h
    unfold S_laws_markHeldS at h; dsimp only at h
    split at h
    · exact ⟨Nat.le_of_ble_eq_true (by kernel_rfl), rfl, rfl, k, 4000, (e_laws_markHeldS k _ _).trans h⟩
    · cases h
noncomputable def S_laws_markStringS (k : Nat) : Summ K TyK where
  R := Int × List ByteArray
  modes := [.mv, .mv]
  run := fun args objs => match args, objs with
    | [.own 0, .lit (.int .i64 v1)], [.sl .str v2] => laws_markStringS k v2 v1
    | _, _ => none
  ret := fun r => (.lit (.int .i64 r.1), [.sl .str r.2])
  quiet := false
noncomputable def D_laws_markStringS (v : V) (os : Objs K TyK) : Option (Int × List ByteArray) :=
  match v, os with
  | .lit (.int .i64 v1), [.sl .str v2] => some (v1, v2)
  | _, _ => none
noncomputable def C_laws_markStringS_2 : Cut K TyK (Int × List ByteArray) where
  slots := [0, 1, 5]
  fn := fun k vs os => match vs, os with
    | [.own 0, .lit (.int .i64 x0), .lit (.int .i64 x1)], [.sl .str x2] => laws_markStringS_l2 k x0 x1 x2
    | _, _ => none
noncomputable abbrev G_laws_markStringS (k : Nat) : FuncId → Option (Summ K TyK) := lookT [(123, S_laws_markText k)]
noncomputable abbrev L_laws_markStringS : List (Nat × Cut K TyK (Int × List ByteArray)) := [(2, C_laws_markStringS_2)]
theorem c_laws_markStringS_2 (k : Nat) (x0 : Int) (x1 : Int) (x2 : List ByteArray) : run cod T (G_laws_markStringS k) (lam L_laws_markStringS k) (cutsOf L_laws_markStringS) 1 (finish cod T false 1 [.tmp 4] D_laws_markStringS) 4000 true (todoAt 2 (bodyOf Try.f72)) (envOf [0, 1, 5] [.own 0, .lit (.int .i64 x0), .lit (.int .i64 x1)]) [.sl .str x2] = laws_markStringS_l2 (k + 1) x0 x1 x2 := by kernel_rfl
theorem e_laws_markStringS (k : Nat) (a0 : List ByteArray) (a1 : Int) : run cod T (G_laws_markStringS k) (lam L_laws_markStringS k) (cutsOf L_laws_markStringS) 1 (finish cod T false 1 [.tmp 4] D_laws_markStringS) 4000 false [.code (bodyOf Try.f72)] (envOf [0, 1] [.own 0, .lit (.int .i64 a1)]) [.sl .str a0] = laws_markStringS k a0 a1 := by kernel_rfl
theorem ok_laws_markStringS (k : Nat) : SummOk Try.prog cod 72 (S_laws_markStringS k) := by
  refine summ_of (T := T) Try.f72 (G_laws_markStringS) L_laws_markStringS false [.tmp 4] 1 D_laws_markStringS mixed (fun k => Known.of tok eok codOk ?_) (fun k => QuietOk.of ?_) Try.func72 (by kernel_rfl) (by kernel_rfl) (by kernel_rfl) (by kernel_rfl) (by kernel_rfl) ?_ ?_ [false] ?_
  · exact all_cons (ok_laws_markText k) (all_nil)
  · exact all_cons (fun h r => ⟨rfl, rfl⟩) (all_nil)
  · intro v os r h
    unfold D_laws_markStringS at h
    split at h <;> first | (cases h; rfl) | cases h
  · refine all_cons ?_ (all_nil)
    · refine ⟨fun vs os => ?_, by kernel_rfl, fun k vs os r h => ?_⟩
      · show C_laws_markStringS_2.fn 0 vs os = none
        unfold C_laws_markStringS_2; dsimp only; split <;> rfl
      · change C_laws_markStringS_2.fn (k + 1) vs os = some r at h
        unfold C_laws_markStringS_2 at h; dsimp only at h
        split at h
        · exact ⟨4000, (c_laws_markStringS_2 k _ _ _).trans h⟩
        · cases h
  · intro args os r h
    change (S_laws_markStringS k).run args os = some r at h
    unfold S_laws_markStringS at h; dsimp only at h
    split at h
    · exact ⟨Nat.le_of_ble_eq_true (by kernel_rfl), rfl, rfl, k, 4000, (e_laws_markStringS k _ _).trans h⟩
    · cases h
noncomputable def S_laws_markTake (k : Nat) : Summ K TyK where
  R := Int × List DHeld × List ByteArray
  modes := [.mv, .mv]
  run := fun args objs => match args, objs with
    | [.agg [.lit (.int .i64 v1), .own 0, .lit (.string v2), .own 1], .lit (.int .i64 v3)], [.sl .held v4, .sl .str v5] => laws_markTake k (⟨v1, v4, v2, v5⟩ : DTake) v3
    | _, _ => none
  ret := fun r => (.lit (.int .i64 r.1), [.sl .held r.2.1, .sl .str r.2.2])
  quiet := false
noncomputable def D_laws_markTake (v : V) (os : Objs K TyK) : Option (Int × List DHeld × List ByteArray) :=
  match v, os with
  | .lit (.int .i64 v1), [.sl .held v2, .sl .str v3] => some (v1, v2, v3)
  | _, _ => none
noncomputable abbrev G_laws_markTake (k : Nat) : FuncId → Option (Summ K TyK) := lookT [(71, S_laws_markHeldS k), (72, S_laws_markStringS k)]
noncomputable abbrev L_laws_markTake : List (Nat × Cut K TyK (Int × List DHeld × List ByteArray)) := []
theorem e_laws_markTake (k : Nat) (a0 : DTake) (a1 : Int) : run cod T (G_laws_markTake k) (lam L_laws_markTake k) (cutsOf L_laws_markTake) 2 (finish cod T false 2 [.tmp 4] D_laws_markTake) 4000 false [.code (bodyOf Try.f20)] (envOf [0, 1] [.agg [.lit (.int .i64 a0.Next), .own 0, .lit (.string a0.Open), .own 1], .lit (.int .i64 a1)]) [.sl .held a0.Held, .sl .str a0.Ready] = laws_markTake k a0 a1 := by kernel_rfl
theorem ok_laws_markTake (k : Nat) : SummOk Try.prog cod 20 (S_laws_markTake k) := by
  refine summ_of (T := T) Try.f20 (G_laws_markTake) L_laws_markTake false [.tmp 4] 2 D_laws_markTake mixed (fun k => Known.of tok eok codOk ?_) (fun k => QuietOk.of ?_) Try.func20 (by kernel_rfl) (by kernel_rfl) (by kernel_rfl) (by kernel_rfl) (by kernel_rfl) ?_ ?_ [false, false] ?_
  · exact all_cons (ok_laws_markHeldS k) (all_cons (ok_laws_markStringS k) (all_nil))
  · exact all_cons (fun h r => by cases h) (all_cons (fun h r => by cases h) (all_nil))
  · intro v os r h
    unfold D_laws_markTake at h
    split at h <;> first | (cases h; rfl) | cases h
  · refine all_nil
  · intro args os r h
    change (S_laws_markTake k).run args os = some r at h
    unfold S_laws_markTake at h; dsimp only at h
    split at h
    · exact ⟨Nat.le_of_ble_eq_true (by kernel_rfl), rfl, rfl, k, 4000, (e_laws_markTake k ⟨_, _, _, _⟩ _).trans h⟩
    · cases h
noncomputable def S_laws_heldHeldS (k : Nat) : Summ K TyK where
  R := Int
  modes := [.bo, .bo]
  run := fun args objs => match args, objs with
    | [.inl true .held v1, .lit (.int .i64 v2)], [] => laws_heldHeldS k v1 v2
    | _, _ => none
  ret := fun r => (.lit (.int .i64 r), [])
  quiet := true
noncomputable def D_laws_heldHeldS (v : V) (os : Objs K TyK) : Option (Int) :=
  match v, os with
  | .lit (.int .i64 v1), [] => some v1
  | _, _ => none
noncomputable def C_laws_heldHeldS_2 : Cut K TyK (Int) where
  slots := [0, 1, 5]
  fn := fun k vs os => match vs, os with
    | [.inl true .held x0, .lit (.int .i64 x1), .lit (.int .i64 x2)], [] => laws_heldHeldS_l2 k x0 x1 x2
    | _, _ => none
noncomputable abbrev G_laws_heldHeldS (k : Nat) : FuncId → Option (Summ K TyK) := lookT [(123, S_laws_markText k)]
noncomputable abbrev L_laws_heldHeldS : List (Nat × Cut K TyK (Int)) := [(2, C_laws_heldHeldS_2)]
theorem c_laws_heldHeldS_2 (k : Nat) (x0 : List DHeld) (x1 : Int) (x2 : Int) : run cod T (G_laws_heldHeldS k) (lam L_laws_heldHeldS k) (cutsOf L_laws_heldHeldS) 0 (finish cod T false 0 [.tmp 4] D_laws_heldHeldS) 4000 true (todoAt 2 (bodyOf Try.f73)) (envOf [0, 1, 5] [.inl true .held x0, .lit (.int .i64 x1), .lit (.int .i64 x2)]) [] = laws_heldHeldS_l2 (k + 1) x0 x1 x2 := by kernel_rfl
theorem e_laws_heldHeldS (k : Nat) (a0 : List DHeld) (a1 : Int) : run cod T (G_laws_heldHeldS k) (lam L_laws_heldHeldS k) (cutsOf L_laws_heldHeldS) 0 (finish cod T false 0 [.tmp 4] D_laws_heldHeldS) 4000 false [.code (bodyOf Try.f73)] (envOf [0, 1] [.inl true .held a0, .lit (.int .i64 a1)]) [] = laws_heldHeldS k a0 a1 := by kernel_rfl
theorem ok_laws_heldHeldS (k : Nat) : SummOk Try.prog cod 73 (S_laws_heldHeldS k) := by
  refine summ_of (T := T) Try.f73 (G_laws_heldHeldS) L_laws_heldHeldS false [.tmp 4] 0 D_laws_heldHeldS mixed (fun k => Known.of tok eok codOk ?_) (fun k => QuietOk.of ?_) Try.func73 (by kernel_rfl) (by kernel_rfl) (by kernel_rfl) (by kernel_rfl) (by kernel_rfl) ?_ ?_ [] ?_
  · exact all_cons (ok_laws_markText k) (all_nil)
  · exact all_cons (fun h r => ⟨rfl, rfl⟩) (all_nil)
  · intro v os r h
    unfold D_laws_heldHeldS at h
    split at h <;> first | (cases h; rfl) | cases h
  · refine all_cons ?_ (all_nil)
    · refine ⟨fun vs os => ?_, by kernel_rfl, fun k vs os r h => ?_⟩
      · show C_laws_heldHeldS_2.fn 0 vs os = none
        unfold C_laws_heldHeldS_2; dsimp only; split <;> rfl
      · change C_laws_heldHeldS_2.fn (k + 1) vs os = some r at h
        unfold C_laws_heldHeldS_2 at h; dsimp only at h
        split at h
        · exact ⟨4000, (c_laws_heldHeldS_2 k _ _ _).trans h⟩
        · cases h
  · intro args os r h
    change (S_laws_heldHeldS k).run args os = some r at h
    unfold S_laws_heldHeldS at h; dsimp only at h
    split at h
    · exact ⟨Nat.le_of_ble_eq_true (by kernel_rfl), rfl, rfl, k, 4000, (e_laws_heldHeldS k _ _).trans h⟩
    · cases h
noncomputable def S_laws_heldStringS (k : Nat) : Summ K TyK where
  R := Int
  modes := [.bo, .bo]
  run := fun args objs => match args, objs with
    | [.inl true .str v1, .lit (.int .i64 v2)], [] => laws_heldStringS k v1 v2
    | _, _ => none
  ret := fun r => (.lit (.int .i64 r), [])
  quiet := true
noncomputable def D_laws_heldStringS (v : V) (os : Objs K TyK) : Option (Int) :=
  match v, os with
  | .lit (.int .i64 v1), [] => some v1
  | _, _ => none
noncomputable def C_laws_heldStringS_2 : Cut K TyK (Int) where
  slots := [0, 1, 5]
  fn := fun k vs os => match vs, os with
    | [.inl true .str x0, .lit (.int .i64 x1), .lit (.int .i64 x2)], [] => laws_heldStringS_l2 k x0 x1 x2
    | _, _ => none
noncomputable abbrev G_laws_heldStringS (k : Nat) : FuncId → Option (Summ K TyK) := lookT [(123, S_laws_markText k)]
noncomputable abbrev L_laws_heldStringS : List (Nat × Cut K TyK (Int)) := [(2, C_laws_heldStringS_2)]
theorem c_laws_heldStringS_2 (k : Nat) (x0 : List ByteArray) (x1 : Int) (x2 : Int) : run cod T (G_laws_heldStringS k) (lam L_laws_heldStringS k) (cutsOf L_laws_heldStringS) 0 (finish cod T false 0 [.tmp 4] D_laws_heldStringS) 4000 true (todoAt 2 (bodyOf Try.f74)) (envOf [0, 1, 5] [.inl true .str x0, .lit (.int .i64 x1), .lit (.int .i64 x2)]) [] = laws_heldStringS_l2 (k + 1) x0 x1 x2 := by kernel_rfl
theorem e_laws_heldStringS (k : Nat) (a0 : List ByteArray) (a1 : Int) : run cod T (G_laws_heldStringS k) (lam L_laws_heldStringS k) (cutsOf L_laws_heldStringS) 0 (finish cod T false 0 [.tmp 4] D_laws_heldStringS) 4000 false [.code (bodyOf Try.f74)] (envOf [0, 1] [.inl true .str a0, .lit (.int .i64 a1)]) [] = laws_heldStringS k a0 a1 := by kernel_rfl
theorem ok_laws_heldStringS (k : Nat) : SummOk Try.prog cod 74 (S_laws_heldStringS k) := by
  refine summ_of (T := T) Try.f74 (G_laws_heldStringS) L_laws_heldStringS false [.tmp 4] 0 D_laws_heldStringS mixed (fun k => Known.of tok eok codOk ?_) (fun k => QuietOk.of ?_) Try.func74 (by kernel_rfl) (by kernel_rfl) (by kernel_rfl) (by kernel_rfl) (by kernel_rfl) ?_ ?_ [] ?_
  · exact all_cons (ok_laws_markText k) (all_nil)
  · exact all_cons (fun h r => ⟨rfl, rfl⟩) (all_nil)
  · intro v os r h
    unfold D_laws_heldStringS at h
    split at h <;> first | (cases h; rfl) | cases h
  · refine all_cons ?_ (all_nil)
    · refine ⟨fun vs os => ?_, by kernel_rfl, fun k vs os r h => ?_⟩
      · show C_laws_heldStringS_2.fn 0 vs os = none
        unfold C_laws_heldStringS_2; dsimp only; split <;> rfl
      · change C_laws_heldStringS_2.fn (k + 1) vs os = some r at h
        unfold C_laws_heldStringS_2 at h; dsimp only at h
        split at h
        · exact ⟨4000, (c_laws_heldStringS_2 k _ _ _).trans h⟩
        · cases h
  · intro args os r h
    change (S_laws_heldStringS k).run args os = some r at h
    unfold S_laws_heldStringS at h; dsimp only at h
    split at h
    · exact ⟨Nat.le_of_ble_eq_true (by kernel_rfl), rfl, rfl, k, 4000, (e_laws_heldStringS k _ _).trans h⟩
    · cases h
noncomputable def S_laws_heldTake (k : Nat) : Summ K TyK where
  R := Int
  modes := [.bo, .bo]
  run := fun args objs => match args, objs with
    | [.agg [.lit (.int .i64 v1), .inl true .held v2, .lit (.string v3), .inl true .str v4], .lit (.int .i64 v5)], [] => laws_heldTake k (⟨v1, v2, v3, v4⟩ : DTake) v5
    | _, _ => none
  ret := fun r => (.lit (.int .i64 r), [])
  quiet := true
noncomputable def D_laws_heldTake (v : V) (os : Objs K TyK) : Option (Int) :=
  match v, os with
  | .lit (.int .i64 v1), [] => some v1
  | _, _ => none
noncomputable abbrev G_laws_heldTake (k : Nat) : FuncId → Option (Summ K TyK) := lookT [(73, S_laws_heldHeldS k), (74, S_laws_heldStringS k)]
noncomputable abbrev L_laws_heldTake : List (Nat × Cut K TyK (Int)) := []
theorem e_laws_heldTake (k : Nat) (a0 : DTake) (a1 : Int) : run cod T (G_laws_heldTake k) (lam L_laws_heldTake k) (cutsOf L_laws_heldTake) 0 (finish cod T false 0 [.tmp 4] D_laws_heldTake) 4000 false [.code (bodyOf Try.f21)] (envOf [0, 1] [.agg [.lit (.int .i64 a0.Next), .inl true .held a0.Held, .lit (.string a0.Open), .inl true .str a0.Ready], .lit (.int .i64 a1)]) [] = laws_heldTake k a0 a1 := by kernel_rfl
theorem ok_laws_heldTake (k : Nat) : SummOk Try.prog cod 21 (S_laws_heldTake k) := by
  refine summ_of (T := T) Try.f21 (G_laws_heldTake) L_laws_heldTake false [.tmp 4] 0 D_laws_heldTake mixed (fun k => Known.of tok eok codOk ?_) (fun k => QuietOk.of ?_) Try.func21 (by kernel_rfl) (by kernel_rfl) (by kernel_rfl) (by kernel_rfl) (by kernel_rfl) ?_ ?_ [] ?_
  · exact all_cons (ok_laws_heldHeldS k) (all_cons (ok_laws_heldStringS k) (all_nil))
  · exact all_cons (fun h r => ⟨rfl, rfl⟩) (all_cons (fun h r => ⟨rfl, rfl⟩) (all_nil))
  · intro v os r h
    unfold D_laws_heldTake at h
    split at h <;> first | (cases h; rfl) | cases h
  · refine all_nil
  · intro args os r h
    change (S_laws_heldTake k).run args os = some r at h
    unfold S_laws_heldTake at h; dsimp only at h
    split at h
    · exact ⟨Nat.le_of_ble_eq_true (by kernel_rfl), rfl, rfl, k, 4000, (e_laws_heldTake k ⟨_, _, _, _⟩ _).trans h⟩
    · cases h
noncomputable def S_spec_TakePart (k : Nat) : Summ K TyK where
  R := DTake
  modes := [.bo, .bo, .bo]
  run := fun args objs => match args, objs with
    | [.agg [.lit (.int .i64 v1), .inl true .held v2, .lit (.string v3), .inl true .str v4], .lit (.int .i64 v5), .agg [.lit (.string v6), .lit (.bool v7)]], [] => spec_TakePart k (⟨v1, v2, v3, v4⟩ : DTake) v5 (⟨v6, v7⟩ : DPart)
    | _, _ => none
  ret := fun r => (.agg [.lit (.int .i64 r.Next), .own 0, .lit (.string r.Open), .own 1], [.sl .held r.Held, .sl .str r.Ready])
  quiet := false
noncomputable def D_spec_TakePart (v : V) (os : Objs K TyK) : Option (DTake) :=
  match v, os with
  | .agg [.lit (.int .i64 v1), .own 0, .lit (.string v2), .own 1], [.sl .held v3, .sl .str v4] => some (⟨v1, v3, v2, v4⟩ : DTake)
  | _, _ => none
noncomputable def C_spec_TakePart_9 : Cut K TyK (DTake) where
  slots := [1, 3, 5, 6, 7, 8, 9, 10]
  fn := fun k vs os => match vs, os with
    | [.lit (.int .i64 x0), .ref 0 0, .ref 1 0, .ref 2 0, .ref 3 0, .own 4, .lit (.bool x1), .lit (.int .i64 x2)], [.box [.lit (.int .i64 x3), .inl true .held x4, .lit (.string x5), .inl true .str x6], .box [.lit (.string x7), .lit (.bool x8)], .box [.lit (.int .i64 x9), .own 5, .lit (.string x10), .own 6], .box [.lit (.int .i64 x11), .own 7, .lit (.string x12), .own 8], .sl .held x13, .sl .held x14, .sl .str x15, .sl .held x16, .sl .str x17] => spec_TakePart_l9 k x0 x1 x2 x3 x4 x5 x6 x7 x8 x9 x10 x11 x12 x13 x14 x15 x16 x17
    | _, _ => none
noncomputable def C_spec_TakePart_16 : Cut K TyK (DTake) where
  slots := [1, 3, 5, 6, 7, 8, 9, 10]
  fn := fun k vs os => match vs, os with
    | [.lit (.int .i64 x0), .ref 0 0, .ref 1 0, .ref 2 0, .ref 3 0, .own 4, .lit (.bool x1), .lit (.int .i64 x2)], [.box [.lit (.int .i64 x3), .inl true .held x4, .lit (.string x5), .inl true .str x6], .box [.lit (.string x7), .lit (.bool x8)], .box [.lit (.int .i64 x9), .own 5, .lit (.string x10), .own 6], .box [.lit (.int .i64 x11), .own 7, .lit (.string x12), .own 8], .sl .held x13, .sl .held x14, .sl .str x15, .sl .held x16, .sl .str x17] => spec_TakePart_l16 k x0 x1 x2 x3 x4 x5 x6 x7 x8 x9 x10 x11 x12 x13 x14 x15 x16 x17
    | _, _ => none
noncomputable def C_spec_TakePart_19 : Cut K TyK (DTake) where
  slots := [6, 7, 8]
  fn := fun k vs os => match vs, os with
    | [.ref 0 0, .ref 1 0, .own 2], [.box [.lit (.int .i64 x0), .own 3, .lit (.string x1), .own 4], .box [.lit (.int .i64 x2), .own 5, .lit (.string x3), .own 6], .sl .held x4, .sl .held x5, .sl .str x6, .sl .held x7, .sl .str x8] => spec_TakePart_l19 k x0 x1 x2 x3 x4 x5 x6 x7 x8
    | _, _ => none
noncomputable abbrev G_spec_TakePart (k : Nat) : FuncId → Option (Summ K TyK) := lookT [(61, S_spec_ValidTake k), (62, S_spec_l5Copy k), (75, S_spec_l5Near k), (63, S_spec_l5In k)]
noncomputable abbrev L_spec_TakePart : List (Nat × Cut K TyK (DTake)) := [(9, C_spec_TakePart_9), (16, C_spec_TakePart_16), (19, C_spec_TakePart_19)]
theorem c_spec_TakePart_9 (k : Nat) (x0 : Int) (x1 : Bool) (x2 : Int) (x3 : Int) (x4 : List DHeld) (x5 : ByteArray) (x6 : List ByteArray) (x7 : ByteArray) (x8 : Bool) (x9 : Int) (x10 : ByteArray) (x11 : Int) (x12 : ByteArray) (x13 : List DHeld) (x14 : List DHeld) (x15 : List ByteArray) (x16 : List DHeld) (x17 : List ByteArray) : run cod T (G_spec_TakePart k) (lam L_spec_TakePart k) (cutsOf L_spec_TakePart) 0 (finish cod T false 0 [.cell 6 29] D_spec_TakePart) 4000 true (todoAt 9 (bodyOf Try.f23)) (envOf [1, 3, 5, 6, 7, 8, 9, 10] [.lit (.int .i64 x0), .ref 0 0, .ref 1 0, .ref 2 0, .ref 3 0, .own 4, .lit (.bool x1), .lit (.int .i64 x2)]) [.box [.lit (.int .i64 x3), .inl true .held x4, .lit (.string x5), .inl true .str x6], .box [.lit (.string x7), .lit (.bool x8)], .box [.lit (.int .i64 x9), .own 5, .lit (.string x10), .own 6], .box [.lit (.int .i64 x11), .own 7, .lit (.string x12), .own 8], .sl .held x13, .sl .held x14, .sl .str x15, .sl .held x16, .sl .str x17] = spec_TakePart_l9 (k + 1) x0 x1 x2 x3 x4 x5 x6 x7 x8 x9 x10 x11 x12 x13 x14 x15 x16 x17 := by kernel_rfl
theorem c_spec_TakePart_16 (k : Nat) (x0 : Int) (x1 : Bool) (x2 : Int) (x3 : Int) (x4 : List DHeld) (x5 : ByteArray) (x6 : List ByteArray) (x7 : ByteArray) (x8 : Bool) (x9 : Int) (x10 : ByteArray) (x11 : Int) (x12 : ByteArray) (x13 : List DHeld) (x14 : List DHeld) (x15 : List ByteArray) (x16 : List DHeld) (x17 : List ByteArray) : run cod T (G_spec_TakePart k) (lam L_spec_TakePart k) (cutsOf L_spec_TakePart) 0 (finish cod T false 0 [.cell 6 29] D_spec_TakePart) 4000 true (todoAt 16 (bodyOf Try.f23)) (envOf [1, 3, 5, 6, 7, 8, 9, 10] [.lit (.int .i64 x0), .ref 0 0, .ref 1 0, .ref 2 0, .ref 3 0, .own 4, .lit (.bool x1), .lit (.int .i64 x2)]) [.box [.lit (.int .i64 x3), .inl true .held x4, .lit (.string x5), .inl true .str x6], .box [.lit (.string x7), .lit (.bool x8)], .box [.lit (.int .i64 x9), .own 5, .lit (.string x10), .own 6], .box [.lit (.int .i64 x11), .own 7, .lit (.string x12), .own 8], .sl .held x13, .sl .held x14, .sl .str x15, .sl .held x16, .sl .str x17] = spec_TakePart_l16 (k + 1) x0 x1 x2 x3 x4 x5 x6 x7 x8 x9 x10 x11 x12 x13 x14 x15 x16 x17 := by kernel_rfl
theorem c_spec_TakePart_19 (k : Nat) (x0 : Int) (x1 : ByteArray) (x2 : Int) (x3 : ByteArray) (x4 : List DHeld) (x5 : List DHeld) (x6 : List ByteArray) (x7 : List DHeld) (x8 : List ByteArray) : run cod T (G_spec_TakePart k) (lam L_spec_TakePart k) (cutsOf L_spec_TakePart) 0 (finish cod T false 0 [.cell 6 29] D_spec_TakePart) 4000 true (todoAt 19 (bodyOf Try.f23)) (envOf [6, 7, 8] [.ref 0 0, .ref 1 0, .own 2]) [.box [.lit (.int .i64 x0), .own 3, .lit (.string x1), .own 4], .box [.lit (.int .i64 x2), .own 5, .lit (.string x3), .own 6], .sl .held x4, .sl .held x5, .sl .str x6, .sl .held x7, .sl .str x8] = spec_TakePart_l19 (k + 1) x0 x1 x2 x3 x4 x5 x6 x7 x8 := by kernel_rfl
theorem e_spec_TakePart (k : Nat) (a0 : DTake) (a1 : Int) (a2 : DPart) : run cod T (G_spec_TakePart k) (lam L_spec_TakePart k) (cutsOf L_spec_TakePart) 0 (finish cod T false 0 [.cell 6 29] D_spec_TakePart) 4000 false [.code (bodyOf Try.f23)] (envOf [0, 1, 2] [.agg [.lit (.int .i64 a0.Next), .inl true .held a0.Held, .lit (.string a0.Open), .inl true .str a0.Ready], .lit (.int .i64 a1), .agg [.lit (.string a2.Text), .lit (.bool a2.Last)]]) [] = spec_TakePart k a0 a1 a2 := by kernel_rfl
theorem ok_spec_TakePart (k : Nat) : SummOk Try.prog cod 23 (S_spec_TakePart k) := by
  refine summ_of (T := T) Try.f23 (G_spec_TakePart) L_spec_TakePart false [.cell 6 29] 0 D_spec_TakePart mixed (fun k => Known.of tok eok codOk ?_) (fun k => QuietOk.of ?_) Try.func23 (by kernel_rfl) (by kernel_rfl) (by kernel_rfl) (by kernel_rfl) (by kernel_rfl) ?_ ?_ [] ?_
  · exact all_cons (ok_spec_ValidTake k) (all_cons (ok_spec_l5Copy k) (all_cons (ok_spec_l5Near k) (all_cons (ok_spec_l5In k) (all_nil))))
  · exact all_cons (fun h r => ⟨rfl, rfl⟩) (all_cons (fun h r => by cases h) (all_cons (fun h r => ⟨rfl, rfl⟩) (all_cons (fun h r => by cases h) (all_nil))))
  · intro v os r h
    unfold D_spec_TakePart at h
    split at h <;> first | (cases h; rfl) | cases h
  · refine all_cons ?_ (all_cons ?_ (all_cons ?_ (all_nil)))
    · refine ⟨fun vs os => ?_, by kernel_rfl, fun k vs os r h => ?_⟩
      · show C_spec_TakePart_9.fn 0 vs os = none
        unfold C_spec_TakePart_9; dsimp only; split <;> rfl
      · change C_spec_TakePart_9.fn (k + 1) vs os = some r at h
        unfold C_spec_TakePart_9 at h; dsimp only at h
        split at h
        · exact ⟨4000, (c_spec_TakePart_9 k _ _ _ _ _ _ _ _ _ _ _ _ _ _ _ _ _ _).trans h⟩
        · cases h
    · refine ⟨fun vs os => ?_, by kernel_rfl, fun k vs os r h => ?_⟩
      · show C_spec_TakePart_16.fn 0 vs os = none
        unfold C_spec_TakePart_16; dsimp only; split <;> rfl
      · change C_spec_TakePart_16.fn (k + 1) vs os = some r at h
        unfold C_spec_TakePart_16 at h; dsimp only at h
        split at h
        · exact ⟨4000, (c_spec_TakePart_16 k _ _ _ _ _ _ _ _ _ _ _ _ _ _ _ _ _ _).trans h⟩
        · cases h
    · refine ⟨fun vs os => ?_, by kernel_rfl, fun k vs os r h => ?_⟩
      · show C_spec_TakePart_19.fn 0 vs os = none
        unfold C_spec_TakePart_19; dsimp only; split <;> rfl
      · change C_spec_TakePart_19.fn (k + 1) vs os = some r at h
        unfold C_spec_TakePart_19 at h; dsimp only at h
        split at h
        · exact ⟨4000, (c_spec_TakePart_19 k _ _ _ _ _ _ _ _ _).trans h⟩
        · cases h
  · intro args os r h
    change (S_spec_TakePart k).run args os = some r at h
    unfold S_spec_TakePart at h; dsimp only at h
    split at h
    · exact ⟨Nat.le_of_ble_eq_true (by kernel_rfl), rfl, rfl, k, 4000, (e_spec_TakePart k ⟨_, _, _, _⟩ _ ⟨_, _⟩).trans h⟩
    · cases h
noncomputable def S_impl_TakePart (k : Nat) : Summ K TyK where
  R := DTake
  modes := [.bo, .bo, .bo]
  run := fun args objs => match args, objs with
    | [.agg [.lit (.int .i64 v1), .inl true .held v2, .lit (.string v3), .inl true .str v4], .lit (.int .i64 v5), .agg [.lit (.string v6), .lit (.bool v7)]], [] => impl_TakePart k (⟨v1, v2, v3, v4⟩ : DTake) v5 (⟨v6, v7⟩ : DPart)
    | _, _ => none
  ret := fun r => (.agg [.lit (.int .i64 r.Next), .own 0, .lit (.string r.Open), .own 1], [.sl .held r.Held, .sl .str r.Ready])
  quiet := false
noncomputable def D_impl_TakePart (v : V) (os : Objs K TyK) : Option (DTake) :=
  match v, os with
  | .agg [.lit (.int .i64 v1), .own 0, .lit (.string v2), .own 1], [.sl .held v3, .sl .str v4] => some (⟨v1, v3, v2, v4⟩ : DTake)
  | _, _ => none
noncomputable def C_impl_TakePart_7 : Cut K TyK (DTake) where
  slots := [1, 5, 6, 7, 8]
  fn := fun k vs os => match vs, os with
    | [.lit (.int .i64 x0), .ref 0 0, .ref 1 0, .ref 2 0, .lit (.int .i64 x1)], [.box [.lit (.string x2), .lit (.bool x3)], .box [.lit (.int .i64 x4), .own 3, .lit (.string x5), .own 4], .box [.lit (.int .i64 x6), .own 5, .lit (.string x7), .own 6], .sl .held x8, .sl .str x9, .sl .held x10, .sl .str x11] => impl_TakePart_l7 k x0 x1 x2 x3 x4 x5 x6 x7 x8 x9 x10 x11
    | _, _ => none
noncomputable abbrev G_impl_TakePart (k : Nat) : FuncId → Option (Summ K TyK) := lookT [(66, S_impl_ValidTake k), (67, S_impl_copyTake k), (76, S_impl_in k), (68, S_impl_flow k)]
noncomputable abbrev L_impl_TakePart : List (Nat × Cut K TyK (DTake)) := [(7, C_impl_TakePart_7)]
theorem c_impl_TakePart_7 (k : Nat) (x0 : Int) (x1 : Int) (x2 : ByteArray) (x3 : Bool) (x4 : Int) (x5 : ByteArray) (x6 : Int) (x7 : ByteArray) (x8 : List DHeld) (x9 : List ByteArray) (x10 : List DHeld) (x11 : List ByteArray) : run cod T (G_impl_TakePart k) (lam L_impl_TakePart k) (cutsOf L_impl_TakePart) 0 (finish cod T false 0 [.cell 6 29] D_impl_TakePart) 4000 true (todoAt 7 (bodyOf Try.f25)) (envOf [1, 5, 6, 7, 8] [.lit (.int .i64 x0), .ref 0 0, .ref 1 0, .ref 2 0, .lit (.int .i64 x1)]) [.box [.lit (.string x2), .lit (.bool x3)], .box [.lit (.int .i64 x4), .own 3, .lit (.string x5), .own 4], .box [.lit (.int .i64 x6), .own 5, .lit (.string x7), .own 6], .sl .held x8, .sl .str x9, .sl .held x10, .sl .str x11] = impl_TakePart_l7 (k + 1) x0 x1 x2 x3 x4 x5 x6 x7 x8 x9 x10 x11 := by kernel_rfl
theorem e_impl_TakePart (k : Nat) (a0 : DTake) (a1 : Int) (a2 : DPart) : run cod T (G_impl_TakePart k) (lam L_impl_TakePart k) (cutsOf L_impl_TakePart) 0 (finish cod T false 0 [.cell 6 29] D_impl_TakePart) 4000 false [.code (bodyOf Try.f25)] (envOf [0, 1, 2] [.agg [.lit (.int .i64 a0.Next), .inl true .held a0.Held, .lit (.string a0.Open), .inl true .str a0.Ready], .lit (.int .i64 a1), .agg [.lit (.string a2.Text), .lit (.bool a2.Last)]]) [] = impl_TakePart k a0 a1 a2 := by kernel_rfl
theorem ok_impl_TakePart (k : Nat) : SummOk Try.prog cod 25 (S_impl_TakePart k) := by
  refine summ_of (T := T) Try.f25 (G_impl_TakePart) L_impl_TakePart false [.cell 6 29] 0 D_impl_TakePart mixed (fun k => Known.of tok eok codOk ?_) (fun k => QuietOk.of ?_) Try.func25 (by kernel_rfl) (by kernel_rfl) (by kernel_rfl) (by kernel_rfl) (by kernel_rfl) ?_ ?_ [] ?_
  · exact all_cons (ok_impl_ValidTake k) (all_cons (ok_impl_copyTake k) (all_cons (ok_impl_in k) (all_cons (ok_impl_flow k) (all_nil))))
  · exact all_cons (fun h r => ⟨rfl, rfl⟩) (all_cons (fun h r => by cases h) (all_cons (fun h r => ⟨rfl, rfl⟩) (all_cons (fun h r => by cases h) (all_nil))))
  · intro v os r h
    unfold D_impl_TakePart at h
    split at h <;> first | (cases h; rfl) | cases h
  · refine all_cons ?_ (all_nil)
    · refine ⟨fun vs os => ?_, by kernel_rfl, fun k vs os r h => ?_⟩
      · show C_impl_TakePart_7.fn 0 vs os = none
        unfold C_impl_TakePart_7; dsimp only; split <;> rfl
      · change C_impl_TakePart_7.fn (k + 1) vs os = some r at h
        unfold C_impl_TakePart_7 at h; dsimp only at h
        split at h
        · exact ⟨4000, (c_impl_TakePart_7 k _ _ _ _ _ _ _ _ _ _ _ _).trans h⟩
        · cases h
  · intro args os r h
    change (S_impl_TakePart k).run args os = some r at h
    unfold S_impl_TakePart at h; dsimp only at h
    split at h
    · exact ⟨Nat.le_of_ble_eq_true (by kernel_rfl), rfl, rfl, k, 4000, (e_impl_TakePart k ⟨_, _, _, _⟩ _ ⟨_, _⟩).trans h⟩
    · cases h
noncomputable def S_laws_FnExactTakePart (k : Nat) : Summ K TyK where
  R := Bool
  modes := [.pe, .pe, .pe]
  run := fun args objs => match args, objs with
    | [.agg [.lit (.int .i64 v1), .inl false .held v2, .lit (.string v3), .inl false .str v4], .lit (.int .i64 v5), .agg [.lit (.string v6), .lit (.bool v7)]], [] => laws_FnExactTakePart k (⟨v1, v2, v3, v4⟩ : DTake) v5 (⟨v6, v7⟩ : DPart)
    | _, _ => none
  ret := fun r => (.lit (.bool r), [])
  quiet := true
noncomputable def D_laws_FnExactTakePart (v : V) (os : Objs K TyK) : Option (Bool) :=
  match v, os with
  | .lit (.bool v1), [] => some v1
  | _, _ => none
noncomputable abbrev G_laws_FnExactTakePart (k : Nat) : FuncId → Option (Summ K TyK) := lookT [(15, S_laws_szTake k), (22, S_laws_szPart k), (17, S_laws_toTake k), (24, S_laws_toPart k), (23, S_spec_TakePart k), (25, S_impl_TakePart k), (19, S_laws_eqTake k), (20, S_laws_markTake k), (21, S_laws_heldTake k)]
noncomputable abbrev L_laws_FnExactTakePart : List (Nat × Cut K TyK (Bool)) := []
theorem e_laws_FnExactTakePart (k : Nat) (a0 : DTake) (a1 : Int) (a2 : DPart) : run cod T (G_laws_FnExactTakePart k) (lam L_laws_FnExactTakePart k) (cutsOf L_laws_FnExactTakePart) 0 (finish cod T false 0 [.tmp 6] D_laws_FnExactTakePart) 4000 false [.code (bodyOf Try.f4)] (envOf [0, 1, 2] [.agg [.lit (.int .i64 a0.Next), .inl false .held a0.Held, .lit (.string a0.Open), .inl false .str a0.Ready], .lit (.int .i64 a1), .agg [.lit (.string a2.Text), .lit (.bool a2.Last)]]) [] = laws_FnExactTakePart k a0 a1 a2 := by kernel_rfl
theorem ok_laws_FnExactTakePart (k : Nat) : SummOk Try.prog cod 4 (S_laws_FnExactTakePart k) := by
  refine summ_of (T := T) Try.f4 (G_laws_FnExactTakePart) L_laws_FnExactTakePart false [.tmp 6] 0 D_laws_FnExactTakePart mixed (fun k => Known.of tok eok codOk ?_) (fun k => QuietOk.of ?_) Try.func4 (by kernel_rfl) (by kernel_rfl) (by kernel_rfl) (by kernel_rfl) (by kernel_rfl) ?_ ?_ [] ?_
  · exact all_cons (ok_laws_szTake k) (all_cons (ok_laws_szPart k) (all_cons (ok_laws_toTake k) (all_cons (ok_laws_toPart k) (all_cons (ok_spec_TakePart k) (all_cons (ok_impl_TakePart k) (all_cons (ok_laws_eqTake k) (all_cons (ok_laws_markTake k) (all_cons (ok_laws_heldTake k) (all_nil)))))))))
  · exact all_cons (fun h r => ⟨rfl, rfl⟩) (all_cons (fun h r => ⟨rfl, rfl⟩) (all_cons (fun h r => by cases h) (all_cons (fun h r => ⟨rfl, rfl⟩) (all_cons (fun h r => by cases h) (all_cons (fun h r => by cases h) (all_cons (fun h r => ⟨rfl, rfl⟩) (all_cons (fun h r => by cases h) (all_cons (fun h r => ⟨rfl, rfl⟩) (all_nil)))))))))
  · intro v os r h
    unfold D_laws_FnExactTakePart at h
    split at h <;> first | (cases h; rfl) | cases h
  · refine all_nil
  · intro args os r h
    change (S_laws_FnExactTakePart k).run args os = some r at h
    unfold S_laws_FnExactTakePart at h; dsimp only at h
    split at h
    · exact ⟨Nat.le_of_ble_eq_true (by kernel_rfl), rfl, rfl, k, 4000, (e_laws_FnExactTakePart k ⟨_, _, _, _⟩ _ ⟨_, _⟩).trans h⟩
    · cases h
end Km.X
